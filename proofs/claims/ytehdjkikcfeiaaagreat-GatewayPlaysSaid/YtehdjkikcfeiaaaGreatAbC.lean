/- Sums of bytes (plain), and numbers of 32 bits. -/
import Derived.Test.YtehdjkikcfeiaaaGreatAbV
namespace Go.Ab
set_option linter.unusedVariables false
set_option linter.unusedSimpArgs false
section
def cF (x : Nat) : Nat := if x % 2 = 1 then (x / 2) ^^^ 2197175160 else x / 2
def cN (x : Nat) : Nat := cF (cF (cF (cF x)))
def cB (x b : Nat) : Nat := cN (cN (x ^^^ b))
def cS (x : Nat) (s : List UInt8) : Nat := s.foldl (fun x b => cB x b.toNat) x
def crc (s : List UInt8) : Nat := 4294967295 - cS 4294967295 s
theorem xor2 (x y : Nat) : (x ^^^ y) % 2 = (x % 2 + y % 2) % 2 := by
 have h := Nat.xor_mod_two_eq_one (a := x) (b := y)
 rcases Nat.mod_two_eq_zero_or_one x with hx | hx <;> rcases Nat.mod_two_eq_zero_or_one y with hy | hy <;> rcases Nat.mod_two_eq_zero_or_one (x ^^^ y) with hz | hz <;> simp_all
theorem xor_div2 (x y : Nat) : (x ^^^ y) / 2 = (x / 2) ^^^ (y / 2) := Nat.xor_div_two
theorem cF_xor (x y : Nat) : cF (x ^^^ y) = cF x ^^^ cF y := by
 unfold cF
 rw [xor2, xor_div2]
 rcases Nat.mod_two_eq_zero_or_one x with hx | hx <;> rcases Nat.mod_two_eq_zero_or_one y with hy | hy <;> simp only [hx, hy, Nat.zero_add, Nat.add_zero, Nat.reduceAdd, Nat.reduceMod, if_true, if_false, Nat.zero_ne_one, Nat.mod_self, reduceIte]
 · rw [← Nat.xor_assoc]
 · rw [Nat.xor_assoc, Nat.xor_assoc, Nat.xor_comm 2197175160]
 · rw [Nat.xor_assoc, Nat.xor_comm 2197175160, Nat.xor_assoc, Nat.xor_self, Nat.xor_zero]
theorem cN_xor (x y : Nat) : cN (x ^^^ y) = cN x ^^^ cN y := by simp only [cN, cF_xor]
theorem cF_dbl (y : Nat) : cF (2 * y) = y := by
 unfold cF
 rw [if_neg (by omega)]; omega
theorem cN_16 (y : Nat) : cN (16 * y) = y := by
 unfold cN
 rw [show 16 * y = 2 * (2 * (2 * (2 * y))) by omega, cF_dbl, cF_dbl, cF_dbl, cF_dbl]
theorem split16 (x : Nat) : x = (x % 16) ^^^ (16 * (x / 16)) := by
 refine Nat.eq_of_testBit_eq fun i => ?_
 have h16 : (16 : Nat) = 2 ^ 4 := rfl
 rw [Nat.testBit_xor, h16, Nat.testBit_mod_two_pow, Nat.testBit_two_pow_mul, ← Nat.shiftRight_eq_div_pow, Nat.testBit_shiftRight]
 by_cases hi : i < 4
 · have : ¬ (i ≥ 4) := by omega
   simp [hi, this]
 · have h2 : i ≥ 4 := by omega
   simp only [hi, decide_false, Bool.false_and, h2, decide_true, Bool.true_and, Bool.false_xor]
   congr 1; omega
theorem cN_tab (x : Nat) : cN x = cN (x % 16) ^^^ (x / 16) := by
 conv => lhs; rw [split16 x]
 rw [cN_xor, cN_16]
theorem cF_lt {x : Nat} (h : x < 4294967296) : cF x < 4294967296 := by
 unfold cF
 split
 · exact Nat.xor_lt_two_pow (n := 32) (by omega) (by decide)
 · omega
theorem cN_lt {x : Nat} (h : x < 4294967296) : cN x < 4294967296 := cF_lt (cF_lt (cF_lt (cF_lt h)))
theorem cB_lt {x b : Nat} (h : x < 4294967296) (hb : b < 256) : cB x b < 4294967296 := cN_lt (cN_lt (Nat.xor_lt_two_pow (n := 32) h (by omega)))
theorem cS_lt {x : Nat} (s : List UInt8) (h : x < 4294967296) : cS x s < 4294967296 := by
 unfold cS
 induction s generalizing x with
 | nil => exact h
 | cons b s ih => exact ih (cB_lt h b.toNat_lt)
theorem crc_lt (s : List UInt8) : crc s < 4294967296 := by unfold crc; omega
theorem cS_snoc (x : Nat) (s : List UInt8) (b : UInt8) : cS x (s ++ [b]) = cB (cS x s) b.toNat := by simp [cS]
def cT (x bit : Nat) : Nat := if (x + bit) % 2 = 1 then (x / 2) ^^^ 2197175160 else x / 2
theorem cT_F (x b : Nat) : cT x (b % 2) ^^^ (b / 2) = cF (x ^^^ b) := by
 unfold cT cF
 rw [xor2, xor_div2]
 rcases Nat.mod_two_eq_zero_or_one x with hx | hx <;> rcases Nat.mod_two_eq_zero_or_one b with hy | hy <;> simp only [hx, hy, Nat.add_mod, Nat.zero_add, Nat.add_zero, Nat.reduceAdd, Nat.reduceMod, if_true, if_false, Nat.zero_ne_one, Nat.mod_self, reduceIte]
 · rw [Nat.xor_assoc, Nat.xor_comm 2197175160, Nat.xor_assoc]
 · rw [Nat.xor_assoc, Nat.xor_comm 2197175160, Nat.xor_assoc]
def cTs : Nat → Nat → Nat → Nat
 | 0, x, _ => x
 | k + 1, x, b => cTs k (cT x (b % 2)) (b / 2)
def cFs : Nat → Nat → Nat
 | 0, x => x
 | k + 1, x => cFs k (cF x)
theorem cTs_F : ∀ (k x b : Nat), b < 2 ^ k → cTs k x b = cFs k (x ^^^ b)
 | 0, x, b, h => by
  have : b = 0 := by simpa using h
  subst this; simp [cTs, cFs]
 | k + 1, x, b, h => by
  have : b / 2 < 2 ^ k := by rw [Nat.pow_succ] at h; omega
  rw [cTs, cFs, cTs_F k _ _ this, cT_F]
theorem cTs_8 (x : Nat) (b : UInt8) : cTs 8 x b.toNat = cB x b.toNat := by
 rw [cTs_F 8 _ _ b.toNat_lt]; rfl
theorem cTs_more : ∀ (k x b : Nat), cTs (k + 1) x b = cT (cTs k x b) (b / 2 ^ k % 2)
 | 0, x, b => by simp [cTs]
 | k + 1, x, b => by
  rw [cTs, cTs_more k, cTs, Nat.div_div_eq_div_mul, show 2 * 2 ^ k = 2 ^ (k + 1) by rw [Nat.pow_succ]; omega]
theorem cT_lt {x b : Nat} (h : x < 4294967296) : cT x b < 4294967296 := by
 unfold cT
 split
 · exact Nat.xor_lt_two_pow (n := 32) (by omega) (by decide)
 · omega
theorem cTs_lt : ∀ (k x b : Nat), x < 4294967296 → cTs k x b < 4294967296
 | 0, _, _, h => h
 | k + 1, _, _, h => cTs_lt k _ _ (cT_lt h)
theorem wrap_u32 {n : Nat} (h : n < 4294967296) : IntKind.u32.wrap (n : Int) = n := by
 unfold IntKind.wrap
 simp [IntKind.signed, IntKind.bits]
 omega
theorem ofInt_nat (w n : Nat) : BitVec.ofInt w (n : Int) = BitVec.ofNat w n := by
 apply BitVec.eq_of_toNat_eq
 simp
theorem ofInt_toNat {w n : Nat} (h : n < 2 ^ w) : (BitVec.ofInt w (n : Int)).toNat = n := by
 rw [ofInt_nat, BitVec.toNat_ofNat, Nat.mod_eq_of_lt h]
theorem i_xor32 {a b : Nat} (ha : a < 4294967296) (hb : b < 4294967296) : aInt .xor .u32 (a : Int) (b : Int) = some (.sc (.int .u32 ((a ^^^ b : Nat) : Int))) := by
 have hx : a ^^^ b < 4294967296 := Nat.xor_lt_two_pow (n := 32) ha hb
 have h : (BitVec.ofInt IntKind.u32.bits (a : Int) ^^^ BitVec.ofInt IntKind.u32.bits (b : Int)).toNat = a ^^^ b := by
  rw [BitVec.toNat_xor, ofInt_toNat (show a < 2 ^ IntKind.u32.bits from ha), ofInt_toNat (show b < 2 ^ IntKind.u32.bits from hb)]
 simp only [aInt]
 rw [h, wrap_u32 hx]
theorem i_and15 {a : Nat} (ha : a < 4294967296) : aInt .and .u32 (a : Int) 15 = some (.sc (.int .u32 ((a % 16 : Nat) : Int))) := by
 have h15 : a &&& 15 = a % 16 := Nat.and_two_pow_sub_one_eq_mod a 4
 have h : (BitVec.ofInt IntKind.u32.bits (a : Int) &&& BitVec.ofInt IntKind.u32.bits ((15 : Nat) : Int)).toNat = a &&& 15 := by
  rw [BitVec.toNat_and, ofInt_toNat (show a < 2 ^ IntKind.u32.bits from ha), ofInt_toNat (show 15 < 2 ^ IntKind.u32.bits by decide)]
 simp only [aInt]
 rw [show (15 : Int) = ((15 : Nat) : Int) from rfl, h, h15, wrap_u32 (by omega)]
theorem wrap_u64 {n : Nat} (h : n < 18446744073709551616) : IntKind.u64.wrap (n : Int) = n := by
 unfold IntKind.wrap
 simp [IntKind.signed, IntKind.bits]
 omega
theorem wrap_u8 {n : Nat} (h : n < 256) : IntKind.u8.wrap (n : Int) = n := by
 unfold IntKind.wrap
 simp [IntKind.signed, IntKind.bits]
 omega
theorem wrap_mod8 (n : Nat) : IntKind.u8.wrap (n : Int) = ((n % 256 : Nat) : Int) := by
 unfold IntKind.wrap
 simp [IntKind.signed, IntKind.bits]
theorem wrap_mod32 (n : Nat) : IntKind.u32.wrap (n : Int) = ((n % 4294967296 : Nat) : Int) := by
 unfold IntKind.wrap
 simp [IntKind.signed, IntKind.bits]
theorem i_or64 {a b : Nat} (ha : a < 72057594037927936) (hb : b < 256) : aInt .or .u64 ((a * 256 : Nat) : Int) (b : Int) = some (.sc (.int .u64 ((a * 256 + b : Nat) : Int))) := by
 have h0 : a * 256 ||| b = a * 256 + b := by
  have := Nat.two_pow_add_eq_or_of_lt (i := 8) (b := b) (by omega) a
  rw [show a * 256 = 2 ^ 8 * a by omega, this]
 have h : (BitVec.ofInt IntKind.u64.bits ((a * 256 : Nat) : Int) ||| BitVec.ofInt IntKind.u64.bits (b : Int)).toNat = a * 256 ||| b := by
  rw [BitVec.toNat_or, ofInt_toNat (show a * 256 < 2 ^ IntKind.u64.bits by show _ < 2 ^ 64; omega), ofInt_toNat (show b < 2 ^ IntKind.u64.bits by show _ < 2 ^ 64; omega)]
 simp only [aInt]
 rw [h, h0, wrap_u64 (by omega)]
theorem b_shr {k k' : IntKind} {a c : Nat} : aBin .shr (.sc (.int k (a : Int))) (.sc (.int k' (c : Int))) = some (.sc (.int k ((a / 2 ^ (min c k.bits) : Nat) : Int))) := by
 have : ¬ ((c : Int) < 0) := by omega
 have e : ((2 : Int) ^ (min c k.bits)) = ((2 ^ (min c k.bits) : Nat) : Int) := by simp
 simp only [aBin, aShift, this, if_false, Int.toNat_natCast]
 rw [e, Int.fdiv_eq_ediv_of_nonneg _ (Int.natCast_nonneg _)]
 rfl
theorem u_xor {a b : Nat} (ha : a < 4294967296) (hb : b < 4294967296) : IntKind.u32.wrap ((BitVec.ofInt IntKind.u32.bits (a : Int) ^^^ BitVec.ofInt IntKind.u32.bits (b : Int)).toNat : Int) = ((a ^^^ b : Nat) : Int) := by
 have h := i_xor32 ha hb
 simp only [aInt, Option.some.injEq, V.sc.injEq, Sc.int.injEq, true_and] at h
 exact h
theorem u_and15 {a : Nat} (ha : a < 4294967296) : IntKind.u32.wrap ((BitVec.ofInt IntKind.u32.bits (a : Int) &&& BitVec.ofInt IntKind.u32.bits 15).toNat : Int) = ((a % 16 : Nat) : Int) := by
 have h := i_and15 ha
 simp only [aInt, Option.some.injEq, V.sc.injEq, Sc.int.injEq, true_and] at h
 exact h
theorem u_and1 {a : Nat} (ha : a < 4294967296) : IntKind.u32.wrap ((BitVec.ofInt IntKind.u32.bits (a : Int) &&& BitVec.ofInt IntKind.u32.bits 1).toNat : Int) = ((a % 2 : Nat) : Int) := by
 have h15 : a &&& 1 = a % 2 := Nat.and_two_pow_sub_one_eq_mod a 1
 have h : (BitVec.ofInt IntKind.u32.bits (a : Int) &&& BitVec.ofInt IntKind.u32.bits ((1 : Nat) : Int)).toNat = a &&& 1 := by
  rw [BitVec.toNat_and, ofInt_toNat (show a < 2 ^ IntKind.u32.bits from ha), ofInt_toNat (show 1 < 2 ^ IntKind.u32.bits by decide)]
 rw [show (1 : Int) = ((1 : Nat) : Int) from rfl, h, h15, wrap_u32 (by omega)]
theorem u_p0 : IntKind.u32.wrap ((BitVec.ofInt IntKind.u32.bits 2197175160 &&& BitVec.ofInt IntKind.u32.bits (IntKind.u32.wrap 0)).toNat : Int) = 0 := by decide
theorem u_p1 : IntKind.u32.wrap ((BitVec.ofInt IntKind.u32.bits 2197175160 &&& BitVec.ofInt IntKind.u32.bits (IntKind.u32.wrap (-1))).toNat : Int) = 2197175160 := by decide
theorem u_x0 {a : Nat} (ha : a < 4294967296) : IntKind.u32.wrap ((BitVec.ofInt IntKind.u32.bits (a : Int) ^^^ BitVec.ofInt IntKind.u32.bits 0).toNat : Int) = (a : Int) := by
 have h := u_xor ha (b := 0) (by decide)
 rw [Nat.xor_zero] at h
 exact h
theorem u_xP {a : Nat} (ha : a < 4294967296) : IntKind.u32.wrap ((BitVec.ofInt IntKind.u32.bits (a : Int) ^^^ BitVec.ofInt IntKind.u32.bits 2197175160).toNat : Int) = ((a ^^^ 2197175160 : Nat) : Int) := u_xor ha (b := 2197175160) (by decide)
theorem un_not {a : Nat} (ha : a < 4294967296) : aUn .xor (.sc (.int .u32 (a : Int))) = some (.sc (.int .u32 ((4294967295 - a : Nat) : Int))) := by
 have h : (BitVec.ofInt IntKind.u32.bits (if IntKind.u32.signed then -1 else IntKind.u32.max) ^^^ BitVec.ofInt IntKind.u32.bits (a : Int)).toNat = 4294967295 - a := by
  have e : BitVec.ofInt IntKind.u32.bits (if IntKind.u32.signed then -1 else IntKind.u32.max) = BitVec.allOnes IntKind.u32.bits := by decide
  rw [e, BitVec.allOnes_xor, BitVec.toNat_not, ofInt_toNat (show a < 2 ^ IntKind.u32.bits from ha)]
  rfl
 simp only [aUn]
 rw [h, wrap_u32 (by omega)]
theorem shr1 {k : IntKind} {a : Nat} (hk : 1 ≤ k.bits) : aBin .shr (.sc (.int k (a : Int))) (.sc (.int .u64 1)) = some (.sc (.int k ((a / 2 : Nat) : Int))) := by
 have h := b_shr (k := k) (k' := .u64) (a := a) (c := 1)
 rw [Nat.min_eq_left hk] at h
 exact h
theorem shr4 {a : Nat} : aBin .shr (.sc (.int .u32 (a : Int))) (.sc (.int .u64 4)) = some (.sc (.int .u32 ((a / 16 : Nat) : Int))) := b_shr (c := 4)
theorem shr8 {a : Nat} : aBin .shr (.sc (.int .u32 (a : Int))) (.sc (.int .u64 8)) = some (.sc (.int .u32 ((a / 256 : Nat) : Int))) := b_shr (c := 8)
theorem shr16 {a : Nat} : aBin .shr (.sc (.int .u32 (a : Int))) (.sc (.int .u64 16)) = some (.sc (.int .u32 ((a / 65536 : Nat) : Int))) := b_shr (c := 16)
theorem shr24 {a : Nat} : aBin .shr (.sc (.int .u32 (a : Int))) (.sc (.int .u64 24)) = some (.sc (.int .u32 ((a / 16777216 : Nat) : Int))) := b_shr (c := 24)
theorem shr32 {a : Nat} : aBin .shr (.sc (.int .u64 (a : Int))) (.sc (.int .u64 32)) = some (.sc (.int .u64 ((a / 4294967296 : Nat) : Int))) := b_shr (c := 32)
theorem u_or64 {a b : Nat} (ha : a < 72057594037927936) (hb : b < 256) : IntKind.u64.wrap ((BitVec.ofInt IntKind.u64.bits ((a * 256 : Nat) : Int) ||| BitVec.ofInt IntKind.u64.bits (b : Int)).toNat : Int) = ((a * 256 + b : Nat) : Int) := by
 have h := i_or64 ha hb
 simp only [aInt, Option.some.injEq, V.sc.injEq, Sc.int.injEq, true_and] at h
 exact h
theorem shl8 {a : Nat} (ha : a < 72057594037927936) : aBin .shl (.sc (.int .u64 (a : Int))) (.sc (.int .u64 8)) = some (.sc (.int .u64 ((a * 256 : Nat) : Int))) := by
 have e : ((a : Int) * 2 ^ (min (8 : Int).toNat IntKind.u64.bits)) = ((a * 256 : Nat) : Int) := by
  rw [show min (8 : Int).toNat IntKind.u64.bits = 8 from rfl]; omega
 simp only [aBin, aShift]
 rw [if_neg (by decide), e, wrap_u64 (by omega)]
theorem arr_u32 {o i : Nat} (h : i < 16) : aArrAddr 16 1 (.ptr o 0) (.sc (.int .u32 (i : Int))) = some (.ptr o i) := by
 have : (0 : Int) ≤ i ∧ (i : Int) < 16 := by omega
 simp [aArrAddr, aIdx, this, aPlace]
theorem tdiv_nat {a b : Nat} : Int.tdiv (a : Int) (b : Int) = ((a / b : Nat) : Int) := rfl
theorem tmod_nat {a b : Nat} : Int.tmod (a : Int) (b : Int) = ((a % b : Nat) : Int) := rfl
def be : Nat → Nat → List UInt8
 | 0, _ => []
 | w + 1, n => be w (n / 256) ++ [UInt8.ofNat (n % 256)]
def val (s : List UInt8) : Nat := s.foldl (fun x b => x * 256 + b.toNat) 0
theorem be_len : ∀ (w n : Nat), (be w n).length = w
 | 0, _ => rfl
 | w + 1, n => by simp [be, be_len w]
theorem val_snoc (s : List UInt8) (b : UInt8) : val (s ++ [b]) = val s * 256 + b.toNat := by simp [val]
theorem val_lt (s : List UInt8) : val s < 256 ^ s.length := by
 suffices h : ∀ (n : Nat) (s : List UInt8), s.length = n → val s < 256 ^ n from h _ _ rfl
 intro n
 induction n with
 | zero => intro s h; rw [List.length_eq_zero_iff.1 h]; decide
 | succ n ih =>
  intro s h
  obtain ⟨t, b, rfl⟩ : ∃ t b, s = t ++ [b] := by
   rcases List.eq_nil_or_concat s with h1 | ⟨t, b, h1⟩
   · subst h1; simp at h
   · exact ⟨t, b, by simpa using h1⟩
  have := ih t (by simpa using h)
  have hb := b.toNat_lt
  rw [val_snoc, Nat.pow_succ]
  omega
theorem val_be : ∀ (w n : Nat), n < 256 ^ w → val (be w n) = n
 | 0, n, h => by simp at h; subst h; rfl
 | w + 1, n, h => by
  rw [Nat.pow_succ] at h
  rw [be, val_snoc, val_be w _ (by omega)]
  have : (UInt8.ofNat (n % 256)).toNat = n % 256 := by simp
  omega
theorem be_val (s : List UInt8) : be s.length (val s) = s := by
 suffices h : ∀ (n : Nat) (s : List UInt8), s.length = n → be n (val s) = s from h _ _ rfl
 intro n
 induction n with
 | zero => intro s h; rw [List.length_eq_zero_iff.1 h]; rfl
 | succ n ih =>
  intro s h
  obtain ⟨t, b, rfl⟩ : ∃ t b, s = t ++ [b] := by
   rcases List.eq_nil_or_concat s with h1 | ⟨t, b, h1⟩
   · subst h1; simp at h
   · exact ⟨t, b, by simpa using h1⟩
  have hb := b.toNat_lt
  rw [be, val_snoc, show (val t * 256 + b.toNat) / 256 = val t by omega, ih t (by simpa using h), show (val t * 256 + b.toNat) % 256 = b.toNat by omega]
  simp
theorem be4 (n : Nat) : be 4 n = [UInt8.ofNat (n / 16777216 % 256), UInt8.ofNat (n / 65536 % 256), UInt8.ofNat (n / 256 % 256), UInt8.ofNat (n % 256)] := by
 simp only [be, List.nil_append, List.cons_append, Nat.div_div_eq_div_mul]
theorem be8 (n : Nat) : be 8 n = be 4 (n / 4294967296 % 4294967296) ++ be 4 (n % 4294967296) := by
 simp only [be, List.nil_append, List.cons_append, Nat.div_div_eq_div_mul, List.cons.injEq, and_true]
 refine ⟨?_, ?_, ?_, ?_, ?_, ?_, ?_, ?_⟩ <;> congr 1 <;> omega
theorem byteV_ofNat {n : Nat} (h : n < 256) : byteV (UInt8.ofNat n) = .sc (.int .u8 (n : Int)) := by
 simp [byteV]; omega
def bc (b : UInt8) : List V := [byteV b]
theorem bc_flat (l : List UInt8) : (l.map bc).flatten = l.map byteV := by
 induction l with
 | nil => rfl
 | cons b l ih => rw [List.map_cons, List.flatten_cons, ih]; rfl
theorem bc_rv (own : Own) (l : List UInt8) : RV 1 (.vs own 1 l.length (l.map byteV)) (l.map bc) := by
 have := RV.vs (own := own) (sz := 1) (es := l.map bc) (fun e he => by obtain ⟨b, _, rfl⟩ := List.mem_map.1 he; rfl) (fun e he => by obtain ⟨b, _, rfl⟩ := List.mem_map.1 he; rfl)
 rwa [bc_flat, List.length_map] at this
theorem toByte_byteV (b : UInt8) : toByte (byteV b) = some b := by
 simp [toByte, byteV]
theorem mapM_byte (l : List UInt8) : (l.map byteV).mapM toByte = some l := by
 induction l with
 | nil => rfl
 | cons b l ih => simp [List.mapM_cons, toByte_byteV, ih]
theorem b2s_rv {σ : St} {v : V} {t : List UInt8} (h : RV 1 v (t.map bc)) : aB2s σ v = some (.str t) := by
 have hs := h.src (σ := σ)
 unfold aB2s
 rw [hs, bc_flat]
 have : ∀ l, v ≠ .str l := by rintro l rfl; cases h
 simp only [Option.bind_some]
 cases v with
 | str l => exact absurd rfl (this l)
 | _ => simp only [mapM_byte, Option.map_some]
theorem str_sl {s : List UInt8} {l h : Nat} (h1 : l ≤ h) (h2 : h ≤ s.length) : aSlice (.str s) (some (.sc (.int .i64 l))) (some (.sc (.int .i64 h))) none = some (.str ((s.drop l).take (h - l))) := by
 have e1 : (0 : Int) ≤ h ∧ (h : Int) ≤ s.length := by omega
 simp [aSlice, aBounds, aBnd, e1, h1]
theorem str_lo {s : List UInt8} {h : Nat} (h2 : h ≤ s.length) : aSlice (.str s) none (some (.sc (.int .i64 h))) none = some (.str (s.take h)) := by
 have e1 : (0 : Int) ≤ h ∧ (h : Int) ≤ s.length := by omega
 simp [aSlice, aBounds, aBnd, e1]
theorem str_hi {s : List UInt8} {l : Nat} (h2 : l ≤ s.length) : aSlice (.str s) (some (.sc (.int .i64 l))) none none = some (.str (s.drop l)) := by
 simp [aSlice, aBounds, aBnd, h2]
 exact List.take_of_length_le (by simp)
theorem str_at {s : List UInt8} {i : Nat} (h : i < s.length) : aStrIdx (.str s) (.sc (.int .i64 i)) = some (.sc (.int .u8 s[i].toNat)) := by
 have e1 : (0 : Int) ≤ i ∧ (i : Int) < s.length := by omega
 simp [aStrIdx, aIdx, e1, h]
theorem str_add {a b : List UInt8} (h : a.length + b.length ≤ 9223372036854775807) : aBin .add (.str a) (.str b) = some (.str (a ++ b)) := by
 have : ¬ (a.length + b.length > 9223372036854775807) := by omega
 simp only [aBin, aStr, this, if_false]
theorem str_ne {a b : List UInt8} : aBin .neq (.str a) (.str b) = some (.sc (.bool (!decide (a = b)))) := by simp [aBin, aStr]
end
end Go.Ab
