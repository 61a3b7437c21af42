/-
  Snapshots: a save (plain).
  Snapshots: what the document reads (plain).
  Snapshots: the document's numbers, files, what it loads.
  Snapshots: the document's Save.
  Snapshots: scripts.
  SnapPlays: its run.
-/
import Derived.Test.YtjcobnjnjliehaaSnapU
import Derived.Test.YtjcobnjnjliehaaDiskRX
import Derived.Test.YtjcobnjnjliehaaFrO
namespace Go.Proofs.Ytjcobnjnjliehaa.sn
open Go.Ab fr dk
set_option maxRecDepth 100000
set_option maxHeartbeats 8000000
set_option linter.unusedSimpArgs false
set_option linter.unusedVariables false

def DM.dn (M : DM) : DM := { M with power := if 0 < M.power then M.power - 1 else M.power, ops := M.ops + 1 }
theorem change_0 {M : DM} (hp : M.power = 0) (f : Int) (c : Ch) : M.change f c = (M, 40) := by
  unfold DM.change DM.step
  rw [if_pos hp]
  rfl
theorem change_e {M : DM} (hp : M.power ≠ 0) {f : Nat} (hf : f < 32) {c : Ch} (he : M.may f c ≠ 0) : M.change f c = (M, M.may f c) := by
  have h0 : ¬ ((f : Int) < 0 ∨ 32 ≤ (f : Int)) := by omega
  unfold DM.change DM.step
  rw [if_neg hp, if_neg h0, if_pos he]
  dsimp only
  rw [if_neg he]
theorem change_y {M : DM} (hp : M.power ≠ 0) {f : Nat} (hf : f < 32) {c : Ch} (he : M.may f c = 0) : M.change f c = ((DM.dn M).upd f ((M.f f).add c), 0) := by
  have h0 : ¬ ((f : Int) < 0 ∨ 32 ≤ (f : Int)) := by omega
  unfold DM.change DM.step
  rw [if_neg hp, if_neg h0, he]
  simp only [ne_eq, not_true_eq_false, if_false, if_true, Int.toNat_natCast]
  rfl
theorem sync_0 {M : DM} (hp : M.power = 0) (f : Int) : M.sync f = (M, 40) := by
  unfold DM.sync DM.step
  rw [if_pos hp]
  rfl
theorem sync_y {M : DM} (hp : M.power ≠ 0) {f : Nat} (hf : f < 32) : M.sync f = ((DM.dn M).upd f ⟨(M.f f).seen, []⟩, 0) := by
  have h0 : ¬ ((f : Int) < 0 ∨ 32 ≤ (f : Int)) := by omega
  unfold DM.sync DM.step
  rw [if_neg hp, if_neg h0]
  simp only [ne_eq, not_true_eq_false, if_false, if_true, Int.toNat_natCast]
  rfl
theorem read_n {M : DM} (hp : M.power ≠ 0) {n : Nat} (hn : n < 32) : M.read (n : Int) = if (M.f n).seen.there = false then ([], 4) else ((M.f n).seen.s, 0) := by
  unfold DM.read
  have h0 : ¬ ((n : Int) < 0 ∨ 32 ≤ (n : Int)) := by omega
  rw [if_neg hp, if_neg h0, see_in (by omega) (by omega), Int.toNat_natCast]
theorem msave_ok {M : DM} {B : Nat} (h : M.Ok B) (i t : Int) (x : List UInt8) : (msave M i t x).1.Ok (B + 3) := by
  have h3 := h.more (show B ≤ B + 3 by omega)
  unfold msave
  repeat' split
  all_goals first | exact h3 | skip
  unfold msw
  dsimp only
  have h1 := h.change (f := (sfl M : Int)) (c := ⟨3, [], 0⟩) (.inr (.inr rfl))
  split
  · exact h1.more (by omega)
  · have h2 := h1.change (f := (sfl M : Int)) (c := ⟨1, sfile i.toNat t.toNat x, 0⟩) (.inl rfl)
    split
    · exact h2.more (by omega)
    · exact h2.sync _

end Go.Proofs.Ytjcobnjnjliehaa.sn
namespace Go.Proofs.Ytjcobnjnjliehaa.sn
open Go.Ab fr dk
set_option maxRecDepth 100000
set_option maxHeartbeats 8000000
set_option linter.unusedSimpArgs false
set_option linter.unusedVariables false

def rnumb (s : List UInt8) : Int := if val (s.take 7) ≤ 281474976710656 then (val (s.take 8) : Nat) else -1
theorem val_mono (s : List UInt8) {i j : Nat} (h : i ≤ j) : val (s.take i) ≤ val (s.take j) := by
  induction j with
  | zero => have : i = 0 := by omega
            subst this; exact Nat.le_refl _
  | succ j ih =>
    by_cases he : i = j + 1
    · subst he; exact Nat.le_refl _
    · have h1 := ih (by omega)
      refine Nat.le_trans h1 ?_
      rcases Nat.lt_or_ge j s.length with hj | hj
      · rw [List.take_add_one, List.getElem?_eq_getElem hj]
        show _ ≤ val (s.take j ++ [s[j]])
        rw [val_snoc]; omega
      · rw [List.take_of_length_le (by omega), List.take_of_length_le (by omega)]
        exact Nat.le_refl _
theorem val_big (s : List UInt8) (h : 8 ≤ s.length) : val (s.take 8) = val (s.take 7) * 256 + s[7].toNat := by
  rw [show (8 : Nat) = 7 + 1 from rfl, List.take_add_one, List.getElem?_eq_getElem (by omega)]
  exact val_snoc _ _
theorem rnumb_is {s : List UInt8} (h : 8 ≤ s.length) {n : Nat} (hv : val (s.take 8) = n) (hn : n ≤ 281474976710656) : rnumb s = n := by
  unfold rnumb
  have := val_big s h
  rw [if_pos (by omega), hv]
theorem rnumb_small {s : List UInt8} (h : 8 ≤ s.length) {m : Int} (hm : rnumb s ≤ m) (h0 : 0 ≤ rnumb s) : rnumb s = (val (s.take 8) : Nat) := by
  unfold rnumb at *
  split
  · rfl
  · rename_i c
    rw [if_neg c] at h0
    omega
theorem rnumb_take (s : List UInt8) : rnumb (s.take 8) = rnumb s := by
  unfold rnumb
  rw [List.take_take, List.take_take]
  rfl
/-- What the document reads. -/
def rrd (s : List UInt8) : Sr := if (sread s).ok = true then sread s else bad0
def rgood (s p : List UInt8) (x : List UInt8) : Prop :=
  1 ≤ rnumb (p.drop 8) ∧ rnumb (p.drop 8) ≤ 1048576 ∧ 0 ≤ rnumb (p.drop 16) ∧ rnumb (p.drop 16) ≤ 1099511627776 ∧ x.length ≤ 262144 ∧ sfile (rnumb (p.drop 8)).toNat (rnumb (p.drop 16)).toNat x = s
theorem rrd_good {s p : List UInt8} {l : List (List UInt8)} (h : rgood s p l.flatten) : rrd s = ⟨(rnumb (p.drop 8)).toNat, (rnumb (p.drop 16)).toNat, l.flatten, true⟩ := by
  obtain ⟨h1, h2, h3, h4, h5, h6⟩ := h
  have := sread_file (i := (rnumb (p.drop 8)).toNat) (t := (rnumb (p.drop 16)).toNat) (x := l.flatten) (by omega) (by omega) (by omega) h5
  rw [h6] at this
  unfold rrd
  rw [this]
  rfl
theorem rrd_bad {s p : List UInt8} {l : List (List UInt8)} (hs : scan s = p :: l) (hp : p.length = 32) (h : ¬ rgood s p l.flatten) : rrd s = bad0 := by
  unfold rrd
  rw [if_neg]
  intro hok
  apply h
  unfold sread at hok
  rw [hs] at hok
  dsimp only at hok
  split at hok
  · cases hok
  · rename_i c1
    split at hok
    · cases hok
    · rename_i c2
      dsimp only at hok
      simp only [Bool.and_eq_true, decide_eq_true_eq] at hok
      have e1 : rnumb (p.drop 8) = (val ((p.drop 8).take 8) : Nat) := rnumb_is (by rw [List.length_drop]; omega) rfl (by omega)
      have e2 : rnumb (p.drop 16) = (val ((p.drop 16).take 8) : Nat) := rnumb_is (by rw [List.length_drop]; omega) rfl (by omega)
      refine ⟨by omega, by omega, by omega, by omega, by omega, ?_⟩
      rw [e1, e2, Int.toNat_natCast, Int.toNat_natCast]
      exact hok.1
theorem rrd_nil {s : List UInt8} (hs : scan s = []) : rrd s = bad0 := by
  unfold rrd sread
  rw [hs]
  rfl
theorem rrd_len {s p : List UInt8} {l : List (List UInt8)} (hs : scan s = p :: l) (hp : p.length ≠ 32) : rrd s = bad0 := by
  have h : (sread s).ok = false := by
    unfold sread
    rw [hs]
    dsimp only
    rw [if_pos (.inr (.inl hp))]
    rfl
  unfold rrd
  rw [h]
  rfl
/-! ## Loaded -/
def rst (M : DM) (f : Nat) (a : Sr × Int) : Sr × Int :=
  if (M.see (f : Int)).there = false then a else if (rrd (M.see (f : Int)).s).ok = true ∧ (rrd (M.see (f : Int)).s).i > a.1.i then (rrd (M.see (f : Int)).s, (f : Int)) else a
def rac (M : DM) : Nat → Sr × Int
  | 0 => (bad0, -1)
  | n + 1 => rst M (n + 2) (rac M n)
theorem sread_i {s : List UInt8} (h : (sread s).ok = true) : 1 ≤ (sread s).i := by
  unfold sread at h ⊢
  cases hs : scan s with
  | nil => rw [hs] at h; cases h
  | cons p l =>
    rw [hs] at h
    dsimp only at h ⊢
    split at h
    · cases h
    · rename_i c1
      rw [if_neg c1]
      split at h
      · cases h
      · rename_i c2
        rw [if_neg c2]
        dsimp only
        omega
theorem rrd_ok {s : List UInt8} : (rrd s).ok = (sread s).ok := by
  unfold rrd
  cases h : (sread s).ok with
  | true => rw [if_pos rfl]; exact h
  | false => rfl
theorem rrd_eq {s : List UInt8} (h : (sread s).ok = true) : rrd s = sread s := by unfold rrd; rw [if_pos h]
theorem mst_rst {M : DM} (hp : M.power ≠ 0) {f : Nat} (hf : f < 32) (a : Sr × Int) : mst M f a.1 = (rst M f a).1 := by
  have hsn : M.see (f : Int) = (M.f f).seen := by rw [see_in (by omega) (by omega), Int.toNat_natCast]
  unfold mst rst
  rw [read_n hp hf, hsn, rrd_ok]
  cases ht : (M.f f).seen.there with
  | false => simp
  | true =>
    simp only [Bool.true_eq_false, if_false, ne_eq, not_true_eq_false]
    generalize (M.f f).seen.s = s
    cases ho : (sread s).ok with
    | false => simp
    | true =>
      rw [rrd_eq ho]
      simp only [true_and]
      split
      · dsimp only
        rw [← ho]
      · rfl
theorem rac_1 {M : DM} (hp : M.power ≠ 0) : ∀ n, n ≤ 2 → (rac M n).1 = mac M n
  | 0, _ => rfl
  | n + 1, h => by
    show (rst M (n + 2) (rac M n)).1 = mst M (n + 2) (mac M n)
    rw [← rac_1 hp n (by omega), mst_rst hp (by omega)]
theorem rac_2 (M : DM) : ∀ n, ((rac M n).2 = -1 ∧ (rac M n).1 = bad0) ∨ ((rac M n).1.ok = true ∧ 1 ≤ (rac M n).1.i ∧ 2 ≤ (rac M n).2 ∧ (rac M n).2 ≤ n + 1)
  | 0 => .inl ⟨rfl, rfl⟩
  | n + 1 => by
    have ih := rac_2 M n
    show ((rst M (n + 2) (rac M n)).2 = -1 ∧ (rst M (n + 2) (rac M n)).1 = bad0) ∨ ((rst M (n + 2) (rac M n)).1.ok = true ∧ 1 ≤ (rst M (n + 2) (rac M n)).1.i ∧ 2 ≤ (rst M (n + 2) (rac M n)).2 ∧ (rst M (n + 2) (rac M n)).2 ≤ ((n + 1 : Nat) : Int) + 1)
    have keep : ((rac M n).2 = -1 ∧ (rac M n).1 = bad0) ∨ ((rac M n).1.ok = true ∧ 1 ≤ (rac M n).1.i ∧ 2 ≤ (rac M n).2 ∧ (rac M n).2 ≤ ((n + 1 : Nat) : Int) + 1) := by
      rcases ih with h | ⟨h1, h2, h3, h4⟩
      · exact .inl h
      · exact .inr ⟨h1, h2, h3, by omega⟩
    unfold rst
    split
    · exact keep
    split
    · rename_i h
      have ho : (sread (M.see ((n + 2 : Nat) : Int)).s).ok = true := by rw [← rrd_ok]; exact h.1
      have := sread_i ho
      refine .inr ⟨h.1, ?_, by dsimp only; omega, by dsimp only; omega⟩
      dsimp only
      rw [rrd_eq ho]
      exact this
    · exact keep
theorem mld_at {M : DM} (hp : M.power ≠ 0) : mld M = ((rac M 2).1, if (rac M 2).2 < 0 then 4 else 0) := by
  have h := rac_2 M 2
  unfold mld
  rw [if_neg hp, ← rac_1 hp 2 (by omega)]
  rcases h with ⟨h1, h2⟩ | ⟨h1, h2, h3, h4⟩
  · rw [h1, h2]; rfl
  · rw [if_pos h1, if_neg (by omega)]
theorem sfl_at {M : DM} (hp : M.power ≠ 0) : sfl M = if (rac M 2).2 = 2 then 3 else 2 := by
  have h1 := rac_1 hp 1 (by omega)
  have hs2 : M.see ((2 : Nat) : Int) = (M.f 2).seen := by rw [see_in (by omega) (by omega), Int.toNat_natCast]
  have hs3 : M.see ((3 : Nat) : Int) = (M.f 3).seen := by rw [see_in (by omega) (by omega), Int.toNat_natCast]
  have hr2 := read_n hp (n := 2) (by omega)
  unfold sfl
  rw [mld_at hp, show M.read (2 : Int) = _ from hr2]
  have e2 : rac M 2 = rst M 3 (rac M 1) := rfl
  have e1 : rac M 1 = rst M 2 (bad0, -1) := rfl
  unfold rst at e1 e2
  rw [hs2] at e1
  rw [hs3] at e2
  generalize (M.f 2).seen = y2 at *
  generalize (M.f 3).seen = y3 at *
  cases ht : y2.there with
  | false =>
    rw [ht, if_pos rfl] at e1
    simp only [if_true]
    rw [if_neg (by simp)]
    rw [e1] at e2
    split at e2
    · rw [e2]; rfl
    · split at e2
      · rw [e2]; rfl
      · rw [e2]; rfl
  | true =>
    rw [ht, if_neg (by simp)] at e1
    simp only [Bool.true_eq_false, if_false]
    cases ho : (sread y2.s).ok with
    | false =>
      rw [rrd_ok, ho, if_neg (by simp)] at e1
      rw [if_neg (by simp [ho])]
      rw [e1] at e2
      split at e2
      · rw [e2]; rfl
      · split at e2
        · rw [e2]; rfl
        · rw [e2]; rfl
    | true =>
      have hi := sread_i ho
      rw [rrd_eq ho, if_pos ⟨ho, by show (sread y2.s).i > 0; omega⟩] at e1
      rw [e1] at e2
      dsimp only at e2
      split at e2
      · rw [e2, if_pos ⟨trivial, rfl, rfl, rfl⟩]; rfl
      · split at e2
        · rename_i hc
          rw [e2, if_neg]
          · rfl
          · rintro ⟨_, _, h3, _⟩
            dsimp only at h3
            omega
        · rw [e2, if_pos ⟨trivial, rfl, rfl, rfl⟩]; rfl
end Go.Proofs.Ytjcobnjnjliehaa.sn
namespace Go.Proofs.Ytjcobnjnjliehaa.sn
open Go.Ab fr dk
set_option maxRecDepth 100000
set_option maxHeartbeats 8000000
set_option linter.unusedSimpArgs false
set_option linter.unusedVariables false

theorem rn8_ok (k : Nat) (ys : YlF) (σ : St) (s : List UInt8) (hs : 8 ≤ s.length) (hk : 20 ≤ k) :
    callY Tab.tb (k + 1) ys 62 [.str s] σ = some (.sc (.int .i64 (rnumb s)), σ) := by
  suffices h : W (callY Tab.tb (k + 1) ys 62 [.str s] σ) fun r => r = (.sc (.int .i64 (rnumb s)), σ) by
    obtain ⟨a, h1, h2⟩ := h
    rw [h1, h2]
  rw [s_call (af := Tab.b62) rfl (Nat.le_of_ble_eq_true rfl)]
  generalize callY Tab.tb k = cy
  simp -implicitDefEqProofs (disch := first | exact nbf rfl | exact nbt rfl | (simp only [ne_eq, reduceCtorEq, not_false_eq_true]; done) | omega | (simp -implicitDefEqProofs only [zN.down] <;> omega) | fail) only [Tab.b62, XOp.kind, reduceCtorEq, V.bool, V.i64, aUn, aBox, aLoad, aArrAddr, aFold, aEqV, chkAdd, effAdd, AOp.kind, chkAll, chkSee, zP.down, zQ.down, zR.down, simprocAttr]
  repeat (first | refine w_fin ?_ | refine w_seq ?_ | refine w_block ?_ | refine w_reg ?_ | refine w_op ?_ | refine w_dop ?_)
  refine W.mono (Q := fun q => (∃ (ρ : Env), q = ((.exit 0 : Ex), ρ, σ) ∧ rnumb s = (val (s.take 8) : Nat) ∧ ρ 3 = .sc (.int .i64 (val (s.take 8) : Nat))) ∨ (∃ (ρ : Env), q = ((.ret : Ex), ρ, σ) ∧ rnumb s = -1 ∧ ρ 2 = .sc (.int .i64 (-1)))) ?_ ?_
  · refine w_loop (fun m ρ σ' => ∃ i, m = 8 - i ∧ i ≤ 8 ∧ σ' = σ ∧ (0 < i → val (s.take (i - 1)) ≤ 281474976710656) ∧ ρ 0 = .str s ∧ ρ 3 = .sc (.int .i64 (val (s.take i) : Nat)) ∧ ρ 4 = .sc (.int .i64 (i : Nat))) 8 (by omega) ?_ ?_
    · refine ⟨0, rfl, Nat.zero_le _, rfl, fun h => absurd h (by decide), ?_, ?_, ?_⟩
      all_goals first | rfl | (simp -implicitDefEqProofs (disch := first | exact nbf rfl | exact nbt rfl | (simp only [ne_eq, reduceCtorEq, not_false_eq_true]; done) | omega | (simp -implicitDefEqProofs only [zN.down] <;> omega) | fail) only [XOp.kind, reduceCtorEq, V.bool, V.i64, aUn, aBox, aLoad, aArrAddr, aFold, aEqV, chkAdd, effAdd, AOp.kind, chkAll, chkSee, zP.down, zQ.down, zR.down, simprocAttr]; done) | (simp -implicitDefEqProofs (disch := first | exact nbf rfl | exact nbt rfl | (simp only [ne_eq, reduceCtorEq, not_false_eq_true]; done) | omega | (simp -implicitDefEqProofs only [zN.down] <;> omega) | fail) only [XOp.kind, reduceCtorEq, V.bool, V.i64, aUn, aBox, aLoad, aArrAddr, aFold, aEqV, chkAdd, effAdd, AOp.kind, chkAll, chkSee, zP.down, zQ.down, zR.down, simprocAttr]; rfl)
    · rintro m ρ σ' ⟨i, hm, hi, rfl, hpre, e0, e3, e4⟩
      by_cases hl : i < 8
      · have c1 : decide ((i : Int) < 8) = true := by simp; omega
        have hil : i < s.length := by omega
        have a1 := str_at hil
        have hsn : val (s.take (i + 1)) = val (s.take i) * 256 + s[i].toNat := by
          rw [List.take_add_one, List.getElem?_eq_getElem hil]; exact val_snoc _ _
        have hb := s[i].toNat_lt
        have h7 := val_mono s (i := i) (j := 7) (by omega)
        by_cases hg : val (s.take i) > 281474976710656
        · have c2 : decide ((val (s.take i) : Int) > 281474976710656) = true := by simp; omega
          simp -implicitDefEqProofs (disch := first | exact nbf rfl | exact nbt rfl | (simp only [ne_eq, reduceCtorEq, not_false_eq_true]; done) | omega | (simp -implicitDefEqProofs only [zN.down] <;> omega) | fail) only [c1, c2, e0, e3, e4, XOp.kind, reduceCtorEq, V.bool, V.i64, aUn, aBox, aLoad, aArrAddr, aFold, aEqV, chkAdd, effAdd, AOp.kind, chkAll, chkSee, zP.down, zQ.down, zR.down, simprocAttr]
          right
          refine ⟨_, rfl, by unfold rnumb; rw [if_neg (by omega)], ?_⟩
          simp -implicitDefEqProofs (disch := first | exact nbf rfl | exact nbt rfl | (simp only [ne_eq, reduceCtorEq, not_false_eq_true]; done) | omega | (simp -implicitDefEqProofs only [zN.down] <;> omega) | fail) only [XOp.kind, reduceCtorEq, V.bool, V.i64, aUn, aBox, aLoad, aArrAddr, aFold, aEqV, chkAdd, effAdd, AOp.kind, chkAll, chkSee, zP.down, zQ.down, zR.down, simprocAttr]
        have c2 : decide ((val (s.take i) : Int) > 281474976710656) = false := by simp; omega
        have u1 : IntKind.i64.wrap ((val (s.take i) : Int) * 256) = ((val (s.take i) * 256 : Nat) : Int) := by
          rw [wrap64 (by omega) (by omega)]; omega
        have u2 : IntKind.i64.wrap ((s[i].toNat : Nat) : Int) = ((s[i].toNat : Nat) : Int) := wrap64 (by omega) (by omega)
        have u3 : IntKind.i64.wrap (((val (s.take i) * 256 : Nat) : Int) + ((s[i].toNat : Nat) : Int)) = ((val (s.take (i + 1)) : Nat) : Int) := by
          rw [hsn, wrap64 (by omega) (by omega)]; omega
        have w1 : IntKind.i64.wrap ((i : Int) + 1) = ((i + 1 : Nat) : Int) := wrap64 (by omega) (by omega)
        have hpre' : val (s.take (i + 1 - 1)) ≤ 281474976710656 := by rw [Nat.add_sub_cancel]; omega
        clear h7 hsn hpre
        generalize s[i].toNat = b at *
        generalize val (s.take i) = z at *
        generalize hz1 : val (s.take (i + 1)) = z1 at *
        simp -implicitDefEqProofs (disch := first | exact nbf rfl | exact nbt rfl | (simp only [ne_eq, reduceCtorEq, not_false_eq_true]; done) | omega | (simp -implicitDefEqProofs only [zN.down] <;> omega) | fail) only [c1, c2, e0, e3, e4, a1, u1, u2, u3, w1, XOp.kind, reduceCtorEq, V.bool, V.i64, aUn, aBox, aLoad, aArrAddr, aFold, aEqV, chkAdd, effAdd, AOp.kind, chkAll, chkSee, zP.down, zQ.down, zR.down, simprocAttr]
        exact ⟨8 - (i + 1), by omega, i + 1, rfl, hl, fun _ => hpre', by rw [hz1], rfl⟩
      · have c1 : decide ((i : Int) < 8) = false := by simp; omega
        have : i = 8 := by omega
        subst this
        have hpre := hpre (by decide)
        simp -implicitDefEqProofs (disch := first | exact nbf rfl | exact nbt rfl | (simp only [ne_eq, reduceCtorEq, not_false_eq_true]; done) | omega | (simp -implicitDefEqProofs only [zN.down] <;> omega) | fail) only [c1, e4, XOp.kind, reduceCtorEq, V.bool, V.i64, aUn, aBox, aLoad, aArrAddr, aFold, aEqV, chkAdd, effAdd, AOp.kind, chkAll, chkSee, zP.down, zQ.down, zR.down, simprocAttr]
        left
        refine ⟨_, rfl, by unfold rnumb; rw [if_pos hpre], ?_⟩
        simp -implicitDefEqProofs (disch := first | exact nbf rfl | exact nbt rfl | (simp only [ne_eq, reduceCtorEq, not_false_eq_true]; done) | omega | (simp -implicitDefEqProofs only [zN.down] <;> omega) | fail) only [e3, XOp.kind, reduceCtorEq, V.bool, V.i64, aUn, aBox, aLoad, aArrAddr, aFold, aEqV, chkAdd, effAdd, AOp.kind, chkAll, chkSee, zP.down, zQ.down, zR.down, simprocAttr]
  · rintro _ (⟨ρ, rfl, he, e3⟩ | ⟨ρ, rfl, he, e2⟩)
    · simp -implicitDefEqProofs (disch := first | exact nbf rfl | exact nbt rfl | (simp only [ne_eq, reduceCtorEq, not_false_eq_true]; done) | omega | (simp -implicitDefEqProofs only [zN.down] <;> omega) | fail) only [e3, XOp.kind, reduceCtorEq, V.bool, V.i64, aUn, aBox, aLoad, aArrAddr, aFold, aEqV, chkAdd, effAdd, AOp.kind, chkAll, chkSee, zP.down, zQ.down, zR.down, simprocAttr]
      rw [he]
    · simp -implicitDefEqProofs (disch := first | exact nbf rfl | exact nbt rfl | (simp only [ne_eq, reduceCtorEq, not_false_eq_true]; done) | omega | (simp -implicitDefEqProofs only [zN.down] <;> omega) | fail) only [e2, XOp.kind, reduceCtorEq, V.bool, V.i64, aUn, aBox, aLoad, aArrAddr, aFold, aEqV, chkAdd, effAdd, AOp.kind, chkAll, chkSee, zP.down, zQ.down, zR.down, simprocAttr]
      rw [he]
theorem pc_drop {x : List UInt8} {i n : Nat} (hn : n = min 2048 (x.length - i)) : (x.drop i).take n = pc x i := by
  unfold pc
  rw [hn]
  congr 1
  omega
theorem drop_next {x : List UInt8} {j n : Nat} (hn : n = min 2048 (x.length - 2048 * j)) : (x.drop (2048 * j)).drop n = x.drop (2048 * (j + 1)) := by
  rw [List.drop_drop]
  by_cases h : 2048 ≤ x.length - 2048 * j
  · rw [show 2048 * j + n = 2048 * (j + 1) by omega]
  · rw [List.drop_of_length_le (by omega), List.drop_of_length_le (by omega)]

theorem rfile_ok (k : Nat) (ys : YlF) (σ : St) (i t : Nat) (x : List UInt8) (hi : i < 9223372036854775808) (ht : t < 9223372036854775808) (hx : x.length ≤ 2000000) (hk : 1100000 ≤ k) :
    W (callY Tab.tb (k + 5) ys 39 [.agg [.sc (.int .i64 i), .sc (.int .i64 t)], .str x] σ) fun r => r.1 = .str (sfile i t x) ∧ Kept noX σ r.2 := by
  rw [s_call (af := Tab.b39) rfl (Nat.le_of_ble_eq_true rfl)]
  have hn := fun σ n w hn hw => rnum_ok (k + 3) ys σ n w hn hw (by omega)
  have hp := fun σ p h => fr.rput_ok k ys σ p h hk
  generalize callY Tab.tb (k + 4) = cy at hn hp ⊢
  have c1 : IntKind.u64.wrap (i : Int) = i := wrap_u64 (by omega)
  have c2 : IntKind.u64.wrap (t : Int) = t := wrap_u64 (by omega)
  have c3 : IntKind.u64.wrap (x.length : Int) = (x.length : Nat) := wrap_u64 (by omega)
  have a1 : aBin .add (.str [115, 110, 97, 112, 115, 104, 111, 116]) (.str (be 8 i)) = some (.str (magic ++ be 8 i)) := str_add (a := magic) (by rw [be_len]; decide)
  have a2 := str_add (a := magic ++ be 8 i) (b := be 8 t) (by simp [be_len, magic])
  have a3 : aBin .add (.str (magic ++ be 8 i ++ be 8 t)) (.str (be 8 x.length)) = some (.str (shead i t x.length)) := str_add (by simp [be_len, magic])
  simp -implicitDefEqProofs (disch := first | exact nbf rfl | exact nbt rfl | (simp only [ne_eq, reduceCtorEq, not_false_eq_true]; done) | omega | (simp -implicitDefEqProofs only [zN.down] <;> omega) | fail) only [Tab.b39, c1, XOp.kind, reduceCtorEq, V.bool, V.i64, aUn, aBox, aLoad, aArrAddr, aFold, aEqV, chkAdd, effAdd, AOp.kind, chkAll, chkSee, zP.down, zQ.down, zR.down, simprocAttr]
  repeat (first | refine w_fin ?_ | refine w_seq ?_ | refine w_block ?_ | refine w_reg ?_ | refine w_op ?_ | refine w_dop ?_)
  refine (hn _ i 8 (by omega) (by decide)).mono ?_
  rintro ⟨_, σ2⟩ ⟨rfl, k2⟩
  dsimp only at k2
  simp -implicitDefEqProofs (disch := first | exact nbf rfl | exact nbt rfl | (simp only [ne_eq, reduceCtorEq, not_false_eq_true]; done) | omega | (simp -implicitDefEqProofs only [zN.down] <;> omega) | fail) only [a1, c2, XOp.kind, reduceCtorEq, V.bool, V.i64, aUn, aBox, aLoad, aArrAddr, aFold, aEqV, chkAdd, effAdd, AOp.kind, chkAll, chkSee, zP.down, zQ.down, zR.down, simprocAttr]
  repeat (first | refine w_fin ?_ | refine w_seq ?_ | refine w_block ?_ | refine w_reg ?_ | refine w_op ?_ | refine w_dop ?_)
  refine (hn σ2 t 8 (by omega) (by decide)).mono ?_
  rintro ⟨_, σ3⟩ ⟨rfl, k3⟩
  dsimp only at k3
  simp -implicitDefEqProofs (disch := first | exact nbf rfl | exact nbt rfl | (simp only [ne_eq, reduceCtorEq, not_false_eq_true]; done) | omega | (simp -implicitDefEqProofs only [zN.down] <;> omega) | fail) only [a2, c3, XOp.kind, reduceCtorEq, V.bool, V.i64, aUn, aBox, aLoad, aArrAddr, aFold, aEqV, chkAdd, effAdd, AOp.kind, chkAll, chkSee, zP.down, zQ.down, zR.down, simprocAttr]
  repeat (first | refine w_fin ?_ | refine w_seq ?_ | refine w_block ?_ | refine w_reg ?_ | refine w_op ?_ | refine w_dop ?_)
  refine (hn σ3 x.length 8 (by omega) (by decide)).mono ?_
  rintro ⟨_, σ4⟩ ⟨rfl, k4⟩
  dsimp only at k4
  simp -implicitDefEqProofs (disch := first | exact nbf rfl | exact nbt rfl | (simp only [ne_eq, reduceCtorEq, not_false_eq_true]; done) | omega | (simp -implicitDefEqProofs only [zN.down] <;> omega) | fail) only [a3, XOp.kind, reduceCtorEq, V.bool, V.i64, aUn, aBox, aLoad, aArrAddr, aFold, aEqV, chkAdd, effAdd, AOp.kind, chkAll, chkSee, zP.down, zQ.down, zR.down, simprocAttr]
  repeat (first | refine w_fin ?_ | refine w_seq ?_ | refine w_block ?_ | refine w_reg ?_ | refine w_op ?_ | refine w_dop ?_)
  refine (hp σ4 (shead i t x.length) (by rw [shead_len]; decide)).mono ?_
  rintro ⟨_, σ5⟩ ⟨rfl, k5⟩
  dsimp only at k5
  have kk5 : Kept noX σ σ5 := (((Kept.refl noX σ).bump.trans k2).trans k3).trans (k4.trans k5)
  simp -implicitDefEqProofs (disch := first | exact nbf rfl | exact nbt rfl | (simp only [ne_eq, reduceCtorEq, not_false_eq_true]; done) | omega | (simp -implicitDefEqProofs only [zN.down] <;> omega) | fail) only [XOp.kind, reduceCtorEq, V.bool, V.i64, aUn, aBox, aLoad, aArrAddr, aFold, aEqV, chkAdd, effAdd, AOp.kind, chkAll, chkSee, zP.down, zQ.down, zR.down, simprocAttr]
  repeat (first | refine w_fin ?_ | refine w_seq ?_ | refine w_block ?_ | refine w_reg ?_ | refine w_op ?_ | refine w_dop ?_)
  have hl := pcs_len x
  refine W.mono (Q := fun q => ∃ (ρ : Env) (σ' : St), q = ((.exit 0 : Ex), ρ, σ') ∧ ρ 5 = .str (sfile i t x) ∧ Kept noX σ σ') ?_ ?_
  · refine w_loop (fun m ρ σ' => ∃ j, m = (pcs x).length - j ∧ j ≤ (pcs x).length ∧ ρ 1 = .str (x.drop (2048 * j)) ∧ ρ 5 = .str (fput (shead i t x.length) ++ fputs ((pcs x).take j)) ∧ Kept noX σ σ') (pcs x).length (by omega) ?_ ?_
    · refine ⟨0, rfl, Nat.zero_le _, ?_, ?_, kk5⟩
      all_goals first | rfl | (simp -implicitDefEqProofs (disch := first | exact nbf rfl | exact nbt rfl | (simp only [ne_eq, reduceCtorEq, not_false_eq_true]; done) | omega | (simp -implicitDefEqProofs only [zN.down] <;> omega) | fail) only [XOp.kind, reduceCtorEq, V.bool, V.i64, aUn, aBox, aLoad, aArrAddr, aFold, aEqV, chkAdd, effAdd, AOp.kind, chkAll, chkSee, zP.down, zQ.down, zR.down, simprocAttr]; done) | (simp -implicitDefEqProofs (disch := first | exact nbf rfl | exact nbt rfl | (simp only [ne_eq, reduceCtorEq, not_false_eq_true]; done) | omega | (simp -implicitDefEqProofs only [zN.down] <;> omega) | fail) only [fputs, XOp.kind, reduceCtorEq, V.bool, V.i64, aUn, aBox, aLoad, aArrAddr, aFold, aEqV, chkAdd, effAdd, AOp.kind, chkAll, chkSee, zP.down, zQ.down, zR.down, simprocAttr]; done) | (simp -implicitDefEqProofs (disch := first | exact nbf rfl | exact nbt rfl | (simp only [ne_eq, reduceCtorEq, not_false_eq_true]; done) | omega | (simp -implicitDefEqProofs only [zN.down] <;> omega) | fail) only [fputs, XOp.kind, reduceCtorEq, V.bool, V.i64, aUn, aBox, aLoad, aArrAddr, aFold, aEqV, chkAdd, effAdd, AOp.kind, chkAll, chkSee, zP.down, zQ.down, zR.down, simprocAttr]; simp)
    · rintro m ρ σ' ⟨j, hm, hj, e1, e5, kp⟩
      have hdl : (x.drop (2048 * j)).length = x.length - 2048 * j := List.length_drop
      by_cases hlt : 2048 * j < x.length
      · have d1 : decide (((x.drop (2048 * j)).length : Int) > 0) = true := by simp only [decide_eq_true_eq, hdl]; omega
        have hjl : j < (pcs x).length := by omega
        have hpl := pc_len x (2048 * j) (by omega)
        have hfl := flen_pcs x j (by omega)
        have a5 := str_add (a := fput (shead i t x.length) ++ fputs ((pcs x).take j)) (b := fput (pc x (2048 * j))) (by rw [List.length_append, fput_len, fput_len, shead_len, fputs_len]; omega)
        have hsn : fput (shead i t x.length) ++ fputs ((pcs x).take j) ++ fput (pc x (2048 * j)) = fput (shead i t x.length) ++ fputs ((pcs x).take (j + 1)) := by
          rw [List.append_assoc, List.take_add_one, List.getElem?_eq_getElem hjl, fputs_append, pcs_at hjl]
          simp [fputs]
        rw [hsn] at a5
        by_cases q : x.length - 2048 * j < 2048
        · have d2 : decide ((2048 : Int) > ((x.drop (2048 * j)).length : Int)) = true := by simp only [decide_eq_true_eq, hdl]; omega
          have hn : (x.drop (2048 * j)).length = min 2048 (x.length - 2048 * j) := by rw [hdl]; omega
          have s1 := str_lo (s := x.drop (2048 * j)) (h := (x.drop (2048 * j)).length) (Nat.le_refl _)
          have s2 := str_hi (s := x.drop (2048 * j)) (l := (x.drop (2048 * j)).length) (Nat.le_refl _)
          rw [pc_drop hn] at s1
          rw [drop_next hn] at s2
          generalize x.drop (2048 * j) = y at *
          simp -implicitDefEqProofs (disch := first | exact nbf rfl | exact nbt rfl | (simp only [ne_eq, reduceCtorEq, not_false_eq_true]; done) | omega | (simp -implicitDefEqProofs only [zN.down] <;> omega) | fail) only [d1, d2, e1, e5, s1, XOp.kind, reduceCtorEq, V.bool, V.i64, aUn, aBox, aLoad, aArrAddr, aFold, aEqV, chkAdd, effAdd, AOp.kind, chkAll, chkSee, zP.down, zQ.down, zR.down, simprocAttr]
          repeat (first | refine w_fin ?_ | refine w_seq ?_ | refine w_block ?_ | refine w_reg ?_ | refine w_op ?_ | refine w_dop ?_)
          refine (hp σ' (pc x (2048 * j)) (by omega)).mono ?_
          rintro ⟨_, σ6⟩ ⟨rfl, k6⟩
          dsimp only at k6
          simp -implicitDefEqProofs (disch := first | exact nbf rfl | exact nbt rfl | (simp only [ne_eq, reduceCtorEq, not_false_eq_true]; done) | omega | (simp -implicitDefEqProofs only [zN.down] <;> omega) | fail) only [e1, e5, a5, s2, XOp.kind, reduceCtorEq, V.bool, V.i64, aUn, aBox, aLoad, aArrAddr, aFold, aEqV, chkAdd, effAdd, AOp.kind, chkAll, chkSee, zP.down, zQ.down, zR.down, simprocAttr]
          exact ⟨(pcs x).length - (j + 1), by omega, j + 1, rfl, hjl, rfl, rfl, kp.trans k6⟩
        · have d2 : decide ((2048 : Int) > ((x.drop (2048 * j)).length : Int)) = false := by simp only [decide_eq_false_iff_not, hdl]; omega
          have hn : 2048 = min 2048 (x.length - 2048 * j) := by omega
          have s1 : aSlice (.str (x.drop (2048 * j))) none (some (.sc (.int .i64 2048))) none = some (.str ((x.drop (2048 * j)).take 2048)) := str_lo (h := 2048) (by omega)
          have s2 : aSlice (.str (x.drop (2048 * j))) (some (.sc (.int .i64 2048))) none none = some (.str ((x.drop (2048 * j)).drop 2048)) := str_hi (l := 2048) (by omega)
          rw [pc_drop hn] at s1
          rw [drop_next hn] at s2
          generalize x.drop (2048 * j) = y at *
          simp -implicitDefEqProofs (disch := first | exact nbf rfl | exact nbt rfl | (simp only [ne_eq, reduceCtorEq, not_false_eq_true]; done) | omega | (simp -implicitDefEqProofs only [zN.down] <;> omega) | fail) only [d1, d2, e1, e5, s1, XOp.kind, reduceCtorEq, V.bool, V.i64, aUn, aBox, aLoad, aArrAddr, aFold, aEqV, chkAdd, effAdd, AOp.kind, chkAll, chkSee, zP.down, zQ.down, zR.down, simprocAttr]
          repeat (first | refine w_fin ?_ | refine w_seq ?_ | refine w_block ?_ | refine w_reg ?_ | refine w_op ?_ | refine w_dop ?_)
          refine (hp σ' (pc x (2048 * j)) (by omega)).mono ?_
          rintro ⟨_, σ6⟩ ⟨rfl, k6⟩
          dsimp only at k6
          simp -implicitDefEqProofs (disch := first | exact nbf rfl | exact nbt rfl | (simp only [ne_eq, reduceCtorEq, not_false_eq_true]; done) | omega | (simp -implicitDefEqProofs only [zN.down] <;> omega) | fail) only [e1, e5, a5, s2, XOp.kind, reduceCtorEq, V.bool, V.i64, aUn, aBox, aLoad, aArrAddr, aFold, aEqV, chkAdd, effAdd, AOp.kind, chkAll, chkSee, zP.down, zQ.down, zR.down, simprocAttr]
          exact ⟨(pcs x).length - (j + 1), by omega, j + 1, rfl, hjl, rfl, rfl, kp.trans k6⟩
      · have d1 : decide (((x.drop (2048 * j)).length : Int) > 0) = false := by simp only [decide_eq_false_iff_not, hdl]; omega
        have hjl : j = (pcs x).length := by omega
        subst hjl
        rw [List.take_length] at e5
        simp -implicitDefEqProofs (disch := first | exact nbf rfl | exact nbt rfl | (simp only [ne_eq, reduceCtorEq, not_false_eq_true]; done) | omega | (simp -implicitDefEqProofs only [zN.down] <;> omega) | fail) only [d1, e1, e5, XOp.kind, reduceCtorEq, V.bool, V.i64, aUn, aBox, aLoad, aArrAddr, aFold, aEqV, chkAdd, effAdd, AOp.kind, chkAll, chkSee, zP.down, zQ.down, zR.down, simprocAttr]
        exact ⟨_, _, rfl, by simp -implicitDefEqProofs (disch := first | exact nbf rfl | exact nbt rfl | (simp only [ne_eq, reduceCtorEq, not_false_eq_true]; done) | omega | (simp -implicitDefEqProofs only [zN.down] <;> omega) | fail) only [e5, sfile, XOp.kind, reduceCtorEq, V.bool, V.i64, aUn, aBox, aLoad, aArrAddr, aFold, aEqV, chkAdd, effAdd, AOp.kind, chkAll, chkSee, zP.down, zQ.down, zR.down, simprocAttr], kp⟩
  · rintro _ ⟨ρ, σ', rfl, e5, kp⟩
    simp -implicitDefEqProofs (disch := first | exact nbf rfl | exact nbt rfl | (simp only [ne_eq, reduceCtorEq, not_false_eq_true]; done) | omega | (simp -implicitDefEqProofs only [zN.down] <;> omega) | fail) only [e5, XOp.kind, reduceCtorEq, V.bool, V.i64, aUn, aBox, aLoad, aArrAddr, aFold, aEqV, chkAdd, effAdd, AOp.kind, chkAll, chkSee, zP.down, zQ.down, zR.down, simprocAttr]
    exact kp

theorem rsread_ok (k : Nat) (ys : YlF) (σ : St) (s : List UInt8) (hs : s.length ≤ 1048576) (hk : 2200000 ≤ k) :
    W (callY Tab.tb (k + 7) ys 41 [.str s] σ) fun r => r.1 = srt (rrd s) ∧ Kept noX σ r.2 := by
  rw [s_call (af := Tab.b41) rfl (Nat.le_of_ble_eq_true rfl)]
  have hsc := fun σ => rscan_ok k ys σ s (by omega) (by omega)
  have hnum := fun σ s hs => rn8_ok (k + 5) ys σ s hs (by omega)
  have hfile := fun σ i t x hi ht hx => rfile_ok (k + 1) ys σ i t x hi ht hx (by omega)
  generalize callY Tab.tb (k + 6) = cy at hsc hnum hfile ⊢
  simp -implicitDefEqProofs (disch := first | exact nbf rfl | exact nbt rfl | (simp only [ne_eq, reduceCtorEq, not_false_eq_true]; done) | omega | (simp -implicitDefEqProofs only [zN.down] <;> omega) | fail) only [Tab.b41, XOp.kind, reduceCtorEq, V.bool, V.i64, aUn, aBox, aLoad, aArrAddr, aFold, aEqV, chkAdd, effAdd, AOp.kind, chkAll, chkSee, zP.down, zQ.down, zR.down, simprocAttr]
  repeat (first | refine w_fin ?_ | refine w_seq ?_ | refine w_block ?_ | refine w_reg ?_ | refine w_op ?_ | refine w_dop ?_)
  refine (hsc _).mono ?_
  rintro ⟨_, σ1⟩ ⟨v, rfl, how, k1⟩
  dsimp only at how k1
  have k1 : Kept noX σ σ1 := (Kept.refl _ _).bump.trans k1
  have hfs := flen_scan _ s (Nat.le_refl _)
  have hrv := how.rv
  have hcases : scan s = scan s := rfl
  clear how
  generalize hL : scan s = L at *
  clear hcases
  have hlen := hrv.len
  have hsize := hrv.size
  rw [List.length_map] at hlen
  cases L with
  | nil =>
    have z : ((([] : List (List UInt8)).length : Nat) : Int) = 0 := rfl
    rw [z] at hlen
    rw [rrd_nil hL]
    simp -implicitDefEqProofs (disch := first | exact nbf rfl | exact nbt rfl | (simp only [ne_eq, reduceCtorEq, not_false_eq_true]; done) | omega | (simp -implicitDefEqProofs only [zN.down] <;> omega) | fail) only [hlen, srt, bad0, XOp.kind, reduceCtorEq, V.bool, V.i64, aUn, aBox, aLoad, aArrAddr, aFold, aEqV, chkAdd, effAdd, AOp.kind, chkAll, chkSee, zP.down, zQ.down, zR.down, simprocAttr]
    exact k1
  | cons p l =>
    have z : (((l.length + 1 : Nat) : Int) == 0) = false := by simp only [beq_eq_false_iff_ne, ne_eq]; omega
    rw [List.length_cons] at hlen
    have a0 : aSlAddr v (.sc (.int .i64 0)) = some (.elt ((p :: l).map sc1).flatten 0) := by
      have := (hrv.at (i := 0) (by simp)).1
      simpa using this
    have b0 : aLoad σ1 (.elt ((p :: l).map sc1).flatten 0) none = some (.str p) := by simp [aLoad, aPart, sc1]
    have elt : ∀ (σ : St) j (hj : j < l.length), aSlAddr v (.sc (.int .i64 ((j + 1 : Nat) : Int))) = some (.elt ((p :: l).map sc1).flatten (j + 1)) ∧ aLoad σ (.elt ((p :: l).map sc1).flatten (j + 1)) none = some (.str l[j]) := by
      intro σ j hj
      have hj1 : j + 1 < ((p :: l).map sc1).length := by simp; omega
      obtain ⟨a1, _, _⟩ := hrv.at (i := j + 1) hj1
      have a4 := hrv.cellAt (i := j + 1) (j := 0) hj1 (by omega)
      simp only [List.getElem_map, Nat.add_zero, sc1, List.getElem?_cons_zero, Nat.mul_one, List.getElem_cons_succ] at a4
      rw [Nat.mul_one] at a1
      exact ⟨a1, by simp only [aLoad, aPart]; exact a4⟩
    generalize ((p :: l).map sc1).flatten = C at a0 b0 elt
    by_cases c2 : p.length = 32
    rotate_left
    · have d2 : ((p.length : Int) != 32) = true := by simp; omega
      rw [rrd_len hL c2]
      simp -implicitDefEqProofs (disch := first | exact nbf rfl | exact nbt rfl | (simp only [ne_eq, reduceCtorEq, not_false_eq_true]; done) | omega | (simp -implicitDefEqProofs only [zN.down] <;> omega) | fail) only [hlen, hsize, z, d2, a0, b0, srt, bad0, XOp.kind, reduceCtorEq, V.bool, V.i64, aUn, aBox, aArrAddr, aFold, aEqV, chkAdd, effAdd, AOp.kind, chkAll, chkSee, zP.down, zQ.down, zR.down, simprocAttr]
      exact k1
    have d2 : ((p.length : Int) != 32) = false := by simp; omega
    have s8 : aSlice (.str p) (some (.sc (.int .i64 8))) (some (.sc (.int .i64 16))) none = some (.str ((p.drop 8).take 8)) := str_sl (s := p) (l := 8) (h := 16) (by omega) (by omega)
    have s16 : aSlice (.str p) (some (.sc (.int .i64 16))) (some (.sc (.int .i64 24))) none = some (.str ((p.drop 16).take 8)) := str_sl (s := p) (l := 16) (h := 24) (by omega) (by omega)
    have n1 : ∀ σ, cy ys 62 [.str ((p.drop 8).take 8)] σ = some (.sc (.int .i64 (rnumb (p.drop 8))), σ) := fun σ => by
      rw [hnum σ _ (by rw [List.length_take, List.length_drop]; omega), rnumb_take]
    have n2 : ∀ σ, cy ys 62 [.str ((p.drop 16).take 8)] σ = some (.sc (.int .i64 (rnumb (p.drop 16))), σ) := fun σ => by
      rw [hnum σ _ (by rw [List.length_take, List.length_drop]; omega), rnumb_take]
    have hgood := rrd_good (s := s) (p := p) (l := l)
    have hbad := rrd_bad (s := s) (p := p) (l := l) hL c2
    unfold rgood at hgood hbad
    generalize rnumb (p.drop 8) = I at *
    generalize rnumb (p.drop 16) = T at *
    have hfl : l.flatten.length + 12 ≤ s.length := by
      have := flat_flen l
      simp only [flen] at hfs
      omega
    simp -implicitDefEqProofs (disch := first | exact nbf rfl | exact nbt rfl | (simp only [ne_eq, reduceCtorEq, not_false_eq_true]; done) | omega | (simp -implicitDefEqProofs only [zN.down] <;> omega) | fail) only [hlen, hsize, z, d2, a0, b0, s8, s16, n1, n2, XOp.kind, reduceCtorEq, V.bool, V.i64, aUn, aBox, aArrAddr, aFold, aEqV, chkAdd, effAdd, AOp.kind, chkAll, chkSee, zP.down, zQ.down, zR.down, simprocAttr]
    repeat (first | refine w_fin ?_ | refine w_seq ?_ | refine w_block ?_ | refine w_reg ?_ | refine w_op ?_ | refine w_dop ?_)
    have kk1 : Kept noX σ σ1.bump := k1.bump
    have hfs2 : l.length ≤ s.length := by
      have := len_flen l
      simp only [flen] at hfs
      omega
    refine W.mono (Q := fun q => ∃ (ρ : Env), q = ((.exit 0 : Ex), ρ, σ1.bump) ∧ ρ 0 = .str s ∧ ρ 2 = .agg [.sc (.int .i64 0), .sc (.int .i64 0)] ∧ ρ 7 = .agg [.sc (.int .i64 I), .sc (.int .i64 T)] ∧ ρ 8 = .str l.flatten) ?_ ?_
    · refine w_loop (fun m ρ σ' => ∃ j, m = l.length - j ∧ j ≤ l.length ∧ σ' = σ1.bump ∧ ρ 0 = .str s ∧ ρ 2 = .agg [.sc (.int .i64 0), .sc (.int .i64 0)] ∧ ρ 5 = v ∧ ρ 7 = .agg [.sc (.int .i64 I), .sc (.int .i64 T)] ∧ ρ 8 = .str (l.take j).flatten ∧ ρ 9 = .sc (.int .i64 ((j + 1 : Nat) : Int))) l.length (by omega) ?_ ?_
      · refine ⟨0, rfl, Nat.zero_le _, rfl, ?_, ?_, ?_, ?_, ?_, ?_⟩
        all_goals first | rfl | (simp -implicitDefEqProofs (disch := first | exact nbf rfl | exact nbt rfl | (simp only [ne_eq, reduceCtorEq, not_false_eq_true]; done) | omega | (simp -implicitDefEqProofs only [zN.down] <;> omega) | fail) only [XOp.kind, reduceCtorEq, V.bool, V.i64, aUn, aBox, aLoad, aArrAddr, aFold, aEqV, chkAdd, effAdd, AOp.kind, chkAll, chkSee, zP.down, zQ.down, zR.down, simprocAttr]; done) | (simp -implicitDefEqProofs (disch := first | exact nbf rfl | exact nbt rfl | (simp only [ne_eq, reduceCtorEq, not_false_eq_true]; done) | omega | (simp -implicitDefEqProofs only [zN.down] <;> omega) | fail) only [XOp.kind, reduceCtorEq, V.bool, V.i64, aUn, aBox, aLoad, aArrAddr, aFold, aEqV, chkAdd, effAdd, AOp.kind, chkAll, chkSee, zP.down, zQ.down, zR.down, simprocAttr]; rfl)
      · rintro m ρ σ' ⟨j, hm, hj, rfl, e0, e2, e5, e7, e8, e9⟩
        have hll := len_flen l
        by_cases hjl : j < l.length
        · have f1 : decide (((j + 1 : Nat) : Int) < ((l.length + 1 : Nat) : Int)) = true := by simp only [decide_eq_true_eq]; omega
          obtain ⟨a1, a2⟩ := elt σ1.bump j hjl
          have ft := flat_take l (j + 1)
          have hsn : (l.take j).flatten ++ l[j] = (l.take (j + 1)).flatten := by rw [List.take_add_one, List.getElem?_eq_getElem hjl, List.flatten_append]; simp
          have hla : ((l.take j).flatten ++ l[j]).length = (l.take (j + 1)).flatten.length := by rw [hsn]
          rw [List.length_append] at hla
          have a5 := str_add (a := (l.take j).flatten) (b := l[j]) (by omega)
          rw [hsn] at a5
          have w1 : IntKind.i64.wrap (((j + 1 : Nat) : Int) + 1) = ((j + 1 + 1 : Nat) : Int) := by rw [wrap64 (by simp only [flen] at hfs; omega) (by simp only [flen] at hfs; omega)]; omega
          simp -implicitDefEqProofs (disch := first | exact nbf rfl | exact nbt rfl | (simp only [ne_eq, reduceCtorEq, not_false_eq_true]; done) | omega | (simp -implicitDefEqProofs only [zN.down] <;> omega) | fail) only [f1, e0, e2, e5, e7, e8, e9, hlen, hsize, a1, a2, a5, w1, XOp.kind, reduceCtorEq, V.bool, V.i64, aUn, aBox, aArrAddr, aFold, aEqV, chkAdd, effAdd, AOp.kind, chkAll, chkSee, zP.down, zQ.down, zR.down, simprocAttr]
          exact ⟨l.length - (j + 1), by omega, j + 1, rfl, hjl, rfl, rfl⟩
        · have f1 : decide (((j + 1 : Nat) : Int) < ((l.length + 1 : Nat) : Int)) = false := by simp only [decide_eq_false_iff_not]; omega
          have : j = l.length := by omega
          subst this
          rw [List.take_length] at e8
          simp -implicitDefEqProofs (disch := first | exact nbf rfl | exact nbt rfl | (simp only [ne_eq, reduceCtorEq, not_false_eq_true]; done) | omega | (simp -implicitDefEqProofs only [zN.down] <;> omega) | fail) only [f1, e5, e9, hlen, XOp.kind, reduceCtorEq, V.bool, V.i64, aUn, aBox, aLoad, aArrAddr, aFold, aEqV, chkAdd, effAdd, AOp.kind, chkAll, chkSee, zP.down, zQ.down, zR.down, simprocAttr]
          refine ⟨_, rfl, ?_, ?_, ?_, ?_⟩
          all_goals (simp -implicitDefEqProofs (disch := first | exact nbf rfl | exact nbt rfl | (simp only [ne_eq, reduceCtorEq, not_false_eq_true]; done) | omega | (simp -implicitDefEqProofs only [zN.down] <;> omega) | fail) only [e0, e2, e7, e8, XOp.kind, reduceCtorEq, V.bool, V.i64, aUn, aBox, aLoad, aArrAddr, aFold, aEqV, chkAdd, effAdd, AOp.kind, chkAll, chkSee, zP.down, zQ.down, zR.down, simprocAttr]; done)
    · rintro _ ⟨ρ, rfl, e0, e2, e7, e8⟩
      by_cases q1 : I < 1
      · have f1 : decide (I < 1) = true := by simpa using q1
        rw [hbad (by omega)]
        simp -implicitDefEqProofs (disch := first | exact nbf rfl | exact nbt rfl | (simp only [ne_eq, reduceCtorEq, not_false_eq_true]; done) | omega | (simp -implicitDefEqProofs only [zN.down] <;> omega) | fail) only [e0, e2, e7, e8, f1, srt, bad0, XOp.kind, reduceCtorEq, V.bool, V.i64, aUn, aBox, aLoad, aArrAddr, aFold, aEqV, chkAdd, effAdd, AOp.kind, chkAll, chkSee, zP.down, zQ.down, zR.down, simprocAttr]
        exact kk1
      have f1 : decide (I < 1) = false := by simpa using q1
      by_cases q2 : I > 1048576
      · have f2 : decide (I > 1048576) = true := by simpa using q2
        rw [hbad (by omega)]
        simp -implicitDefEqProofs (disch := first | exact nbf rfl | exact nbt rfl | (simp only [ne_eq, reduceCtorEq, not_false_eq_true]; done) | omega | (simp -implicitDefEqProofs only [zN.down] <;> omega) | fail) only [e0, e2, e7, e8, f1, f2, srt, bad0, XOp.kind, reduceCtorEq, V.bool, V.i64, aUn, aBox, aLoad, aArrAddr, aFold, aEqV, chkAdd, effAdd, AOp.kind, chkAll, chkSee, zP.down, zQ.down, zR.down, simprocAttr]
        exact kk1
      have f2 : decide (I > 1048576) = false := by simpa using q2
      by_cases q3 : T < 0
      · have f3 : decide (T < 0) = true := by simpa using q3
        rw [hbad (by omega)]
        simp -implicitDefEqProofs (disch := first | exact nbf rfl | exact nbt rfl | (simp only [ne_eq, reduceCtorEq, not_false_eq_true]; done) | omega | (simp -implicitDefEqProofs only [zN.down] <;> omega) | fail) only [e0, e2, e7, e8, f1, f2, f3, srt, bad0, XOp.kind, reduceCtorEq, V.bool, V.i64, aUn, aBox, aLoad, aArrAddr, aFold, aEqV, chkAdd, effAdd, AOp.kind, chkAll, chkSee, zP.down, zQ.down, zR.down, simprocAttr]
        exact kk1
      have f3 : decide (T < 0) = false := by simpa using q3
      by_cases q4 : T > 1099511627776
      · have f4 : decide (T > 1099511627776) = true := by simpa using q4
        rw [hbad (by omega)]
        simp -implicitDefEqProofs (disch := first | exact nbf rfl | exact nbt rfl | (simp only [ne_eq, reduceCtorEq, not_false_eq_true]; done) | omega | (simp -implicitDefEqProofs only [zN.down] <;> omega) | fail) only [e0, e2, e7, e8, f1, f2, f3, f4, srt, bad0, XOp.kind, reduceCtorEq, V.bool, V.i64, aUn, aBox, aLoad, aArrAddr, aFold, aEqV, chkAdd, effAdd, AOp.kind, chkAll, chkSee, zP.down, zQ.down, zR.down, simprocAttr]
        exact kk1
      have f4 : decide (T > 1099511627776) = false := by simpa using q4
      by_cases q5 : l.flatten.length > 262144
      · have f5 : decide ((l.flatten.length : Int) > 262144) = true := by simp only [decide_eq_true_eq]; omega
        rw [hbad (by omega)]
        simp -implicitDefEqProofs (disch := first | exact nbf rfl | exact nbt rfl | (simp only [ne_eq, reduceCtorEq, not_false_eq_true]; done) | omega | (simp -implicitDefEqProofs only [zN.down] <;> omega) | fail) only [e0, e2, e7, e8, f1, f2, f3, f4, f5, srt, bad0, XOp.kind, reduceCtorEq, V.bool, V.i64, aUn, aBox, aLoad, aArrAddr, aFold, aEqV, chkAdd, effAdd, AOp.kind, chkAll, chkSee, zP.down, zQ.down, zR.down, simprocAttr]
        exact kk1
      have f5 : decide ((l.flatten.length : Int) > 262144) = false := by simp only [decide_eq_false_iff_not]; omega
      obtain ⟨i, rfl⟩ : ∃ n : Nat, I = n := ⟨I.toNat, by omega⟩
      obtain ⟨t, rfl⟩ : ∃ n : Nat, T = n := ⟨T.toNat, by omega⟩
      rw [Int.toNat_natCast, Int.toNat_natCast] at hgood hbad
      generalize l.flatten = x at *
      simp -implicitDefEqProofs (disch := first | exact nbf rfl | exact nbt rfl | (simp only [ne_eq, reduceCtorEq, not_false_eq_true]; done) | omega | (simp -implicitDefEqProofs only [zN.down] <;> omega) | fail) only [e0, e2, e7, e8, f1, f2, f3, f4, f5, XOp.kind, reduceCtorEq, V.bool, V.i64, aUn, aBox, aLoad, aArrAddr, aFold, aEqV, chkAdd, effAdd, AOp.kind, chkAll, chkSee, zP.down, zQ.down, zR.down, simprocAttr]
      repeat (first | refine w_fin ?_ | refine w_seq ?_ | refine w_block ?_ | refine w_reg ?_ | refine w_op ?_ | refine w_dop ?_)
      refine (hfile _ i t x (by omega) (by omega) (by omega)).mono ?_
      rintro ⟨_, σ2⟩ ⟨rfl, k2⟩
      dsimp only at k2
      have kk2 := kk1.trans k2
      by_cases q6 : sfile i t x = s
      · rw [hgood ⟨by omega, by omega, by omega, by omega, by omega, q6⟩]
        have f6 : decide (sfile i t x = s) = true := decide_eq_true q6
        simp -implicitDefEqProofs (disch := first | exact nbf rfl | exact nbt rfl | (simp only [ne_eq, reduceCtorEq, not_false_eq_true]; done) | omega | (simp -implicitDefEqProofs only [zN.down] <;> omega) | fail) only [e0, e2, e7, e8, str_ne, f6, srt, XOp.kind, reduceCtorEq, V.bool, V.i64, aUn, aBox, aLoad, aArrAddr, aFold, aEqV, chkAdd, effAdd, AOp.kind, chkAll, chkSee, zP.down, zQ.down, zR.down, simprocAttr]
        exact kk2
      · rw [hbad (fun h => q6 h.2.2.2.2.2)]
        have f6 : decide (sfile i t x = s) = false := decide_eq_false q6
        simp -implicitDefEqProofs (disch := first | exact nbf rfl | exact nbt rfl | (simp only [ne_eq, reduceCtorEq, not_false_eq_true]; done) | omega | (simp -implicitDefEqProofs only [zN.down] <;> omega) | fail) only [e0, e2, e7, e8, str_ne, f6, srt, bad0, XOp.kind, reduceCtorEq, V.bool, V.i64, aUn, aBox, aLoad, aArrAddr, aFold, aEqV, chkAdd, effAdd, AOp.kind, chkAll, chkSee, zP.down, zQ.down, zR.down, simprocAttr]
        exact kk2

theorem rload_ok (k : Nat) (ys : YlF) (σ : St) (d : Nat) (M : DM) (h : dk.RR σ d M) {B : Nat} (hm : M.Ok B) (hB : B ≤ 1000000) (hk : 2200000 ≤ k) :
    W (callY Tab.tb (k + 8) ys 21 [.ptr d 0] σ) fun r => r.1 = .tup [.agg [.sc (.int .i64 (rac M 2).1.i), .sc (.int .i64 (rac M 2).1.t)], .str (rac M 2).1.x, .sc (.int .i64 (rac M 2).2)] ∧ Kept noX σ r.2 := by
  rw [s_call (af := Tab.b21) rfl (Nat.le_of_ble_eq_true rfl)]
  have hsee := fun σ f h => rsee_ok (B := B) (k + 4) ys σ d M f h hm hB (by omega)
  have hsr := fun σ s hs => rsread_ok k ys σ s hs hk
  generalize callY Tab.tb (k + 7) = cy at hsee hsr ⊢
  simp -implicitDefEqProofs (disch := first | exact nbf rfl | exact nbt rfl | (simp only [ne_eq, reduceCtorEq, not_false_eq_true]; done) | omega | (simp -implicitDefEqProofs only [zN.down] <;> omega) | fail) only [Tab.b21, XOp.kind, reduceCtorEq, V.bool, V.i64, aUn, aBox, aLoad, aArrAddr, aFold, aEqV, chkAdd, effAdd, AOp.kind, chkAll, chkSee, zP.down, zQ.down, zR.down, simprocAttr]
  repeat (first | refine w_fin ?_ | refine w_seq ?_ | refine w_block ?_ | refine w_reg ?_ | refine w_op ?_ | refine w_dop ?_)
  refine W.mono (Q := fun q => ∃ (ρ : Env) (σ' : St), q = ((.exit 0 : Ex), ρ, σ') ∧ ρ 2 = .agg [.sc (.int .i64 0), .sc (.int .i64 0)] ∧ ρ 5 = .agg [.sc (.int .i64 (rac M 2).1.i), .sc (.int .i64 (rac M 2).1.t)] ∧ ρ 6 = .str (rac M 2).1.x ∧ ρ 7 = .sc (.int .i64 (rac M 2).2) ∧ Kept noX σ σ') ?_ ?_
  · refine w_loop (fun m ρ σ' => ∃ n, m = 2 - n ∧ n ≤ 2 ∧ ρ 0 = .ptr d 0 ∧ ρ 2 = .agg [.sc (.int .i64 0), .sc (.int .i64 0)] ∧ ρ 5 = .agg [.sc (.int .i64 (rac M n).1.i), .sc (.int .i64 (rac M n).1.t)] ∧ ρ 6 = .str (rac M n).1.x ∧ ρ 7 = .sc (.int .i64 (rac M n).2) ∧ ρ 8 = .sc (.int .i64 ((n + 2 : Nat) : Int)) ∧ Kept noX σ σ') 2 (by omega) ?_ ?_
    · refine ⟨0, rfl, by omega, ?_, ?_, ?_, ?_, ?_, ?_, ?_⟩
      all_goals first | rfl | (((repeat (first | refine Kept.push ?_ _ | refine Kept.bump ?_ | refine Kept.put ?_ (.inr (by omega)) (by first | omega | (simp only [St.n_put, St.n_push]; omega)) _)); first | exact Kept.refl _ _ | assumption); done) | (simp -implicitDefEqProofs (disch := first | exact nbf rfl | exact nbt rfl | (simp only [ne_eq, reduceCtorEq, not_false_eq_true]; done) | omega | (simp -implicitDefEqProofs only [zN.down] <;> omega) | fail) only [XOp.kind, reduceCtorEq, V.bool, V.i64, aUn, aBox, aLoad, aArrAddr, aFold, aEqV, chkAdd, effAdd, AOp.kind, chkAll, chkSee, zP.down, zQ.down, zR.down, simprocAttr]; done) | (simp -implicitDefEqProofs (disch := first | exact nbf rfl | exact nbt rfl | (simp only [ne_eq, reduceCtorEq, not_false_eq_true]; done) | omega | (simp -implicitDefEqProofs only [zN.down] <;> omega) | fail) only [XOp.kind, reduceCtorEq, V.bool, V.i64, aUn, aBox, aLoad, aArrAddr, aFold, aEqV, chkAdd, effAdd, AOp.kind, chkAll, chkSee, zP.down, zQ.down, zR.down, simprocAttr]; rfl)
    · rintro m ρ σ' ⟨n, hm2, hn, e0, e2, e5, e6, e7, e8, kp⟩
      by_cases hl : n < 2
      · have c1 : decide (((n + 2 : Nat) : Int) < 4) = true := by simp only [decide_eq_true_eq]; omega
        have w1 : IntKind.i64.wrap (((n + 2 : Nat) : Int) + 1) = ((n + 1 + 2 : Nat) : Int) := by rw [wrap64 (by omega) (by omega)]; omega
        have h1 := hsee σ' ((n + 2 : Nat) : Int) (h.kept kp (fun h => h))
        have hrl : (M.see ((n + 2 : Nat) : Int)).s.length ≤ 1048576 := by
          rw [see_in (by omega) (by omega)]
          exact (hm.f _ (by omega)).1.seen
        have hst : rac M (n + 1) = rst M (n + 2) (rac M n) := rfl
        unfold rst at hst
        generalize M.see ((n + 2 : Nat) : Int) = y at *
        simp -implicitDefEqProofs (disch := first | exact nbf rfl | exact nbt rfl | (simp only [ne_eq, reduceCtorEq, not_false_eq_true]; done) | omega | (simp -implicitDefEqProofs only [zN.down] <;> omega) | fail) only [c1, e0, e2, e5, e6, e7, e8, XOp.kind, reduceCtorEq, V.bool, V.i64, aUn, aBox, aLoad, aArrAddr, aFold, aEqV, chkAdd, effAdd, AOp.kind, chkAll, chkSee, zP.down, zQ.down, zR.down, simprocAttr]
        repeat (first | refine w_fin ?_ | refine w_seq ?_ | refine w_block ?_ | refine w_reg ?_ | refine w_op ?_ | refine w_dop ?_)
        refine h1.mono ?_
        rintro ⟨_, σ2⟩ ⟨rfl, k2⟩
        dsimp only at k2
        cases ht : y.there with
        | false =>
          rw [ht, if_pos rfl] at hst
          simp -implicitDefEqProofs (disch := first | exact nbf rfl | exact nbt rfl | (simp only [ne_eq, reduceCtorEq, not_false_eq_true]; done) | omega | (simp -implicitDefEqProofs only [zN.down] <;> omega) | fail) only [s2c, ht, e0, e2, e5, e6, e7, e8, w1, XOp.kind, reduceCtorEq, V.bool, V.i64, aUn, aBox, aLoad, aArrAddr, aFold, aEqV, chkAdd, effAdd, AOp.kind, chkAll, chkSee, zP.down, zQ.down, zR.down, simprocAttr]
          exact ⟨2 - (n + 1), by omega, n + 1, rfl, by omega, by rw [hst], by rw [hst], by rw [hst], rfl, (kp.trans k2).bump⟩
        | true =>
          rw [ht, if_neg (by simp)] at hst
          simp -implicitDefEqProofs (disch := first | exact nbf rfl | exact nbt rfl | (simp only [ne_eq, reduceCtorEq, not_false_eq_true]; done) | omega | (simp -implicitDefEqProofs only [zN.down] <;> omega) | fail) only [s2c, ht, e0, e2, e5, e6, e7, e8, XOp.kind, reduceCtorEq, V.bool, V.i64, aUn, aBox, aLoad, aArrAddr, aFold, aEqV, chkAdd, effAdd, AOp.kind, chkAll, chkSee, zP.down, zQ.down, zR.down, simprocAttr]
          repeat (first | refine w_fin ?_ | refine w_seq ?_ | refine w_block ?_ | refine w_reg ?_ | refine w_op ?_ | refine w_dop ?_)
          refine (hsr _ _ hrl).mono ?_
          rintro ⟨_, σ3⟩ ⟨rfl, k3⟩
          dsimp only at k3
          have kk := ((kp.trans k2).bump.trans k3).bump
          generalize rrd y.s = q at *
          cases c3 : q.ok with
          | true =>
            by_cases c4 : q.i > (rac M n).1.i
            · have d4 : decide ((q.i : Int) > ((rac M n).1.i : Int)) = true := by simp; omega
              rw [if_pos ⟨c3, c4⟩] at hst
              simp -implicitDefEqProofs (disch := first | exact nbf rfl | exact nbt rfl | (simp only [ne_eq, reduceCtorEq, not_false_eq_true]; done) | omega | (simp -implicitDefEqProofs only [zN.down] <;> omega) | fail) only [srt, c3, d4, e0, e2, e5, e6, e7, e8, w1, XOp.kind, reduceCtorEq, V.bool, V.i64, aUn, aBox, aLoad, aArrAddr, aFold, aEqV, chkAdd, effAdd, AOp.kind, chkAll, chkSee, zP.down, zQ.down, zR.down, simprocAttr]
              exact ⟨2 - (n + 1), by omega, n + 1, rfl, by omega, by rw [hst], by rw [hst], by rw [hst], rfl, kk⟩
            · have d4 : decide ((q.i : Int) > ((rac M n).1.i : Int)) = false := by simp; omega
              rw [if_neg (by simp [c4])] at hst
              simp -implicitDefEqProofs (disch := first | exact nbf rfl | exact nbt rfl | (simp only [ne_eq, reduceCtorEq, not_false_eq_true]; done) | omega | (simp -implicitDefEqProofs only [zN.down] <;> omega) | fail) only [srt, c3, d4, e0, e2, e5, e6, e7, e8, w1, XOp.kind, reduceCtorEq, V.bool, V.i64, aUn, aBox, aLoad, aArrAddr, aFold, aEqV, chkAdd, effAdd, AOp.kind, chkAll, chkSee, zP.down, zQ.down, zR.down, simprocAttr]
              exact ⟨2 - (n + 1), by omega, n + 1, rfl, by omega, by rw [hst], by rw [hst], by rw [hst], rfl, kk⟩
          | false =>
            rw [if_neg (by simp [c3])] at hst
            simp -implicitDefEqProofs (disch := first | exact nbf rfl | exact nbt rfl | (simp only [ne_eq, reduceCtorEq, not_false_eq_true]; done) | omega | (simp -implicitDefEqProofs only [zN.down] <;> omega) | fail) only [srt, c3, e0, e2, e5, e6, e7, e8, w1, XOp.kind, reduceCtorEq, V.bool, V.i64, aUn, aBox, aLoad, aArrAddr, aFold, aEqV, chkAdd, effAdd, AOp.kind, chkAll, chkSee, zP.down, zQ.down, zR.down, simprocAttr]
            exact ⟨2 - (n + 1), by omega, n + 1, rfl, by omega, by rw [hst], by rw [hst], by rw [hst], rfl, kk⟩
      · have c1 : decide (((n + 2 : Nat) : Int) < 4) = false := by simp only [decide_eq_false_iff_not]; omega
        have : n = 2 := by omega
        subst this
        simp -implicitDefEqProofs (disch := first | exact nbf rfl | exact nbt rfl | (simp only [ne_eq, reduceCtorEq, not_false_eq_true]; done) | omega | (simp -implicitDefEqProofs only [zN.down] <;> omega) | fail) only [c1, e8, XOp.kind, reduceCtorEq, V.bool, V.i64, aUn, aBox, aLoad, aArrAddr, aFold, aEqV, chkAdd, effAdd, AOp.kind, chkAll, chkSee, zP.down, zQ.down, zR.down, simprocAttr]
        refine ⟨_, _, rfl, ?_, ?_, ?_, ?_, kp⟩
        all_goals (simp -implicitDefEqProofs (disch := first | exact nbf rfl | exact nbt rfl | (simp only [ne_eq, reduceCtorEq, not_false_eq_true]; done) | omega | (simp -implicitDefEqProofs only [zN.down] <;> omega) | fail) only [e0, e2, e5, e6, e7, XOp.kind, reduceCtorEq, V.bool, V.i64, aUn, aBox, aLoad, aArrAddr, aFold, aEqV, chkAdd, effAdd, AOp.kind, chkAll, chkSee, zP.down, zQ.down, zR.down, simprocAttr]; done)
  · rintro _ ⟨ρ, σ', rfl, e2, e5, e6, e7, kp⟩
    simp -implicitDefEqProofs (disch := first | exact nbf rfl | exact nbt rfl | (simp only [ne_eq, reduceCtorEq, not_false_eq_true]; done) | omega | (simp -implicitDefEqProofs only [zN.down] <;> omega) | fail) only [e2, e5, e6, e7, XOp.kind, reduceCtorEq, V.bool, V.i64, aUn, aBox, aLoad, aArrAddr, aFold, aEqV, chkAdd, effAdd, AOp.kind, chkAll, chkSee, zP.down, zQ.down, zR.down, simprocAttr]
    exact kp
end Go.Proofs.Ytjcobnjnjliehaa.sn
namespace Go.Proofs.Ytjcobnjnjliehaa.sn
open Go.Ab fr dk
set_option maxRecDepth 100000
set_option maxHeartbeats 8000000
set_option linter.unusedSimpArgs false
set_option linter.unusedVariables false

theorem rsave_ok (k : Nat) (ys : YlF) (σ : St) (d : Nat) (M : DM) (i t : Int) (x : List UInt8) (h : dk.RR σ d M) {B : Nat} (hm : M.Ok B) (hB : B ≤ 999990) (hk : 3300000 ≤ k) :
    W (callY Tab.tb (k + 9) ys 20 [.ptr d 0, .agg [.sc (.int .i64 i), .sc (.int .i64 t)], .str x] σ) fun r => r.1 = .sc (.int .i64 (msave M i t x).2) ∧ dk.RR r.2 d (msave M i t x).1 ∧ Kept (· = d) σ r.2 := by
  rw [s_call (af := Tab.b20) rfl (Nat.le_of_ble_eq_true rfl)]
  have hld := fun σ h => rload_ok k ys σ d M h hm (by omega) (by omega)
  have hsee := fun σ f h => rsee_ok (B := B) (k + 5) ys σ d M f h hm (by omega) (by omega)
  have hch := fun σ M f c h B hm hB hs => rchange_ok (B := B) (k + 4) ys σ d M f c h hm hB (by omega) hs
  have hsy := fun σ M f h B hm hB => rsync_ok (B := B) (k + 5) ys σ d M f h hm hB (by omega)
  have hfl := fun σ i t x hi ht hx => rfile_ok (k + 3) ys σ i t x hi ht hx (by omega)
  generalize callY Tab.tb (k + 8) = cy at hld hsee hch hsy hfl ⊢
  have ld := h.lt
  have hd := h
  obtain ⟨cs, g, hc⟩ := h
  have hpw := hc.p
  have hb := hd.kept ((Kept.refl noX σ).bump) (fun h => h)
  unfold msave
  by_cases hp : M.power = 0
  · have d1 : (M.power == 0) = true := by simp [hp]
    rw [if_pos hp]
    simp -implicitDefEqProofs (disch := first | exact nbf rfl | exact nbt rfl | (simp only [ne_eq, reduceCtorEq, not_false_eq_true]; done) | omega | (simp -implicitDefEqProofs only [zN.down] <;> omega) | fail) only [Tab.b20, g, hpw, d1, XOp.kind, reduceCtorEq, V.bool, V.i64, aUn, aBox, aLoad, aArrAddr, aFold, aEqV, chkAdd, effAdd, AOp.kind, chkAll, chkSee, zP.down, zQ.down, zR.down, simprocAttr]
    exact ⟨hb, (Kept.refl _ _).bump⟩
  have d1 : (M.power == 0) = false := by simp [hp]
  rw [if_neg hp]
  by_cases e1 : i < 1
  · have f1 : decide (i < 1) = true := by simp; omega
    rw [if_pos (.inl e1)]
    simp -implicitDefEqProofs (disch := first | exact nbf rfl | exact nbt rfl | (simp only [ne_eq, reduceCtorEq, not_false_eq_true]; done) | omega | (simp -implicitDefEqProofs only [zN.down] <;> omega) | fail) only [Tab.b20, g, hpw, d1, f1, XOp.kind, reduceCtorEq, V.bool, V.i64, aUn, aBox, aLoad, aArrAddr, aFold, aEqV, chkAdd, effAdd, AOp.kind, chkAll, chkSee, zP.down, zQ.down, zR.down, simprocAttr]
    exact ⟨hb, (Kept.refl _ _).bump⟩
  have f1 : decide (i < 1) = false := by simp; omega
  by_cases e2 : i > 1048576
  · have f2 : decide (i > 1048576) = true := by simp; omega
    rw [if_pos (.inr (.inl e2))]
    simp -implicitDefEqProofs (disch := first | exact nbf rfl | exact nbt rfl | (simp only [ne_eq, reduceCtorEq, not_false_eq_true]; done) | omega | (simp -implicitDefEqProofs only [zN.down] <;> omega) | fail) only [Tab.b20, g, hpw, d1, f1, f2, XOp.kind, reduceCtorEq, V.bool, V.i64, aUn, aBox, aLoad, aArrAddr, aFold, aEqV, chkAdd, effAdd, AOp.kind, chkAll, chkSee, zP.down, zQ.down, zR.down, simprocAttr]
    exact ⟨hb, (Kept.refl _ _).bump⟩
  have f2 : decide (i > 1048576) = false := by simp; omega
  by_cases e3 : t < 0
  · have f3 : decide (t < 0) = true := by simp; omega
    rw [if_pos (.inr (.inr (.inl e3)))]
    simp -implicitDefEqProofs (disch := first | exact nbf rfl | exact nbt rfl | (simp only [ne_eq, reduceCtorEq, not_false_eq_true]; done) | omega | (simp -implicitDefEqProofs only [zN.down] <;> omega) | fail) only [Tab.b20, g, hpw, d1, f1, f2, f3, XOp.kind, reduceCtorEq, V.bool, V.i64, aUn, aBox, aLoad, aArrAddr, aFold, aEqV, chkAdd, effAdd, AOp.kind, chkAll, chkSee, zP.down, zQ.down, zR.down, simprocAttr]
    exact ⟨hb, (Kept.refl _ _).bump⟩
  have f3 : decide (t < 0) = false := by simp; omega
  by_cases e4 : t > 1099511627776
  · have f4 : decide (t > 1099511627776) = true := by simp; omega
    rw [if_pos (.inr (.inr (.inr e4)))]
    simp -implicitDefEqProofs (disch := first | exact nbf rfl | exact nbt rfl | (simp only [ne_eq, reduceCtorEq, not_false_eq_true]; done) | omega | (simp -implicitDefEqProofs only [zN.down] <;> omega) | fail) only [Tab.b20, g, hpw, d1, f1, f2, f3, f4, XOp.kind, reduceCtorEq, V.bool, V.i64, aUn, aBox, aLoad, aArrAddr, aFold, aEqV, chkAdd, effAdd, AOp.kind, chkAll, chkSee, zP.down, zQ.down, zR.down, simprocAttr]
    exact ⟨hb, (Kept.refl _ _).bump⟩
  have f4 : decide (t > 1099511627776) = false := by simp; omega
  rw [if_neg (by omega)]
  by_cases e5 : x.length > 262144
  · have f5 : decide ((x.length : Int) > 262144) = true := by simp; omega
    rw [if_pos e5]
    simp -implicitDefEqProofs (disch := first | exact nbf rfl | exact nbt rfl | (simp only [ne_eq, reduceCtorEq, not_false_eq_true]; done) | omega | (simp -implicitDefEqProofs only [zN.down] <;> omega) | fail) only [Tab.b20, g, hpw, d1, f1, f2, f3, f4, f5, XOp.kind, reduceCtorEq, V.bool, V.i64, aUn, aBox, aLoad, aArrAddr, aFold, aEqV, chkAdd, effAdd, AOp.kind, chkAll, chkSee, zP.down, zQ.down, zR.down, simprocAttr]
    exact ⟨hb, (Kept.refl _ _).bump⟩
  have f5 : decide ((x.length : Int) > 262144) = false := by simp; omega
  rw [if_neg e5]
  obtain ⟨i, rfl⟩ : ∃ n : Nat, i = n := ⟨i.toNat, by omega⟩
  obtain ⟨t, rfl⟩ : ∃ n : Nat, t = n := ⟨t.toNat, by omega⟩
  rw [Int.toNat_natCast, Int.toNat_natCast, mld_at hp, sfl_at hp]
  simp -implicitDefEqProofs (disch := first | exact nbf rfl | exact nbt rfl | (simp only [ne_eq, reduceCtorEq, not_false_eq_true]; done) | omega | (simp -implicitDefEqProofs only [zN.down] <;> omega) | fail) only [Tab.b20, g, hpw, d1, f1, f2, f3, f4, f5, XOp.kind, reduceCtorEq, V.bool, V.i64, aUn, aBox, aLoad, aArrAddr, aFold, aEqV, chkAdd, effAdd, AOp.kind, chkAll, chkSee, zP.down, zQ.down, zR.down, simprocAttr]
  repeat (first | refine w_fin ?_ | refine w_seq ?_ | refine w_block ?_ | refine w_reg ?_ | refine w_op ?_ | refine w_dop ?_)
  refine (hld _ hb).mono ?_
  rintro ⟨_, σ1⟩ ⟨rfl, k1⟩
  dsimp only at k1
  have k1 : Kept noX σ σ1 := (Kept.refl _ _).bump.trans k1
  have hra := rac_2 M 2
  generalize rac M 2 = a at *
  have rest : ∀ (σ2 : St), Kept noX σ σ2 → dk.RR σ2 d M := fun σ2 k => hd.kept k (fun h => h)
  by_cases g0 : 0 ≤ a.2 ∧ (i : Int) ≤ a.1.i
  · have d2 : decide (a.2 ≥ 0) = true := by simp; omega
    have d3 : decide ((i : Int) ≤ (a.1.i : Int)) = true := by simp; omega
    rw [if_pos (by rw [if_neg (by omega)]; exact ⟨rfl, g0.2⟩)]
    simp -implicitDefEqProofs (disch := first | exact nbf rfl | exact nbt rfl | (simp only [ne_eq, reduceCtorEq, not_false_eq_true]; done) | omega | (simp -implicitDefEqProofs only [zN.down] <;> omega) | fail) only [d2, d3, XOp.kind, reduceCtorEq, V.bool, V.i64, aUn, aBox, aLoad, aArrAddr, aFold, aEqV, chkAdd, effAdd, AOp.kind, chkAll, chkSee, zP.down, zQ.down, zR.down, simprocAttr]
    exact ⟨rest _ k1.bump, k1.bump.any⟩
  rw [if_neg (by split <;> omega)]
  have cond0 : ∃ b, decide (a.2 ≥ 0) = b ∧ (b = true → decide ((i : Int) ≤ (a.1.i : Int)) = false) := by
    refine ⟨_, rfl, fun hb => ?_⟩
    simp only [decide_eq_true_eq] at hb
    simp only [decide_eq_false_iff_not]
    exact fun h => g0 ⟨hb, h⟩
  obtain ⟨b, hb1, hb2⟩ := cond0
  simp -implicitDefEqProofs (disch := first | exact nbf rfl | exact nbt rfl | (simp only [ne_eq, reduceCtorEq, not_false_eq_true]; done) | omega | (simp -implicitDefEqProofs only [zN.down] <;> omega) | fail) only [XOp.kind, reduceCtorEq, V.bool, V.i64, aUn, aBox, aLoad, aArrAddr, aFold, aEqV, chkAdd, effAdd, AOp.kind, chkAll, chkSee, zP.down, zQ.down, zR.down, simprocAttr]
  refine w_seq ?_
  refine W.mono (Q := fun q => ∃ (ρ : Env), q = ((.normal : Ex), ρ, σ1.bump) ∧ ρ 0 = .ptr d 0 ∧ ρ 2 = .str x ∧ ρ 4 = .agg [.sc (.int .i64 i), .sc (.int .i64 t)] ∧ ρ 9 = .sc (.int .i64 a.2)) ?_ ?_
  · cases b with
    | true =>
      have hb3 := hb2 rfl
      simp -implicitDefEqProofs (disch := first | exact nbf rfl | exact nbt rfl | (simp only [ne_eq, reduceCtorEq, not_false_eq_true]; done) | omega | (simp -implicitDefEqProofs only [zN.down] <;> omega) | fail) only [hb1, hb3, XOp.kind, reduceCtorEq, V.bool, V.i64, aUn, aBox, aLoad, aArrAddr, aFold, aEqV, chkAdd, effAdd, AOp.kind, chkAll, chkSee, zP.down, zQ.down, zR.down, simprocAttr]
      refine ⟨_, rfl, ?_, ?_, ?_, ?_⟩
      all_goals (simp -implicitDefEqProofs (disch := first | exact nbf rfl | exact nbt rfl | (simp only [ne_eq, reduceCtorEq, not_false_eq_true]; done) | omega | (simp -implicitDefEqProofs only [zN.down] <;> omega) | fail) only [XOp.kind, reduceCtorEq, V.bool, V.i64, aUn, aBox, aLoad, aArrAddr, aFold, aEqV, chkAdd, effAdd, AOp.kind, chkAll, chkSee, zP.down, zQ.down, zR.down, simprocAttr]; done)
    | false =>
      simp -implicitDefEqProofs (disch := first | exact nbf rfl | exact nbt rfl | (simp only [ne_eq, reduceCtorEq, not_false_eq_true]; done) | omega | (simp -implicitDefEqProofs only [zN.down] <;> omega) | fail) only [hb1, XOp.kind, reduceCtorEq, V.bool, V.i64, aUn, aBox, aLoad, aArrAddr, aFold, aEqV, chkAdd, effAdd, AOp.kind, chkAll, chkSee, zP.down, zQ.down, zR.down, simprocAttr]
      refine ⟨_, rfl, ?_, ?_, ?_, ?_⟩
      all_goals (simp -implicitDefEqProofs (disch := first | exact nbf rfl | exact nbt rfl | (simp only [ne_eq, reduceCtorEq, not_false_eq_true]; done) | omega | (simp -implicitDefEqProofs only [zN.down] <;> omega) | fail) only [XOp.kind, reduceCtorEq, V.bool, V.i64, aUn, aBox, aLoad, aArrAddr, aFold, aEqV, chkAdd, effAdd, AOp.kind, chkAll, chkSee, zP.down, zQ.down, zR.down, simprocAttr]; done)
  · rintro _ ⟨ρ, rfl, e0, e2', e4', e9⟩
    simp -implicitDefEqProofs (disch := first | exact nbf rfl | exact nbt rfl | (simp only [ne_eq, reduceCtorEq, not_false_eq_true]; done) | omega | (simp -implicitDefEqProofs only [zN.down] <;> omega) | fail) only [e9, XOp.kind, reduceCtorEq, V.bool, V.i64, aUn, aBox, aLoad, aArrAddr, aFold, aEqV, chkAdd, effAdd, AOp.kind, chkAll, chkSee, zP.down, zQ.down, zR.down, simprocAttr]
    refine w_seq ?_
    refine W.mono (Q := fun q => ∃ (ρ : Env) (f : Nat), q = ((.normal : Ex), ρ, σ1.bump) ∧ f = (if a.2 = 2 then 3 else 2) ∧ ρ 0 = .ptr d 0 ∧ ρ 2 = .str x ∧ ρ 4 = .agg [.sc (.int .i64 i), .sc (.int .i64 t)] ∧ ρ 10 = .sc (.int .i64 (f : Int))) ?_ ?_
    · by_cases c2 : a.2 = 2
      · have d2 : (a.2 == 2) = true := by simp [c2]
        simp -implicitDefEqProofs (disch := first | exact nbf rfl | exact nbt rfl | (simp only [ne_eq, reduceCtorEq, not_false_eq_true]; done) | omega | (simp -implicitDefEqProofs only [zN.down] <;> omega) | fail) only [d2, XOp.kind, reduceCtorEq, V.bool, V.i64, aUn, aBox, aLoad, aArrAddr, aFold, aEqV, chkAdd, effAdd, AOp.kind, chkAll, chkSee, zP.down, zQ.down, zR.down, simprocAttr]
        refine ⟨_, 3, rfl, by rw [if_pos c2], ?_, ?_, ?_, ?_⟩
        all_goals first | (simp -implicitDefEqProofs (disch := first | exact nbf rfl | exact nbt rfl | (simp only [ne_eq, reduceCtorEq, not_false_eq_true]; done) | omega | (simp -implicitDefEqProofs only [zN.down] <;> omega) | fail) only [e0, e2', e4', XOp.kind, reduceCtorEq, V.bool, V.i64, aUn, aBox, aLoad, aArrAddr, aFold, aEqV, chkAdd, effAdd, AOp.kind, chkAll, chkSee, zP.down, zQ.down, zR.down, simprocAttr]; done) | (simp -implicitDefEqProofs (disch := first | exact nbf rfl | exact nbt rfl | (simp only [ne_eq, reduceCtorEq, not_false_eq_true]; done) | omega | (simp -implicitDefEqProofs only [zN.down] <;> omega) | fail) only [XOp.kind, reduceCtorEq, V.bool, V.i64, aUn, aBox, aLoad, aArrAddr, aFold, aEqV, chkAdd, effAdd, AOp.kind, chkAll, chkSee, zP.down, zQ.down, zR.down, simprocAttr]; rfl)
      · have d2 : (a.2 == 2) = false := by simp [c2]
        simp -implicitDefEqProofs (disch := first | exact nbf rfl | exact nbt rfl | (simp only [ne_eq, reduceCtorEq, not_false_eq_true]; done) | omega | (simp -implicitDefEqProofs only [zN.down] <;> omega) | fail) only [d2, XOp.kind, reduceCtorEq, V.bool, V.i64, aUn, aBox, aLoad, aArrAddr, aFold, aEqV, chkAdd, effAdd, AOp.kind, chkAll, chkSee, zP.down, zQ.down, zR.down, simprocAttr]
        refine ⟨_, 2, rfl, by rw [if_neg c2], ?_, ?_, ?_, ?_⟩
        all_goals first | (simp -implicitDefEqProofs (disch := first | exact nbf rfl | exact nbt rfl | (simp only [ne_eq, reduceCtorEq, not_false_eq_true]; done) | omega | (simp -implicitDefEqProofs only [zN.down] <;> omega) | fail) only [e0, e2', e4', XOp.kind, reduceCtorEq, V.bool, V.i64, aUn, aBox, aLoad, aArrAddr, aFold, aEqV, chkAdd, effAdd, AOp.kind, chkAll, chkSee, zP.down, zQ.down, zR.down, simprocAttr]; done) | (simp -implicitDefEqProofs (disch := first | exact nbf rfl | exact nbt rfl | (simp only [ne_eq, reduceCtorEq, not_false_eq_true]; done) | omega | (simp -implicitDefEqProofs only [zN.down] <;> omega) | fail) only [XOp.kind, reduceCtorEq, V.bool, V.i64, aUn, aBox, aLoad, aArrAddr, aFold, aEqV, chkAdd, effAdd, AOp.kind, chkAll, chkSee, zP.down, zQ.down, zR.down, simprocAttr]; rfl)
    · rintro _ ⟨ρ, f, rfl, hf, e0, e2', e4', e10⟩
      rw [← hf]
      have hf32 : f < 32 := by rw [hf]; split <;> omega
      clear hf
      have hs1 := rest _ k1.bump
      have hsn : M.see (f : Int) = (M.f f).seen := by rw [see_in (by omega) (by omega), Int.toNat_natCast]
      have f1 := hsee σ1.bump (f : Int) hs1
      rw [hsn] at f1
      simp -implicitDefEqProofs (disch := first | exact nbf rfl | exact nbt rfl | (simp only [ne_eq, reduceCtorEq, not_false_eq_true]; done) | omega | (simp -implicitDefEqProofs only [zN.down] <;> omega) | fail) only [e0, e10, XOp.kind, reduceCtorEq, V.bool, V.i64, aUn, aBox, aLoad, aArrAddr, aFold, aEqV, chkAdd, effAdd, AOp.kind, chkAll, chkSee, zP.down, zQ.down, zR.down, simprocAttr]
      repeat (first | refine w_fin ?_ | refine w_seq ?_ | refine w_block ?_ | refine w_reg ?_ | refine w_op ?_ | refine w_dop ?_)
      refine f1.mono ?_
      rintro ⟨_, σ2⟩ ⟨rfl, k2⟩
      dsimp only at k2
      have kk2 := k1.bump.trans k2
      have hs2 := rest _ kk2
      obtain ⟨E, hE⟩ : ∃ E, E = msw M f (sfile i t x) := ⟨_, rfl⟩
      rw [← hE]
      unfold msw at hE
      simp -implicitDefEqProofs (disch := first | exact nbf rfl | exact nbt rfl | (simp only [ne_eq, reduceCtorEq, not_false_eq_true]; done) | omega | (simp -implicitDefEqProofs only [zN.down] <;> omega) | fail) only [s2c, XOp.kind, reduceCtorEq, V.bool, V.i64, aUn, aBox, aLoad, aArrAddr, aFold, aEqV, chkAdd, effAdd, AOp.kind, chkAll, chkSee, zP.down, zQ.down, zR.down, simprocAttr]
      refine W.mono (Q := fun r => ∃ (ρ : Env) (σ' : St) (M1 : DM), r = ((.normal : Ex), ρ, σ') ∧ E = (if (M1.change (f : Int) ⟨1, sfile i t x, 0⟩).2 ≠ 0 then M1.change (f : Int) ⟨1, sfile i t x, 0⟩ else (M1.change (f : Int) ⟨1, sfile i t x, 0⟩).1.sync (f : Int)) ∧ M1.Ok (B + 1) ∧ dk.RR σ' d M1 ∧ Kept (· = d) σ σ' ∧ ρ 0 = .ptr d 0 ∧ ρ 2 = .str x ∧ ρ 4 = .agg [.sc (.int .i64 i), .sc (.int .i64 t)] ∧ ρ 10 = .sc (.int .i64 (f : Int))) ?_ ?_
      · cases hth : (M.f f).seen.there with
        | true =>
          have f2 := hch σ2 M (f : Int) ⟨3, [], 0⟩ hs2 B hm (by omega) (by simp)
          unfold chc at f2
          have hmo := hm.change (f := (f : Int)) (c := ⟨3, [], 0⟩) (.inr (.inr rfl))
          have hmay : M.may f ⟨3, [], 0⟩ = 0 := by
            unfold DM.may
            rw [hsn, hth]
            simp
          have h0 : (M.change (f : Int) ⟨3, [], 0⟩).2 = 0 := by rw [change_y hp hf32 hmay]
          dsimp only at hE
          rw [if_neg (by simp [h0])] at hE
          simp -implicitDefEqProofs (disch := first | exact nbf rfl | exact nbt rfl | (simp only [ne_eq, reduceCtorEq, not_false_eq_true]; done) | omega | (simp -implicitDefEqProofs only [zN.down] <;> omega) | fail) only [e0, e10, hth, XOp.kind, reduceCtorEq, V.bool, V.i64, aUn, aBox, aLoad, aArrAddr, aFold, aEqV, chkAdd, effAdd, AOp.kind, chkAll, chkSee, zP.down, zQ.down, zR.down, simprocAttr]
          repeat (first | refine w_fin ?_ | refine w_seq ?_ | refine w_block ?_ | refine w_reg ?_ | refine w_op ?_ | refine w_dop ?_)
          refine f2.mono ?_
          rintro ⟨_, σ3⟩ ⟨rfl, h3, k3⟩
          dsimp only at h3 k3
          rw [h0]
          simp -implicitDefEqProofs (disch := first | exact nbf rfl | exact nbt rfl | (simp only [ne_eq, reduceCtorEq, not_false_eq_true]; done) | omega | (simp -implicitDefEqProofs only [zN.down] <;> omega) | fail) only [e0, e10, XOp.kind, reduceCtorEq, V.bool, V.i64, aUn, aBox, aLoad, aArrAddr, aFold, aEqV, chkAdd, effAdd, AOp.kind, chkAll, chkSee, zP.down, zQ.down, zR.down, simprocAttr]
          refine ⟨_, _, _, rfl, hE, hmo, h3, kk2.any.trans k3, ?_, ?_, ?_, ?_⟩
          all_goals (simp -implicitDefEqProofs (disch := first | exact nbf rfl | exact nbt rfl | (simp only [ne_eq, reduceCtorEq, not_false_eq_true]; done) | omega | (simp -implicitDefEqProofs only [zN.down] <;> omega) | fail) only [e0, e2', e4', e10, XOp.kind, reduceCtorEq, V.bool, V.i64, aUn, aBox, aLoad, aArrAddr, aFold, aEqV, chkAdd, effAdd, AOp.kind, chkAll, chkSee, zP.down, zQ.down, zR.down, simprocAttr]; done)
        | false =>
          have hmay : M.may f ⟨3, [], 0⟩ = 4 := by
            unfold DM.may
            rw [hsn, hth]
            simp
          rw [change_e hp hf32 (by rw [hmay]; decide), hmay] at hE
          dsimp only at hE
          rw [if_neg (show ¬ ((4 : Int) ≠ 0 ∧ (4 : Int) ≠ 4) by decide)] at hE
          simp -implicitDefEqProofs (disch := first | exact nbf rfl | exact nbt rfl | (simp only [ne_eq, reduceCtorEq, not_false_eq_true]; done) | omega | (simp -implicitDefEqProofs only [zN.down] <;> omega) | fail) only [e0, e10, hth, XOp.kind, reduceCtorEq, V.bool, V.i64, aUn, aBox, aLoad, aArrAddr, aFold, aEqV, chkAdd, effAdd, AOp.kind, chkAll, chkSee, zP.down, zQ.down, zR.down, simprocAttr]
          refine ⟨_, _, M, rfl, hE, hm.more (by omega), hs2, kk2.any, ?_, ?_, ?_, ?_⟩
          all_goals (simp -implicitDefEqProofs (disch := first | exact nbf rfl | exact nbt rfl | (simp only [ne_eq, reduceCtorEq, not_false_eq_true]; done) | omega | (simp -implicitDefEqProofs only [zN.down] <;> omega) | fail) only [e0, e2', e4', e10, XOp.kind, reduceCtorEq, V.bool, V.i64, aUn, aBox, aLoad, aArrAddr, aFold, aEqV, chkAdd, effAdd, AOp.kind, chkAll, chkSee, zP.down, zQ.down, zR.down, simprocAttr]; done)
      · rintro _ ⟨ρ, σ3, M1, rfl, hE, hm1, h3, kk3, e0, e2', e4', e10⟩
        simp -implicitDefEqProofs (disch := first | exact nbf rfl | exact nbt rfl | (simp only [ne_eq, reduceCtorEq, not_false_eq_true]; done) | omega | (simp -implicitDefEqProofs only [zN.down] <;> omega) | fail) only [e0, e2', e4', e10, XOp.kind, reduceCtorEq, V.bool, V.i64, aUn, aBox, aLoad, aArrAddr, aFold, aEqV, chkAdd, effAdd, AOp.kind, chkAll, chkSee, zP.down, zQ.down, zR.down, simprocAttr]
        repeat (first | refine w_fin ?_ | refine w_seq ?_ | refine w_block ?_ | refine w_reg ?_ | refine w_op ?_ | refine w_dop ?_)
        refine (hfl σ3 i t x (by omega) (by omega) (by omega)).mono ?_
        rintro ⟨_, σ4⟩ ⟨rfl, k4⟩
        dsimp only at k4
        have h4 := h3.kept k4 (fun h => h)
        have hsl : ((sfile i t x).length : Int) ≤ 9223372036854775807 := by rw [sfile_len]; omega
        have f3 := hch σ4 M1 (f : Int) ⟨1, sfile i t x, 0⟩ h4 (B + 1) hm1 (by omega) hsl
        unfold chc at f3
        have hm2 := hm1.change (f := (f : Int)) (c := ⟨1, sfile i t x, 0⟩) (.inl rfl)
        generalize sfile i t x = P at *
        simp -implicitDefEqProofs (disch := first | exact nbf rfl | exact nbt rfl | (simp only [ne_eq, reduceCtorEq, not_false_eq_true]; done) | omega | (simp -implicitDefEqProofs only [zN.down] <;> omega) | fail) only [e0, e10, XOp.kind, reduceCtorEq, V.bool, V.i64, aUn, aBox, aLoad, aArrAddr, aFold, aEqV, chkAdd, effAdd, AOp.kind, chkAll, chkSee, zP.down, zQ.down, zR.down, simprocAttr]
        repeat (first | refine w_fin ?_ | refine w_seq ?_ | refine w_block ?_ | refine w_reg ?_ | refine w_op ?_ | refine w_dop ?_)
        refine f3.mono ?_
        rintro ⟨_, σ5⟩ ⟨rfl, h5, k5⟩
        dsimp only at h5 k5
        have kk5 : Kept (· = d) σ σ5 := (kk3.trans k4.any).trans k5
        generalize M1.change (f : Int) ⟨1, P, 0⟩ = q at *
        by_cases c5 : q.2 = 0
        · have d5 : (q.2 != 0) = false := by simp [c5]
          rw [if_neg (by simp [c5])] at hE
          rw [hE]
          simp -implicitDefEqProofs (disch := first | exact nbf rfl | exact nbt rfl | (simp only [ne_eq, reduceCtorEq, not_false_eq_true]; done) | omega | (simp -implicitDefEqProofs only [zN.down] <;> omega) | fail) only [e0, e10, d5, XOp.kind, reduceCtorEq, V.bool, V.i64, aUn, aBox, aLoad, aArrAddr, aFold, aEqV, chkAdd, effAdd, AOp.kind, chkAll, chkSee, zP.down, zQ.down, zR.down, simprocAttr]
          repeat (first | refine w_fin ?_ | refine w_seq ?_ | refine w_block ?_ | refine w_reg ?_ | refine w_op ?_ | refine w_dop ?_)
          refine (hsy σ5 q.1 (f : Int) h5 _ hm2 (by omega)).mono ?_
          rintro ⟨_, σ6⟩ ⟨rfl, h6, k6⟩
          simp -implicitDefEqProofs (disch := first | exact nbf rfl | exact nbt rfl | (simp only [ne_eq, reduceCtorEq, not_false_eq_true]; done) | omega | (simp -implicitDefEqProofs only [zN.down] <;> omega) | fail) only [XOp.kind, reduceCtorEq, V.bool, V.i64, aUn, aBox, aLoad, aArrAddr, aFold, aEqV, chkAdd, effAdd, AOp.kind, chkAll, chkSee, zP.down, zQ.down, zR.down, simprocAttr]
          exact ⟨h6, kk5.trans k6⟩
        · have d5 : (q.2 != 0) = true := by simp [c5]
          rw [if_pos c5] at hE
          rw [hE]
          simp -implicitDefEqProofs (disch := first | exact nbf rfl | exact nbt rfl | (simp only [ne_eq, reduceCtorEq, not_false_eq_true]; done) | omega | (simp -implicitDefEqProofs only [zN.down] <;> omega) | fail) only [d5, XOp.kind, reduceCtorEq, V.bool, V.i64, aUn, aBox, aLoad, aArrAddr, aFold, aEqV, chkAdd, effAdd, AOp.kind, chkAll, chkSee, zP.down, zQ.down, zR.down, simprocAttr]
          exact ⟨h5, kk5⟩
end Go.Proofs.Ytjcobnjnjliehaa.sn
namespace Go.Proofs.Ytjcobnjnjliehaa.sn
open Go.Ab fr dk
set_option maxRecDepth 100000
set_option maxHeartbeats 8000000
set_option linter.unusedSimpArgs false
set_option linter.unusedVariables false

/-- A call of a script. -/
structure Stp where
  k : Int
  n : Int
  i : Int
  t : Int
  s : List UInt8
  kv : V
  ks : List Int
def stc (p : Stp) : List V := [.sc (.int .i64 p.k), .sc (.int .i64 p.n), .sc (.int .i64 p.i), .sc (.int .i64 p.t), .str p.s, p.kv]
structure Stp.Ok (p : Stp) : Prop where
  kv : RV 1 p.kv (p.ks.map kc)
  kl : p.ks.length * 8 ≤ 140737488351232
  k : -9223372036854775808 ≤ p.k ∧ p.k ≤ 9223372036854775807
  n : -9223372036854775808 ≤ p.n ∧ p.n ≤ 9223372036854775807
  i : -9223372036854775808 ≤ p.i ∧ p.i ≤ 9223372036854775807
  t : -9223372036854775808 ≤ p.t ∧ p.t ≤ 9223372036854775807
structure Scr (x : V) (l : List Stp) : Prop where
  rv : RV 6 x (l.map stc)
  ok : ∀ p ∈ l, p.Ok
  len : l.length ≤ 9223372036854775807
abbrev stT : Ty := .agg [.int .i64, .int .i64, .agg [.int .i64, .int .i64], .str, .sl (.int .i64)]
theorem scr_of {x : V} (h : ArgA (.sl stT) x) : ∃ l, Scr x l := by
  obtain ⟨es, h1, h2, h3, h4⟩ := rv_slA h
  have : ∃ l : List Stp, es = l.map stc ∧ ∀ p ∈ l, p.Ok := by
    clear h h1 h3 h4
    induction es with
    | nil => exact ⟨[], rfl, by simp⟩
    | cons e es ih =>
      obtain ⟨l, rfl, h6⟩ := ih fun a ha => h2 a (List.mem_cons_of_mem _ ha)
      have h := h2 e List.mem_cons_self
      simp only [Arg, ArgL] at h
      obtain ⟨a1, b1, rfl, ⟨n1, rfl, w1⟩, ⟨a2, b2, rfl, ⟨n2, rfl, w2⟩, ⟨a3, b3, rfl, ⟨a7, b7, rfl, ⟨n3, rfl, w3⟩, ⟨a8, b8, rfl, ⟨n5, rfl, w5⟩, rfl⟩⟩, ⟨a4, b4, rfl, ⟨n4, rfl, w4⟩, ⟨a5, b5, rfl, hs, rfl⟩⟩⟩⟩⟩ := h
      have h5 : ∃ v, a5 = [v] ∧ Arg (.sl (.int .i64)) [v] := by
        rcases hs with rfl | ⟨a, rfl⟩ | ⟨es, q1, rfl, q2⟩
        · exact ⟨_, rfl, by simp [Arg]⟩
        · exact ⟨_, rfl, by simp [Arg]⟩
        · exact ⟨_, rfl, by simp only [Arg]; exact .inr (.inr ⟨es, q1, rfl, q2⟩)⟩
      obtain ⟨v, rfl, hv⟩ := h5
      obtain ⟨es', q1, q2, _, q4⟩ := rv_sl hv
      obtain ⟨ks, rfl⟩ := ints_of q2
      have q5 : ks.length * 8 ≤ 140737488351232 := by simpa [Ty.low, IntKind.bits, reachBytes] using q4
      refine ⟨⟨n1, n2, n3, n5, n4, v, ks⟩ :: l, rfl, fun p hp => ?_⟩
      rcases List.mem_cons.1 hp with rfl | hp
      · exact ⟨q1, q5, wf64 w1, wf64 w2, wf64 w3, wf64 w5⟩
      · exact h6 p hp
  obtain ⟨l, rfl, h6⟩ := this
  refine ⟨l, h1, h6, by simpa [maxLen] using h3⟩

theorem Scr.at {x : V} {l : List Stp} (h : Scr x l) {i : Nat} (hi : i < l.length) : aSlAddr x (.sc (.int .i64 i)) = some (.elt (l.map stc).flatten (i * 6)) ∧ (i * 6 + 6 ≤ (l.map stc).flatten.length) = True ∧ ((l.map stc).flatten.drop (i * 6)).take 6 = stc l[i] := by
  have := h.rv.at (i := i) (by simpa using hi)
  simpa using this

theorem heavy_ok (k : Nat) (ys : YlF) (σ : St) (x : V) (l : List Stp) (h : Scr x l) (hk : 9223372036854775808 ≤ k) :
    W (callY Tab.tb (k + 1) ys 18 [x] σ) fun r => ∃ b, r.1 = .sc (.bool b) ∧ Kept noX σ r.2 ∧ (b = false → l.length ≤ 60 ∧ ∀ p ∈ l, p.s.length ≤ 262144) := by
  rw [s_call (af := Tab.b18) rfl (Nat.le_of_ble_eq_true rfl)]
  have hlen := h.rv.len
  rw [List.length_map] at hlen
  have hsize := h.rv.size
  have hl2 := h.len
  have mm : ∀ n : Nat, (if (524288 : Int) < (n : Int) then (524288 : Int) else (n : Int)) = ((min n 524288 : Nat) : Int) := fun n => by split <;> omega
  generalize callY Tab.tb k = cy
  simp -implicitDefEqProofs (disch := first | exact nbf rfl | exact nbt rfl | (simp only [ne_eq, reduceCtorEq, not_false_eq_true]; done) | omega | (simp -implicitDefEqProofs only [zN.down] <;> omega) | fail) only [Tab.b18, hlen, XOp.kind, reduceCtorEq, V.bool, V.i64, aUn, aBox, aLoad, aArrAddr, aFold, aEqV, chkAdd, effAdd, AOp.kind, chkAll, chkSee, zP.down, zQ.down, zR.down, simprocAttr]
  repeat (first | refine w_fin ?_ | refine w_seq ?_ | refine w_block ?_ | refine w_reg ?_ | refine w_op ?_ | refine w_dop ?_)
  refine W.mono (Q := fun r => (∃ (ρ : Env) (σ' : St), r = ((.ret : Ex), ρ, σ') ∧ ρ 2 = .sc (.bool true) ∧ Kept noX σ σ') ∨ (∃ (ρ : Env) (σ' : St), r = ((.exit 0 : Ex), ρ, σ') ∧ ρ 0 = x ∧ (∀ p ∈ l, p.s.length ≤ 262144) ∧ Kept noX σ σ')) ?_ ?_
  · refine w_loop (fun m ρ σ' => ∃ (i n : Nat), m = l.length - i ∧ i ≤ l.length ∧ n ≤ 262144 ∧ ρ 0 = x ∧ ρ 6 = x ∧ ρ 7 = .sc (.int .i64 l.length) ∧ ρ 3 = .sc (.int .i64 n) ∧ ρ 8 = .sc (.int .i64 i) ∧ (∀ p ∈ l.take i, p.s.length ≤ 262144) ∧ Kept noX σ σ') l.length (by omega) ?_ ?_
    · refine ⟨0, 0, rfl, Nat.zero_le _, by omega, ?_, ?_, ?_, ?_, ?_, by simp, Kept.refl _ _⟩
      all_goals first | rfl | (simp -implicitDefEqProofs (disch := first | exact nbf rfl | exact nbt rfl | (simp only [ne_eq, reduceCtorEq, not_false_eq_true]; done) | omega | (simp -implicitDefEqProofs only [zN.down] <;> omega) | fail) only [XOp.kind, reduceCtorEq, V.bool, V.i64, aUn, aBox, aLoad, aArrAddr, aFold, aEqV, chkAdd, effAdd, AOp.kind, chkAll, chkSee, zP.down, zQ.down, zR.down, simprocAttr]; done) | (simp -implicitDefEqProofs (disch := first | exact nbf rfl | exact nbt rfl | (simp only [ne_eq, reduceCtorEq, not_false_eq_true]; done) | omega | (simp -implicitDefEqProofs only [zN.down] <;> omega) | fail) only [XOp.kind, reduceCtorEq, V.bool, V.i64, aUn, aBox, aLoad, aArrAddr, aFold, aEqV, chkAdd, effAdd, AOp.kind, chkAll, chkSee, zP.down, zQ.down, zR.down, simprocAttr]; rfl)
    · rintro m ρ σ' ⟨i, n, hm, hi, hn, e0, e6, e7, e3, e8, hp, hkept⟩
      by_cases hl : i < l.length
      · have c1 : decide ((i : Int) < (l.length : Int)) = true := by simpa using hl
        obtain ⟨a1, a2, a3⟩ := h.at hl
        simp only [stc] at a3
        have hcell := (h.ok _ (List.getElem_mem hl)).kv.cell
        have w2 : IntKind.i64.wrap ((i : Int) + 1) = (i : Int) + 1 := wrap64 (by omega) (by omega)
        have w3 : IntKind.i64.wrap ((n : Int) + ((min l[i].s.length 524288 : Nat) : Int)) = ((n + min l[i].s.length 524288 : Nat) : Int) := by rw [wrap64 (by omega) (by omega)]; omega
        by_cases hg : n + min l[i].s.length 524288 > 262144
        · have c2 : decide (((n + min l[i].s.length 524288 : Nat) : Int) > 262144) = true := by simp only [decide_eq_true_eq]; omega
          simp -implicitDefEqProofs (disch := first | exact nbf rfl | exact nbt rfl | (simp only [ne_eq, reduceCtorEq, not_false_eq_true]; done) | omega | (simp -implicitDefEqProofs only [zN.down] <;> omega) | fail) only [c1, e0, e6, e7, e3, e8, a1, a2, a3, hsize, hcell.1, hcell.2, mm, w3, c2, XOp.kind, reduceCtorEq, V.bool, V.i64, aUn, aBox, aLoad, aArrAddr, aFold, aEqV, chkAdd, effAdd, AOp.kind, chkAll, chkSee, zP.down, zQ.down, zR.down, simprocAttr]
          left
          refine ⟨_, _, rfl, ?_, hkept.bump⟩
          simp -implicitDefEqProofs (disch := first | exact nbf rfl | exact nbt rfl | (simp only [ne_eq, reduceCtorEq, not_false_eq_true]; done) | omega | (simp -implicitDefEqProofs only [zN.down] <;> omega) | fail) only [XOp.kind, reduceCtorEq, V.bool, V.i64, aUn, aBox, aLoad, aArrAddr, aFold, aEqV, chkAdd, effAdd, AOp.kind, chkAll, chkSee, zP.down, zQ.down, zR.down, simprocAttr]
        · have c2 : decide (((n + min l[i].s.length 524288 : Nat) : Int) > 262144) = false := by simp only [decide_eq_false_iff_not]; omega
          simp -implicitDefEqProofs (disch := first | exact nbf rfl | exact nbt rfl | (simp only [ne_eq, reduceCtorEq, not_false_eq_true]; done) | omega | (simp -implicitDefEqProofs only [zN.down] <;> omega) | fail) only [c1, e0, e6, e7, e3, e8, a1, a2, a3, hsize, hcell.1, hcell.2, mm, w2, w3, c2, XOp.kind, reduceCtorEq, V.bool, V.i64, aUn, aBox, aLoad, aArrAddr, aFold, aEqV, chkAdd, effAdd, AOp.kind, chkAll, chkSee, zP.down, zQ.down, zR.down, simprocAttr]
          refine ⟨l.length - (i + 1), by omega, i + 1, n + min l[i].s.length 524288, rfl, hl, by omega, by simp, by simp, fun p hp' => ?_, hkept.bump⟩
          rw [List.take_add_one, List.getElem?_eq_getElem hl] at hp'
          rcases List.mem_append.1 hp' with h1 | h1
          · exact hp p h1
          · simp at h1; subst h1; omega
      · have c1 : decide ((i : Int) < (l.length : Int)) = false := by simpa using hl
        have : i = l.length := by omega
        subst this
        rw [List.take_length] at hp
        simp -implicitDefEqProofs (disch := first | exact nbf rfl | exact nbt rfl | (simp only [ne_eq, reduceCtorEq, not_false_eq_true]; done) | omega | (simp -implicitDefEqProofs only [zN.down] <;> omega) | fail) only [c1, e0, e6, e7, e8, XOp.kind, reduceCtorEq, V.bool, V.i64, aUn, aBox, aLoad, aArrAddr, aFold, aEqV, chkAdd, effAdd, AOp.kind, chkAll, chkSee, zP.down, zQ.down, zR.down, simprocAttr]
        right
        refine ⟨_, _, rfl, ?_, hp, hkept⟩
        simp -implicitDefEqProofs (disch := first | exact nbf rfl | exact nbt rfl | (simp only [ne_eq, reduceCtorEq, not_false_eq_true]; done) | omega | (simp -implicitDefEqProofs only [zN.down] <;> omega) | fail) only [e0, XOp.kind, reduceCtorEq, V.bool, V.i64, aUn, aBox, aLoad, aArrAddr, aFold, aEqV, chkAdd, effAdd, AOp.kind, chkAll, chkSee, zP.down, zQ.down, zR.down, simprocAttr]
  · rintro _ (⟨ρ, σ', rfl, e2, hkept⟩ | ⟨ρ, σ', rfl, e0, hp, hkept⟩)
    · simp -implicitDefEqProofs (disch := first | exact nbf rfl | exact nbt rfl | (simp only [ne_eq, reduceCtorEq, not_false_eq_true]; done) | omega | (simp -implicitDefEqProofs only [zN.down] <;> omega) | fail) only [e2, XOp.kind, reduceCtorEq, V.bool, V.i64, aUn, aBox, aLoad, aArrAddr, aFold, aEqV, chkAdd, effAdd, AOp.kind, chkAll, chkSee, zP.down, zQ.down, zR.down, simprocAttr]
      exact ⟨true, rfl, hkept, fun h => by cases h⟩
    · simp -implicitDefEqProofs (disch := first | exact nbf rfl | exact nbt rfl | (simp only [ne_eq, reduceCtorEq, not_false_eq_true]; done) | omega | (simp -implicitDefEqProofs only [zN.down] <;> omega) | fail) only [e0, hlen, XOp.kind, reduceCtorEq, V.bool, V.i64, aUn, aBox, aLoad, aArrAddr, aFold, aEqV, chkAdd, effAdd, AOp.kind, chkAll, chkSee, zP.down, zQ.down, zR.down, simprocAttr]
      refine ⟨_, rfl, hkept, fun hb => ⟨?_, hp⟩⟩
      simp only [decide_eq_false_iff_not] at hb
      omega
end Go.Proofs.Ytjcobnjnjliehaa.sn
namespace Go.Proofs.Ytjcobnjnjliehaa.sn
open Go.Ab fr dk
set_option maxRecDepth 100000
set_option maxHeartbeats 8000000
set_option linter.unusedSimpArgs false
set_option linter.unusedVariables false

theorem i_and1 (n : Int) : IntKind.i64.wrap ((BitVec.ofInt IntKind.i64.bits n &&& BitVec.ofInt IntKind.i64.bits 1).toNat : Int) = (((n % 2).toNat : Nat) : Int) := by
  have h1 : (BitVec.ofInt IntKind.i64.bits n &&& BitVec.ofInt IntKind.i64.bits 1).toNat = (n % 2).toNat := by
    rw [BitVec.toNat_and]
    have e1 : (BitVec.ofInt IntKind.i64.bits 1).toNat = 1 := by decide
    rw [e1, Nat.and_one_is_mod]
    have e2 : (BitVec.ofInt IntKind.i64.bits n).toNat = (n % 18446744073709551616).toNat := by
      rw [BitVec.toNat_ofInt]; rfl
    rw [e2]
    omega
  rw [h1]
  exact wrap64 (by omega) (by omega)
theorem eqb (σ : St) (a b : Bool) : aEqV σ .bool (.sc (.bool a)) (.sc (.bool b)) = some (a == b) := by simp [aEqV, aEqBool]
theorem plays_run (k : Nat) (σ0 : St) (x : V) (l : List Stp) (h : Scr x l) (hk : 9223372036854775808 ≤ k) (σ1 : St) (hw : callY Tab.tb (k + 9) noYl 8 [] σ0 = some (.sc (.bool true), σ1)) :
    W (callY Tab.tb (k + 10) noYl 6 [x] σ0) fun r => r.1 = .sc (.bool true) := by
  rw [s_call (af := Tab.b6) rfl (Nat.le_of_ble_eq_true rfl)]
  have hnew := fun σ => dk.new_ok (k + 8) noYl σ
  have hrnew := fun σ => dk.rnew_ok (k + 8) noYl σ
  have hheavy := fun σ => heavy_ok (k + 8) noYl σ x l h (by omega)
  have hpow := fun σ d M n h => power_ok (k + 8) noYl σ d M n h
  have hsave := fun σ d M i t x h B hm hB => save_ok (B := B) k noYl σ d M i t x h hm hB (by omega)
  have hrsave := fun σ d M i t x h B hm hB => rsave_ok (B := B) k noYl σ d M i t x h hm hB (by omega)
  have hload := fun σ d M h B hm => load_ok (B := B) (k + 1) noYl σ d M h hm (by omega)
  have hrload := fun σ d M h B hm hB => rload_ok (B := B) (k + 1) noYl σ d M h hm hB (by omega)
  have hcra := fun σ d M kv ks torn h hkv B hm hB => crash_ok (B := B) (k + 6) noYl σ d M kv ks torn h hkv hm hB (by omega)
  have hrcra := fun σ d M kv ks torn h hkv B hm hB => rcrash_ok (B := B) (k + 7) noYl σ d M kv ks torn h hkv hm hB (by omega)
  have happ := fun σ d M f s h B hm hB => append_ok (B := B) (k + 6) noYl σ d M f s h hm hB
  have hrch := fun σ d M f c h B hm hB hs => rchange_ok (B := B) (k + 5) noYl σ d M f c h hm hB (by omega) hs
  have hops := fun σ d M h => ops_ok (k + 8) noYl σ d M h
  have hsure := fun σ d M f h => dk.sure_ok (k + 7) noYl σ d M f h
  have hloose := fun σ d M f h => loose_ok (k + 7) noYl σ d M f h
  generalize callY Tab.tb (k + 9) = cy at hw hnew hrnew hheavy hpow hsave hrsave hload hrload hcra hrcra happ hrch hops hsure hloose ⊢
  have hlen := h.rv.len
  rw [List.length_map] at hlen
  have hsize := h.rv.size
  simp -implicitDefEqProofs (disch := first | exact nbf rfl | exact nbt rfl | (simp only [ne_eq, reduceCtorEq, not_false_eq_true]; done) | omega | (simp -implicitDefEqProofs only [zN.down] <;> omega) | fail) only [Tab.b6, hw, XOp.kind, reduceCtorEq, V.bool, V.i64, aUn, aBox, aLoad, aArrAddr, aFold, aEqV, chkAdd, effAdd, AOp.kind, chkAll, chkSee, zP.down, zQ.down, zR.down, simprocAttr]
  repeat (first | refine w_fin ?_ | refine w_seq ?_ | refine w_block ?_ | refine w_reg ?_ | refine w_op ?_ | refine w_dop ?_)
  refine (hheavy σ1).mono ?_
  rintro ⟨_, σ2⟩ ⟨hb, rfl, _, hh⟩
  cases hb with
  | true => simp -implicitDefEqProofs (disch := first | exact nbf rfl | exact nbt rfl | (simp only [ne_eq, reduceCtorEq, not_false_eq_true]; done) | omega | (simp -implicitDefEqProofs only [zN.down] <;> omega) | fail) only [XOp.kind, reduceCtorEq, V.bool, V.i64, aUn, aBox, aLoad, aArrAddr, aFold, aEqV, chkAdd, effAdd, AOp.kind, chkAll, chkSee, zP.down, zQ.down, zR.down, simprocAttr]
  | false =>
  obtain ⟨hl60, hs⟩ := hh rfl
  simp -implicitDefEqProofs (disch := first | exact nbf rfl | exact nbt rfl | (simp only [ne_eq, reduceCtorEq, not_false_eq_true]; done) | omega | (simp -implicitDefEqProofs only [zN.down] <;> omega) | fail) only [XOp.kind, reduceCtorEq, V.bool, V.i64, aUn, aBox, aLoad, aArrAddr, aFold, aEqV, chkAdd, effAdd, AOp.kind, chkAll, chkSee, zP.down, zQ.down, zR.down, simprocAttr]
  repeat (first | refine w_fin ?_ | refine w_seq ?_ | refine w_block ?_ | refine w_reg ?_ | refine w_op ?_ | refine w_dop ?_)
  refine (hnew σ2).mono ?_
  rintro ⟨_, σ3⟩ ⟨rfl, hd3, _, hn3⟩
  dsimp only at hd3 hn3
  simp -implicitDefEqProofs (disch := first | exact nbf rfl | exact nbt rfl | (simp only [ne_eq, reduceCtorEq, not_false_eq_true]; done) | omega | (simp -implicitDefEqProofs only [zN.down] <;> omega) | fail) only [XOp.kind, reduceCtorEq, V.bool, V.i64, aUn, aBox, aLoad, aArrAddr, aFold, aEqV, chkAdd, effAdd, AOp.kind, chkAll, chkSee, zP.down, zQ.down, zR.down, simprocAttr]
  repeat (first | refine w_fin ?_ | refine w_seq ?_ | refine w_block ?_ | refine w_reg ?_ | refine w_op ?_ | refine w_dop ?_)
  refine (hrnew σ3).mono ?_
  rintro ⟨_, σ4⟩ ⟨rfl, hr4, k4, hn4⟩
  dsimp only at hr4 k4 hn4
  have hd4 := hd3.kept k4 (fun h => h)
  have hdw : σ2.n ≠ σ3.n := by omega
  generalize σ2.n = d at *
  generalize σ3.n = w at *
  simp -implicitDefEqProofs (disch := first | exact nbf rfl | exact nbt rfl | (simp only [ne_eq, reduceCtorEq, not_false_eq_true]; done) | omega | (simp -implicitDefEqProofs only [zN.down] <;> omega) | fail) only [hlen, XOp.kind, reduceCtorEq, V.bool, V.i64, aUn, aBox, aLoad, aArrAddr, aFold, aEqV, chkAdd, effAdd, AOp.kind, chkAll, chkSee, zP.down, zQ.down, zR.down, simprocAttr]
  repeat (first | refine w_fin ?_ | refine w_seq ?_ | refine w_block ?_ | refine w_reg ?_ | refine w_op ?_ | refine w_dop ?_)
  refine W.mono (Q := fun r => ∃ (ρ : Env) (σ : St), r = ((.exit 0 : Ex), ρ, σ)) ?_ ?_
  · refine w_loop (fun m ρ σ => ∃ (i : Nat) (M : DM), m = l.length - i ∧ i ≤ l.length ∧ DR σ d M ∧ dk.RR σ w M ∧ M.Ok (5 * i) ∧ ρ 3 = .ptr d 0 ∧ ρ 4 = .ptr w 0 ∧ ρ 23 = x ∧ ρ 24 = .sc (.int .i64 l.length) ∧ ρ 25 = .sc (.int .i64 i)) l.length (by omega) ?_ ?_
    · refine ⟨0, D0, rfl, Nat.zero_le _, hd4, hr4, DM.Ok.zero 0, ?_, ?_, ?_, ?_, ?_⟩
      all_goals first | rfl | (simp -implicitDefEqProofs (disch := first | exact nbf rfl | exact nbt rfl | (simp only [ne_eq, reduceCtorEq, not_false_eq_true]; done) | omega | (simp -implicitDefEqProofs only [zN.down] <;> omega) | fail) only [XOp.kind, reduceCtorEq, V.bool, V.i64, aUn, aBox, aLoad, aArrAddr, aFold, aEqV, chkAdd, effAdd, AOp.kind, chkAll, chkSee, zP.down, zQ.down, zR.down, simprocAttr]; done) | (simp -implicitDefEqProofs (disch := first | exact nbf rfl | exact nbt rfl | (simp only [ne_eq, reduceCtorEq, not_false_eq_true]; done) | omega | (simp -implicitDefEqProofs only [zN.down] <;> omega) | fail) only [XOp.kind, reduceCtorEq, V.bool, V.i64, aUn, aBox, aLoad, aArrAddr, aFold, aEqV, chkAdd, effAdd, AOp.kind, chkAll, chkSee, zP.down, zQ.down, zR.down, simprocAttr]; rfl)
    · clear hd4 hr4 hd3 k4
      rintro m ρ σ ⟨i, M, hm, hi, hd, hr, hM, e3, e4, e23, e24, e25⟩
      by_cases hl : i < l.length
      · have d1 : decide ((i : Int) < (l.length : Int)) = true := by simpa using hl
        obtain ⟨a1, a2, a3⟩ := h.at hl
        simp only [stc] at a3
        have hpo := h.ok _ (List.getElem_mem hl)
        have hsl := hs _ (List.getElem_mem hl)
        have hcell := hpo.kv.cell
        have w3 : IntKind.i64.wrap ((i : Int) + 1) = ((i + 1 : Nat) : Int) := wrap64 (by omega) (by omega)
        generalize l[i] = p at *
        have hdb : DR σ.bump d M := hd.kept (Kept.refl noX σ).bump (fun h => h)
        have hrb : dk.RR σ.bump w M := hr.kept (Kept.refl noX σ).bump (fun h => h)
        have hne2 : ∀ a : Int, (a != a) = false := fun a => by simp
        have bne : ∀ s : List UInt8, aBin .neq (.str s) (.str s) = some (.sc (.bool false)) := fun s => by simp [aBin, aStr]
        simp -implicitDefEqProofs (disch := first | exact nbf rfl | exact nbt rfl | (simp only [ne_eq, reduceCtorEq, not_false_eq_true]; done) | omega | (simp -implicitDefEqProofs only [zN.down] <;> omega) | fail) only [d1, e3, e4, e23, e24, e25, a1, a2, a3, hsize, hcell.1, hcell.2, w3, XOp.kind, reduceCtorEq, V.bool, V.i64, aUn, aBox, aLoad, aArrAddr, aFold, aEqV, chkAdd, effAdd, AOp.kind, chkAll, chkSee, zP.down, zQ.down, zR.down, simprocAttr]
        refine w_seq (w_block (w_seq ?_))
        refine W.mono (Q := fun r => ∃ (ρ' : Env) (σ' : St) (M' : DM), r = ((.normal : Ex), ρ', σ') ∧ DR σ' d M' ∧ dk.RR σ' w M' ∧ M'.Ok (5 + 5 * i) ∧ ρ' 3 = .ptr d 0 ∧ ρ' 4 = .ptr w 0 ∧ ρ' 23 = x ∧ ρ' 24 = .sc (.int .i64 l.length) ∧ ρ' 25 = .sc (.int .i64 i)) ?_ ?_
        · by_cases q0 : p.k = 0
          · have c0 := beq_iff_eq.2 q0
            have f1 := hsave σ.bump d M p.i p.t p.s hdb _ hM (by omega)
            have f2 := fun σ h => hrsave σ w M p.i p.t p.s h _ hM (by omega)
            have hmo := msave_ok hM p.i p.t p.s
            generalize msave M p.i p.t p.s = q at *
            simp -implicitDefEqProofs (disch := first | exact nbf rfl | exact nbt rfl | (simp only [ne_eq, reduceCtorEq, not_false_eq_true]; done) | omega | (simp -implicitDefEqProofs only [zN.down] <;> omega) | fail) only [c0, e3, e4, e23, e24, e25, XOp.kind, reduceCtorEq, V.bool, V.i64, aUn, aBox, aLoad, aArrAddr, aFold, aEqV, chkAdd, effAdd, AOp.kind, chkAll, chkSee, zP.down, zQ.down, zR.down, simprocAttr]
            repeat (first | refine w_fin ?_ | refine w_seq ?_ | refine w_block ?_ | refine w_reg ?_ | refine w_op ?_ | refine w_dop ?_)
            refine f1.mono ?_
            rintro ⟨_, σ5⟩ ⟨rfl, hd5, k5⟩
            dsimp only at hd5 k5
            have hr5 := hrb.kept k5 (fun h => hdw h.symm)
            simp -implicitDefEqProofs (disch := first | exact nbf rfl | exact nbt rfl | (simp only [ne_eq, reduceCtorEq, not_false_eq_true]; done) | omega | (simp -implicitDefEqProofs only [zN.down] <;> omega) | fail) only [e3, e4, e23, e24, e25, XOp.kind, reduceCtorEq, V.bool, V.i64, aUn, aBox, aLoad, aArrAddr, aFold, aEqV, chkAdd, effAdd, AOp.kind, chkAll, chkSee, zP.down, zQ.down, zR.down, simprocAttr]
            repeat (first | refine w_fin ?_ | refine w_seq ?_ | refine w_block ?_ | refine w_reg ?_ | refine w_op ?_ | refine w_dop ?_)
            refine (f2 σ5 hr5).mono ?_
            rintro ⟨_, σ6⟩ ⟨rfl, hr6, k6⟩
            dsimp only at hr6 k6
            have hd6 := hd5.kept k6 hdw
            simp -implicitDefEqProofs (disch := first | exact nbf rfl | exact nbt rfl | (simp only [ne_eq, reduceCtorEq, not_false_eq_true]; done) | omega | (simp -implicitDefEqProofs only [zN.down] <;> omega) | fail) only [hne2, e3, e4, e23, e24, e25, XOp.kind, reduceCtorEq, V.bool, V.i64, aUn, aBox, aLoad, aArrAddr, aFold, aEqV, chkAdd, effAdd, AOp.kind, chkAll, chkSee, zP.down, zQ.down, zR.down, simprocAttr]

            refine ⟨_, _, q.1, rfl, hd6, hr6, hmo.more (by omega), ?_, ?_, ?_, ?_, ?_⟩
            all_goals (simp -implicitDefEqProofs (disch := first | exact nbf rfl | exact nbt rfl | (simp only [ne_eq, reduceCtorEq, not_false_eq_true]; done) | omega | (simp -implicitDefEqProofs only [zN.down] <;> omega) | fail) only [e3, e4, e23, e24, e25, XOp.kind, reduceCtorEq, V.bool, V.i64, aUn, aBox, aLoad, aArrAddr, aFold, aEqV, chkAdd, effAdd, AOp.kind, chkAll, chkSee, zP.down, zQ.down, zR.down, simprocAttr]; done)
          have c0 := beq_eq_false_iff_ne.2 q0
          by_cases q1 : p.k = 1
          · have c1 := beq_iff_eq.2 q1
            simp -implicitDefEqProofs (disch := first | exact nbf rfl | exact nbt rfl | (simp only [ne_eq, reduceCtorEq, not_false_eq_true]; done) | omega | (simp -implicitDefEqProofs only [zN.down] <;> omega) | fail) only [c0, c1, e3, e4, e23, e24, e25, XOp.kind, reduceCtorEq, V.bool, V.i64, aUn, aBox, aLoad, aArrAddr, aFold, aEqV, chkAdd, effAdd, AOp.kind, chkAll, chkSee, zP.down, zQ.down, zR.down, simprocAttr]
            repeat (first | refine w_fin ?_ | refine w_seq ?_ | refine w_block ?_ | refine w_reg ?_ | refine w_op ?_ | refine w_dop ?_)
            refine (hload σ.bump d M hdb _ hM).mono ?_
            rintro ⟨_, σ5⟩ ⟨rfl, k5⟩
            dsimp only at k5
            have hr5 := hrb.kept k5 (fun h => h)
            have hd5 := hdb.kept k5 (fun h => h)
            simp -implicitDefEqProofs (disch := first | exact nbf rfl | exact nbt rfl | (simp only [ne_eq, reduceCtorEq, not_false_eq_true]; done) | omega | (simp -implicitDefEqProofs only [zN.down] <;> omega) | fail) only [ldt, e3, e4, e23, e24, e25, XOp.kind, reduceCtorEq, V.bool, V.i64, aUn, aBox, aLoad, aArrAddr, aFold, aEqV, chkAdd, effAdd, AOp.kind, chkAll, chkSee, zP.down, zQ.down, zR.down, simprocAttr]
            repeat (first | refine w_fin ?_ | refine w_seq ?_ | refine w_block ?_ | refine w_reg ?_ | refine w_op ?_ | refine w_dop ?_)
            refine (hrload _ w M (hr5.kept (Kept.refl noX σ5).bump (fun h => h)) _ hM (by omega)).mono ?_
            rintro ⟨_, σ6⟩ ⟨rfl, k6⟩
            dsimp only at k6
            have k6 : Kept noX σ5 σ6 := (Kept.refl _ _).bump.trans k6
            have hd6 := (hd5.kept k6 (fun h => h)).kept (Kept.refl noX σ6).bump (fun h => h)
            have hr6 := (hr5.kept k6 (fun h => h)).kept (Kept.refl noX σ6).bump (fun h => h)
            obtain ⟨cs, g, hc⟩ := hr6
            have hcp := hc.p
            have g' : σ6.get w = some (.cells cs) := by have := g; rwa [St.get_bump] at this
            by_cases hp : M.power = 0
            · have d4 : (M.power == 0) = true := by simp [hp]
              have hml : mld M = (bad0, 40) := by unfold mld; rw [if_pos hp]
              rw [hml]
              simp -implicitDefEqProofs (disch := first | exact nbf rfl | exact nbt rfl | (simp only [ne_eq, reduceCtorEq, not_false_eq_true]; done) | omega | (simp -implicitDefEqProofs only [zN.down] <;> omega) | fail) only [g', hcp, d4, e3, e4, e23, e24, e25, eq2, bad0, bne, hne2, XOp.kind, reduceCtorEq, V.bool, V.i64, aUn, aBox, aLoad, aArrAddr, aFold, chkAdd, effAdd, AOp.kind, chkAll, chkSee, zP.down, zQ.down, zR.down, simprocAttr]
              have hr6 : dk.RR σ6.bump w M := ⟨cs, g, hc⟩
              refine ⟨_, _, M, rfl, hd6, hr6, hM.more (by omega), ?_, ?_, ?_, ?_, ?_⟩
              all_goals (simp -implicitDefEqProofs (disch := first | exact nbf rfl | exact nbt rfl | (simp only [ne_eq, reduceCtorEq, not_false_eq_true]; done) | omega | (simp -implicitDefEqProofs only [zN.down] <;> omega) | fail) only [e3, e4, e23, e24, e25, XOp.kind, reduceCtorEq, V.bool, V.i64, aUn, aBox, aLoad, aArrAddr, aFold, aEqV, chkAdd, effAdd, AOp.kind, chkAll, chkSee, zP.down, zQ.down, zR.down, simprocAttr]; done)
            have d4 : (M.power == 0) = false := by simp [hp]
            rw [mld_at hp]
            have hra := rac_2 M 2
            generalize rac M 2 = a at *
            have eqr : ∀ a : Int, (a == a) = true := fun a => by simp
            by_cases ha : a.2 < 0
            · have d5 : decide (a.2 < 0) = true := by simpa using ha
              obtain ⟨h1, h2⟩ : a.2 = -1 ∧ a.1 = bad0 := by
                rcases hra with h | ⟨_, _, h, _⟩
                · exact h
                · omega
              rw [if_pos ha, h2]
              simp -implicitDefEqProofs (disch := first | exact nbf rfl | exact nbt rfl | (simp only [ne_eq, reduceCtorEq, not_false_eq_true]; done) | omega | (simp -implicitDefEqProofs only [zN.down] <;> omega) | fail) only [g', hcp, d4, d5, e3, e4, e23, e24, e25, eq2, bad0, bne, hne2, XOp.kind, reduceCtorEq, V.bool, V.i64, aUn, aBox, aLoad, aArrAddr, aFold, chkAdd, effAdd, AOp.kind, chkAll, chkSee, zP.down, zQ.down, zR.down, simprocAttr]
              have hr6 : dk.RR σ6.bump w M := ⟨cs, g, hc⟩
              refine ⟨_, _, M, rfl, hd6, hr6, hM.more (by omega), ?_, ?_, ?_, ?_, ?_⟩
              all_goals (simp -implicitDefEqProofs (disch := first | exact nbf rfl | exact nbt rfl | (simp only [ne_eq, reduceCtorEq, not_false_eq_true]; done) | omega | (simp -implicitDefEqProofs only [zN.down] <;> omega) | fail) only [e3, e4, e23, e24, e25, XOp.kind, reduceCtorEq, V.bool, V.i64, aUn, aBox, aLoad, aArrAddr, aFold, aEqV, chkAdd, effAdd, AOp.kind, chkAll, chkSee, zP.down, zQ.down, zR.down, simprocAttr]; done)
            have d5 : decide (a.2 < 0) = false := by simpa using ha
            rw [if_neg ha]
            simp -implicitDefEqProofs (disch := first | exact nbf rfl | exact nbt rfl | (simp only [ne_eq, reduceCtorEq, not_false_eq_true]; done) | omega | (simp -implicitDefEqProofs only [zN.down] <;> omega) | fail) only [g', hcp, d4, d5, e3, e4, e23, e24, e25, eq2, eqr, bne, hne2, XOp.kind, reduceCtorEq, V.bool, V.i64, aUn, aBox, aLoad, aArrAddr, aFold, chkAdd, effAdd, AOp.kind, chkAll, chkSee, zP.down, zQ.down, zR.down, simprocAttr]
            have hr6 : dk.RR σ6.bump w M := ⟨cs, g, hc⟩
            refine ⟨_, _, M, rfl, hd6, hr6, hM.more (by omega), ?_, ?_, ?_, ?_, ?_⟩
            all_goals (simp -implicitDefEqProofs (disch := first | exact nbf rfl | exact nbt rfl | (simp only [ne_eq, reduceCtorEq, not_false_eq_true]; done) | omega | (simp -implicitDefEqProofs only [zN.down] <;> omega) | fail) only [e3, e4, e23, e24, e25, XOp.kind, reduceCtorEq, V.bool, V.i64, aUn, aBox, aLoad, aArrAddr, aFold, aEqV, chkAdd, effAdd, AOp.kind, chkAll, chkSee, zP.down, zQ.down, zR.down, simprocAttr]; done)
          have c1 := beq_eq_false_iff_ne.2 q1
          by_cases q2 : p.k = 2
          · have c2 := beq_iff_eq.2 q2
            have m1 := max64 p.n (-1)
            have hnn := hpo.n
            obtain ⟨cs, g, hc⟩ := hrb
            have hcp := hc.power (max p.n (-1))
            have lw := St.get_lt g
            have llen := hc.len
            have g0 : σ.get w = some (.cells cs) := by have := g; rwa [St.get_bump] at this
            have l96 : (96 + 1 ≤ cs.length) = True := by simp only [eq_iff_iff, iff_true]; omega
            simp -implicitDefEqProofs (disch := first | exact nbf rfl | exact nbt rfl | (simp only [ne_eq, reduceCtorEq, not_false_eq_true]; done) | omega | (simp -implicitDefEqProofs only [zN.down] <;> omega) | fail) only [c0, c1, c2, e3, e4, e23, e24, e25, m1, g0, l96, XOp.kind, reduceCtorEq, V.bool, V.i64, aUn, aBox, aLoad, aArrAddr, aFold, aEqV, chkAdd, effAdd, AOp.kind, chkAll, chkSee, zP.down, zQ.down, zR.down, simprocAttr]
            repeat (first | refine w_fin ?_ | refine w_seq ?_ | refine w_block ?_ | refine w_reg ?_ | refine w_op ?_ | refine w_dop ?_)
            have kk : Kept (· = w) σ.bump (σ.bump.put w (some (.cells (cs.set 96 (.sc (.int .i64 (max p.n (-1)))))))) := Kept.put (X := (· = w)) (Kept.refl _ _) (.inl rfl) lw _
            have hr5 : dk.RR (σ.bump.put w (some (.cells (cs.set 96 (.sc (.int .i64 (max p.n (-1)))))))) w { M with power := max p.n (-1) } := ⟨_, get_put_self g, hcp⟩
            generalize σ.bump.put w (some (.cells (cs.set 96 (.sc (.int .i64 (max p.n (-1))))))) = σ5 at *
            have hd5 := hdb.kept kk hdw
            refine (hpow σ5 d M p.n hd5).mono ?_
            rintro ⟨_, σ6⟩ ⟨rfl, hd6, k6, _⟩
            dsimp only at hd6 k6
            have hr6 := hr5.kept k6 (fun h => hdw h.symm)
            simp -implicitDefEqProofs (disch := first | exact nbf rfl | exact nbt rfl | (simp only [ne_eq, reduceCtorEq, not_false_eq_true]; done) | omega | (simp -implicitDefEqProofs only [zN.down] <;> omega) | fail) only [e3, e4, e23, e24, e25, XOp.kind, reduceCtorEq, V.bool, V.i64, aUn, aBox, aLoad, aArrAddr, aFold, aEqV, chkAdd, effAdd, AOp.kind, chkAll, chkSee, zP.down, zQ.down, zR.down, simprocAttr]
            refine ⟨_, _, _, rfl, hd6, hr6, (hM.power (n := p.n) hnn.2).more (by omega), ?_, ?_, ?_, ?_, ?_⟩
            all_goals (simp -implicitDefEqProofs (disch := first | exact nbf rfl | exact nbt rfl | (simp only [ne_eq, reduceCtorEq, not_false_eq_true]; done) | omega | (simp -implicitDefEqProofs only [zN.down] <;> omega) | fail) only [e3, e4, e23, e24, e25, XOp.kind, reduceCtorEq, V.bool, V.i64, aUn, aBox, aLoad, aArrAddr, aFold, aEqV, chkAdd, effAdd, AOp.kind, chkAll, chkSee, zP.down, zQ.down, zR.down, simprocAttr]; done)
          have c2 := beq_eq_false_iff_ne.2 q2
          by_cases q3 : p.k = 3
          · have c3 := beq_iff_eq.2 q3
            simp -implicitDefEqProofs (disch := first | exact nbf rfl | exact nbt rfl | (simp only [ne_eq, reduceCtorEq, not_false_eq_true]; done) | omega | (simp -implicitDefEqProofs only [zN.down] <;> omega) | fail) only [c0, c1, c2, c3, e3, e4, e23, e24, e25, hcell.1, hcell.2, XOp.kind, reduceCtorEq, V.bool, V.i64, aUn, aBox, aLoad, aArrAddr, aFold, aEqV, chkAdd, effAdd, AOp.kind, chkAll, chkSee, zP.down, zQ.down, zR.down, simprocAttr]
            repeat (first | refine w_fin ?_ | refine w_seq ?_ | refine w_block ?_ | refine w_reg ?_ | refine w_op ?_ | refine w_dop ?_)
            refine (hrcra _ w M p.kv p.ks p.n hrb hpo.kv _ hM (by omega)).mono ?_
            rintro ⟨_, σ5⟩ ⟨rfl, hr5, k5⟩
            dsimp only at hr5 k5
            have hd5 := hdb.kept k5 hdw
            simp -implicitDefEqProofs (disch := first | exact nbf rfl | exact nbt rfl | (simp only [ne_eq, reduceCtorEq, not_false_eq_true]; done) | omega | (simp -implicitDefEqProofs only [zN.down] <;> omega) | fail) only [e3, e4, e23, e24, e25, hcell.1, hcell.2, XOp.kind, reduceCtorEq, V.bool, V.i64, aUn, aBox, aLoad, aArrAddr, aFold, aEqV, chkAdd, effAdd, AOp.kind, chkAll, chkSee, zP.down, zQ.down, zR.down, simprocAttr]
            repeat (first | refine w_fin ?_ | refine w_seq ?_ | refine w_block ?_ | refine w_reg ?_ | refine w_op ?_ | refine w_dop ?_)
            refine (hcra σ5 d M p.kv p.ks p.n hd5 hpo.kv _ hM (by omega)).mono ?_
            rintro ⟨_, σ6⟩ ⟨rfl, hd6, k6⟩
            dsimp only at hd6 k6
            have hr6 := hr5.kept k6 (fun h => hdw h.symm)
            have hMc := hM.crash p.ks p.n
            simp -implicitDefEqProofs (disch := first | exact nbf rfl | exact nbt rfl | (simp only [ne_eq, reduceCtorEq, not_false_eq_true]; done) | omega | (simp -implicitDefEqProofs only [zN.down] <;> omega) | fail) only [e3, e4, e23, e24, e25, XOp.kind, reduceCtorEq, V.bool, V.i64, aUn, aBox, aLoad, aArrAddr, aFold, aEqV, chkAdd, effAdd, AOp.kind, chkAll, chkSee, zP.down, zQ.down, zR.down, simprocAttr]
            refine ⟨_, _, _, rfl, hd6, hr6, hMc.more (by omega), ?_, ?_, ?_, ?_, ?_⟩
            all_goals (simp -implicitDefEqProofs (disch := first | exact nbf rfl | exact nbt rfl | (simp only [ne_eq, reduceCtorEq, not_false_eq_true]; done) | omega | (simp -implicitDefEqProofs only [zN.down] <;> omega) | fail) only [e3, e4, e23, e24, e25, XOp.kind, reduceCtorEq, V.bool, V.i64, aUn, aBox, aLoad, aArrAddr, aFold, aEqV, chkAdd, effAdd, AOp.kind, chkAll, chkSee, zP.down, zQ.down, zR.down, simprocAttr]; done)
          have c3 := beq_eq_false_iff_ne.2 q3
          have nd := i_and1 p.n
          obtain ⟨f0, hf⟩ : ∃ f : Nat, (p.n % 2).toNat = f := ⟨_, rfl⟩
          rw [hf] at nd
          have w2 : IntKind.i64.wrap (2 + (f0 : Int)) = ((2 + f0 : Nat) : Int) := by rw [wrap64 (by omega) (by omega)]; omega
          generalize 2 + f0 = f at w2
          have f2 := fun σ h => hrch σ w M f ⟨1, p.s, 0⟩ h _ hM (by omega) (by dsimp only; omega)
          unfold chc at f2
          have hmo := hM.change (f := (f : Int)) (c := ⟨1, p.s, 0⟩) (.inl rfl)
          have f1 := happ σ.bump d M f p.s hdb _ hM (by omega)
          simp -implicitDefEqProofs (disch := first | exact nbf rfl | exact nbt rfl | (simp only [ne_eq, reduceCtorEq, not_false_eq_true]; done) | omega | (simp -implicitDefEqProofs only [zN.down] <;> omega) | fail) only [c0, c1, c2, c3, nd, w2, e3, e4, e23, e24, e25, XOp.kind, reduceCtorEq, V.bool, V.i64, aUn, aBox, aLoad, aArrAddr, aFold, aEqV, chkAdd, effAdd, AOp.kind, chkAll, chkSee, zP.down, zQ.down, zR.down, simprocAttr]
          repeat (first | refine w_fin ?_ | refine w_seq ?_ | refine w_block ?_ | refine w_reg ?_ | refine w_op ?_ | refine w_dop ?_)
          refine f1.mono ?_
          rintro ⟨_, σ5⟩ ⟨rfl, hd5, k5⟩
          dsimp only at hd5 k5
          have hr5 := hrb.kept k5 (fun h => hdw h.symm)
          simp -implicitDefEqProofs (disch := first | exact nbf rfl | exact nbt rfl | (simp only [ne_eq, reduceCtorEq, not_false_eq_true]; done) | omega | (simp -implicitDefEqProofs only [zN.down] <;> omega) | fail) only [e3, e4, e23, e24, e25, XOp.kind, reduceCtorEq, V.bool, V.i64, aUn, aBox, aLoad, aArrAddr, aFold, aEqV, chkAdd, effAdd, AOp.kind, chkAll, chkSee, zP.down, zQ.down, zR.down, simprocAttr]
          repeat (first | refine w_fin ?_ | refine w_seq ?_ | refine w_block ?_ | refine w_reg ?_ | refine w_op ?_ | refine w_dop ?_)
          refine (f2 σ5 hr5).mono ?_
          rintro ⟨_, σ6⟩ ⟨rfl, hr6, k6⟩
          dsimp only at hr6 k6
          have hd6 := hd5.kept k6 hdw
          generalize M.change f ⟨1, p.s, 0⟩ = q at *
          simp -implicitDefEqProofs (disch := first | exact nbf rfl | exact nbt rfl | (simp only [ne_eq, reduceCtorEq, not_false_eq_true]; done) | omega | (simp -implicitDefEqProofs only [zN.down] <;> omega) | fail) only [hne2, e3, e4, e23, e24, e25, XOp.kind, reduceCtorEq, V.bool, V.i64, aUn, aBox, aLoad, aArrAddr, aFold, aEqV, chkAdd, effAdd, AOp.kind, chkAll, chkSee, zP.down, zQ.down, zR.down, simprocAttr]
          refine ⟨_, _, q.1, rfl, hd6, hr6, hmo.more (by omega), ?_, ?_, ?_, ?_, ?_⟩
          all_goals (simp -implicitDefEqProofs (disch := first | exact nbf rfl | exact nbt rfl | (simp only [ne_eq, reduceCtorEq, not_false_eq_true]; done) | omega | (simp -implicitDefEqProofs only [zN.down] <;> omega) | fail) only [e3, e4, e23, e24, e25, XOp.kind, reduceCtorEq, V.bool, V.i64, aUn, aBox, aLoad, aArrAddr, aFold, aEqV, chkAdd, effAdd, AOp.kind, chkAll, chkSee, zP.down, zQ.down, zR.down, simprocAttr]; done)
        clear hd hr hM hdb hrb e3 e4 e23 e24 e25
        rintro _ ⟨ρ, σ, M, rfl, hd, hr, hM, e3, e4, e23, e24, e25⟩
        obtain ⟨cs, g, hc⟩ := hr
        have ho := hc.o
        simp -implicitDefEqProofs (disch := first | exact nbf rfl | exact nbt rfl | (simp only [ne_eq, reduceCtorEq, not_false_eq_true]; done) | omega | (simp -implicitDefEqProofs only [zN.down] <;> omega) | fail) only [e3, e4, e23, e24, e25, XOp.kind, reduceCtorEq, V.bool, V.i64, aUn, aBox, aLoad, aArrAddr, aFold, aEqV, chkAdd, effAdd, AOp.kind, chkAll, chkSee, zP.down, zQ.down, zR.down, simprocAttr]
        repeat (first | refine w_fin ?_ | refine w_seq ?_ | refine w_block ?_ | refine w_reg ?_ | refine w_op ?_ | refine w_dop ?_)
        refine W.mono (Q := fun r => ∃ (ρ' : Env) (σ' : St), r = ((.exit 4 : Ex), ρ', σ') ∧ Kept noX σ σ' ∧ ρ' 3 = .ptr d 0 ∧ ρ' 4 = .ptr w 0 ∧ ρ' 23 = x ∧ ρ' 24 = .sc (.int .i64 l.length) ∧ ρ' 25 = .sc (.int .i64 i)) ?_ ?_
        · refine w_loop (fun m ρ' σ' => ∃ j : Nat, m = 2 - j ∧ j ≤ 2 ∧ Kept noX σ σ' ∧ ρ' 3 = .ptr d 0 ∧ ρ' 4 = .ptr w 0 ∧ ρ' 23 = x ∧ ρ' 24 = .sc (.int .i64 l.length) ∧ ρ' 25 = .sc (.int .i64 i) ∧ ρ' 14 = .sc (.int .i64 ((j + 2 : Nat) : Int))) 2 (by omega) ?_ ?_
          · refine ⟨0, rfl, by omega, by ((repeat (first | refine Kept.push ?_ _ | refine Kept.bump ?_ | refine Kept.put ?_ (.inr (by omega)) (by first | omega | (simp only [St.n_put, St.n_push]; omega)) _)); first | exact Kept.refl _ _ | assumption), ?_, ?_, ?_, ?_, ?_, ?_⟩
            all_goals first | (simp -implicitDefEqProofs (disch := first | exact nbf rfl | exact nbt rfl | (simp only [ne_eq, reduceCtorEq, not_false_eq_true]; done) | omega | (simp -implicitDefEqProofs only [zN.down] <;> omega) | fail) only [e3, e4, e23, e24, e25, XOp.kind, reduceCtorEq, V.bool, V.i64, aUn, aBox, aLoad, aArrAddr, aFold, aEqV, chkAdd, effAdd, AOp.kind, chkAll, chkSee, zP.down, zQ.down, zR.down, simprocAttr]; done) | (simp -implicitDefEqProofs (disch := first | exact nbf rfl | exact nbt rfl | (simp only [ne_eq, reduceCtorEq, not_false_eq_true]; done) | omega | (simp -implicitDefEqProofs only [zN.down] <;> omega) | fail) only [XOp.kind, reduceCtorEq, V.bool, V.i64, aUn, aBox, aLoad, aArrAddr, aFold, aEqV, chkAdd, effAdd, AOp.kind, chkAll, chkSee, zP.down, zQ.down, zR.down, simprocAttr]; rfl)
          · rintro m' ρ' σ' ⟨j, hm', hj, kp, f3, f4, f23, f24, f25, f14⟩
            by_cases hj2 : j < 2
            · have c9 : decide (((j + 2 : Nat) : Int) < 4) = true := by simp; omega
              have w9 : IntKind.i64.wrap (((j + 2 : Nat) : Int) + 1) = ((j + 1 + 2 : Nat) : Int) := by rw [wrap64 (by omega) (by omega)]; omega
              obtain ⟨u, hu⟩ := hc.f (j + 2) (by omega)
              have u0 := hu.c0
              have u1 := hu.c1
              have u2 := hu.c2
              have ulen := hu.rv.len
              rw [List.length_map] at ulen
              have g' := kp.get _ _ (fun h => h) g
              have hd' := hd.kept kp (fun h => h)
              have hdb := hd'.kept (Kept.refl noX σ').bump.bump (fun h => h)
              have s1 := hsure σ' d M ((j + 2 : Nat) : Int) hd'
              have o1 := hops σ'.bump.bump d M hdb
              have s2 := hloose σ'.bump.bump d M ((j + 2 : Nat) : Int) hdb
              rw [file_in M (by omega)] at s1 s2
              have ha := arr_ok (o := w) (off := 0) (len := 32) (sz := 3) (i := j + 2) (by omega)
              have bb : ∀ a : Bool, (a == a) = true := fun a => by simp
              simp -implicitDefEqProofs (disch := first | exact nbf rfl | exact nbt rfl | (simp only [ne_eq, reduceCtorEq, not_false_eq_true]; done) | omega | (simp -implicitDefEqProofs only [zN.down] <;> omega) | fail) only [c9, w9, f3, f4, f23, f24, f25, f14, s1, s2, o1, ho, g', ha, u0, u1, u2, ulen, hne2, eqb, bb, bne, XOp.kind, reduceCtorEq, V.bool, V.i64, aUn, aBox, aLoad, aFold, chkAdd, effAdd, AOp.kind, chkAll, chkSee, zP.down, zQ.down, zR.down, simprocAttr]
              exact ⟨2 - (j + 1), by omega, j + 1, rfl, by omega, by ((repeat (first | refine Kept.push ?_ _ | refine Kept.bump ?_ | refine Kept.put ?_ (.inr (by omega)) (by first | omega | (simp only [St.n_put, St.n_push]; omega)) _)); first | exact Kept.refl _ _ | assumption), rfl⟩
            · have c9 : decide (((j + 2 : Nat) : Int) < 4) = false := by simp; omega
              simp -implicitDefEqProofs (disch := first | exact nbf rfl | exact nbt rfl | (simp only [ne_eq, reduceCtorEq, not_false_eq_true]; done) | omega | (simp -implicitDefEqProofs only [zN.down] <;> omega) | fail) only [c9, f14, XOp.kind, reduceCtorEq, V.bool, V.i64, aUn, aBox, aLoad, aArrAddr, aFold, aEqV, chkAdd, effAdd, AOp.kind, chkAll, chkSee, zP.down, zQ.down, zR.down, simprocAttr]
              refine ⟨_, _, rfl, kp, ?_, ?_, ?_, ?_, ?_⟩
              all_goals (simp -implicitDefEqProofs (disch := first | exact nbf rfl | exact nbt rfl | (simp only [ne_eq, reduceCtorEq, not_false_eq_true]; done) | omega | (simp -implicitDefEqProofs only [zN.down] <;> omega) | fail) only [f3, f4, f23, f24, f25, XOp.kind, reduceCtorEq, V.bool, V.i64, aUn, aBox, aLoad, aArrAddr, aFold, aEqV, chkAdd, effAdd, AOp.kind, chkAll, chkSee, zP.down, zQ.down, zR.down, simprocAttr]; done)
        · rintro _ ⟨ρ', σ', rfl, kp, f3, f4, f23, f24, f25⟩
          have hr : dk.RR σ w M := ⟨cs, g, hc⟩
          simp -implicitDefEqProofs (disch := first | exact nbf rfl | exact nbt rfl | (simp only [ne_eq, reduceCtorEq, not_false_eq_true]; done) | omega | (simp -implicitDefEqProofs only [zN.down] <;> omega) | fail) only [f3, f4, f23, f24, f25, w3, XOp.kind, reduceCtorEq, V.bool, V.i64, aUn, aBox, aLoad, aArrAddr, aFold, aEqV, chkAdd, effAdd, AOp.kind, chkAll, chkSee, zP.down, zQ.down, zR.down, simprocAttr]
          exact ⟨l.length - (i + 1), by omega, i + 1, M, rfl, hl, hd.kept kp (fun h => h), hr.kept kp (fun h => h), hM.more (by omega), rfl⟩
      · have d1 : decide ((i : Int) < (l.length : Int)) = false := by simpa using hl
        simp -implicitDefEqProofs (disch := first | exact nbf rfl | exact nbt rfl | (simp only [ne_eq, reduceCtorEq, not_false_eq_true]; done) | omega | (simp -implicitDefEqProofs only [zN.down] <;> omega) | fail) only [d1, e24, e25, XOp.kind, reduceCtorEq, V.bool, V.i64, aUn, aBox, aLoad, aArrAddr, aFold, aEqV, chkAdd, effAdd, AOp.kind, chkAll, chkSee, zP.down, zQ.down, zR.down, simprocAttr]
        exact ⟨_, _, rfl⟩
  · rintro _ ⟨ρ, σ, rfl⟩
    simp -implicitDefEqProofs (disch := first | exact nbf rfl | exact nbt rfl | (simp only [ne_eq, reduceCtorEq, not_false_eq_true]; done) | omega | (simp -implicitDefEqProofs only [zN.down] <;> omega) | fail) only [XOp.kind, reduceCtorEq, V.bool, V.i64, aUn, aBox, aLoad, aArrAddr, aFold, aEqV, chkAdd, effAdd, AOp.kind, chkAll, chkSee, zP.down, zQ.down, zR.down, simprocAttr]
theorem plays_good (x : V) (w : ArgA (.sl stT) x) : good (callN Tab.tbl 9223372036854776000 6 [x] St.empty) = true := by
  obtain ⟨l, h⟩ := scr_of w
  obtain ⟨σ1, hw⟩ := works_ok
  exact call_turned Tab.turned (w_good (plays_run 9223372036854775990 St.empty x l h (by decide) σ1 hw))
end Go.Proofs.Ytjcobnjnjliehaa.sn
