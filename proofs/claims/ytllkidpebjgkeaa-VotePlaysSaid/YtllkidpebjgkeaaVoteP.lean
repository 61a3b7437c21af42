/-
  Ballots: scripts.
  Ballots: the document's numbers, frames.
  Ballots: the document's Open.
  Ballots: the document's Write.
  VotePlays: its run.
-/
import Derived.Test.YtllkidpebjgkeaaVoteU
import Derived.Test.YtllkidpebjgkeaaDiskRX
import Derived.Test.YtllkidpebjgkeaaFrO
namespace Go.Proofs.Ytllkidpebjgkeaa.vt
open Go.Ab fr dk
set_option maxRecDepth 100000
set_option maxHeartbeats 8000000
set_option linter.unusedSimpArgs false
set_option linter.unusedVariables false

/-- A call of a script. -/
structure Stp where
  k : Int
  n : Int
  t : Int
  w : Int
  s : List UInt8
  kv : V
  ks : List Int
def stc (p : Stp) : List V := [.sc (.int .i64 p.k), .sc (.int .i64 p.n), .sc (.int .i64 p.t), .sc (.int .i64 p.w), .str p.s, p.kv]
structure Stp.Ok (p : Stp) : Prop where
  kv : RV 1 p.kv (p.ks.map kc)
  kl : p.ks.length * 8 ≤ 140737488351232
  k : -9223372036854775808 ≤ p.k ∧ p.k ≤ 9223372036854775807
  n : -9223372036854775808 ≤ p.n ∧ p.n ≤ 9223372036854775807
  t : -9223372036854775808 ≤ p.t ∧ p.t ≤ 9223372036854775807
  w : -9223372036854775808 ≤ p.w ∧ p.w ≤ 9223372036854775807
structure Scr (x : V) (l : List Stp) : Prop where
  rv : RV 6 x (l.map stc)
  ok : ∀ p ∈ l, p.Ok
  len : l.length ≤ 9223372036854775807
abbrev stT : Ty := .agg [.int .i64, .int .i64, .agg [.int .i64, .int .i64], .str, .sl (.int .i64)]
theorem scr_of {x : V} (h : ArgA (.sl stT) x) : ∃ l, Scr x l := by
  obtain ⟨es, h1, h2, h3, h4⟩ := rv_slA h
  have : ∃ l : List Stp, es = l.map stc ∧ ∀ p ∈ l, p.Ok := by
    clear h h1 h3 h4
    induction es with
    | nil => exact ⟨[], rfl, by simp⟩
    | cons e es ih =>
      obtain ⟨l, rfl, h6⟩ := ih fun a ha => h2 a (List.mem_cons_of_mem _ ha)
      have h := h2 e List.mem_cons_self
      simp only [Arg, ArgL] at h
      obtain ⟨a1, b1, rfl, ⟨n1, rfl, w1⟩, ⟨a2, b2, rfl, ⟨n2, rfl, w2⟩, ⟨a3, b3, rfl, ⟨a7, b7, rfl, ⟨n3, rfl, w3⟩, ⟨a8, b8, rfl, ⟨n5, rfl, w5⟩, rfl⟩⟩, ⟨a4, b4, rfl, ⟨n4, rfl, w4⟩, ⟨a5, b5, rfl, hs, rfl⟩⟩⟩⟩⟩ := h
      have h5 : ∃ v, a5 = [v] ∧ Arg (.sl (.int .i64)) [v] := by
        rcases hs with rfl | ⟨a, rfl⟩ | ⟨es, q1, rfl, q2⟩
        · exact ⟨_, rfl, by simp [Arg]⟩
        · exact ⟨_, rfl, by simp [Arg]⟩
        · exact ⟨_, rfl, by simp only [Arg]; exact .inr (.inr ⟨es, q1, rfl, q2⟩)⟩
      obtain ⟨v, rfl, hv⟩ := h5
      obtain ⟨es', q1, q2, _, q4⟩ := rv_sl hv
      obtain ⟨ks, rfl⟩ := ints_of q2
      have q5 : ks.length * 8 ≤ 140737488351232 := by simpa [Ty.low, IntKind.bits, reachBytes] using q4
      refine ⟨⟨n1, n2, n3, n5, n4, v, ks⟩ :: l, rfl, fun p hp => ?_⟩
      rcases List.mem_cons.1 hp with rfl | hp
      · exact ⟨q1, q5, wf64 w1, wf64 w2, wf64 w3, wf64 w5⟩
      · exact h6 p hp
  obtain ⟨l, rfl, h6⟩ := this
  refine ⟨l, h1, h6, by simpa [maxLen] using h3⟩

theorem Scr.at {x : V} {l : List Stp} (h : Scr x l) {i : Nat} (hi : i < l.length) : aSlAddr x (.sc (.int .i64 i)) = some (.elt (l.map stc).flatten (i * 6)) ∧ (i * 6 + 6 ≤ (l.map stc).flatten.length) = True ∧ ((l.map stc).flatten.drop (i * 6)).take 6 = stc l[i] := by
  have := h.rv.at (i := i) (by simpa using hi)
  simpa using this

theorem heavy_ok (k : Nat) (ys : YlF) (σ : St) (x : V) (l : List Stp) (h : Scr x l) (hk : 9223372036854775808 ≤ k) :
    W (callY Tab.tb (k + 1) ys 17 [x] σ) fun r => ∃ b, r.1 = .sc (.bool b) ∧ Kept noX σ r.2 ∧ (b = false → l.length ≤ 100 ∧ ∀ p ∈ l, p.s.length ≤ 4096) := by
  rw [s_call (af := Tab.b17) rfl (Nat.le_of_ble_eq_true rfl)]
  have hlen := h.rv.len
  rw [List.length_map] at hlen
  have hsize := h.rv.size
  have hl2 := h.len
  generalize callY Tab.tb k = cy
  simp -implicitDefEqProofs (disch := first | exact nbf rfl | exact nbt rfl | (simp only [ne_eq, reduceCtorEq, not_false_eq_true]; done) | omega | (simp -implicitDefEqProofs only [zN.down] <;> omega) | fail) only [Tab.b17, hlen, XOp.kind, reduceCtorEq, V.bool, V.i64, aUn, aBox, aLoad, aArrAddr, aFold, aEqV, chkAdd, effAdd, AOp.kind, chkAll, chkSee, zP.down, zQ.down, zR.down, simprocAttr]
  repeat (first | refine w_fin ?_ | refine w_seq ?_ | refine w_block ?_ | refine w_reg ?_ | refine w_op ?_ | refine w_dop ?_)
  refine W.mono (Q := fun r => (∃ (ρ : Env) (σ' : St), r = ((.ret : Ex), ρ, σ') ∧ ρ 2 = .sc (.bool true) ∧ Kept noX σ σ') ∨ (∃ (ρ : Env) (σ' : St), r = ((.exit 0 : Ex), ρ, σ') ∧ ρ 0 = x ∧ (∀ p ∈ l, p.s.length ≤ 4096) ∧ Kept noX σ σ')) ?_ ?_
  · refine w_loop (fun m ρ σ' => ∃ (i n : Nat), m = l.length - i ∧ i ≤ l.length ∧ n ≤ 4096 ∧ ρ 0 = x ∧ ρ 6 = x ∧ ρ 7 = .sc (.int .i64 l.length) ∧ ρ 3 = .sc (.int .i64 n) ∧ ρ 8 = .sc (.int .i64 i) ∧ (∀ p ∈ l.take i, p.s.length ≤ 4096) ∧ Kept noX σ σ') l.length (by omega) ?_ ?_
    · refine ⟨0, 0, rfl, Nat.zero_le _, by omega, ?_, ?_, ?_, ?_, ?_, by simp, Kept.refl _ _⟩
      all_goals first | rfl | (simp -implicitDefEqProofs (disch := first | exact nbf rfl | exact nbt rfl | (simp only [ne_eq, reduceCtorEq, not_false_eq_true]; done) | omega | (simp -implicitDefEqProofs only [zN.down] <;> omega) | fail) only [XOp.kind, reduceCtorEq, V.bool, V.i64, aUn, aBox, aLoad, aArrAddr, aFold, aEqV, chkAdd, effAdd, AOp.kind, chkAll, chkSee, zP.down, zQ.down, zR.down, simprocAttr]; done) | (simp -implicitDefEqProofs (disch := first | exact nbf rfl | exact nbt rfl | (simp only [ne_eq, reduceCtorEq, not_false_eq_true]; done) | omega | (simp -implicitDefEqProofs only [zN.down] <;> omega) | fail) only [XOp.kind, reduceCtorEq, V.bool, V.i64, aUn, aBox, aLoad, aArrAddr, aFold, aEqV, chkAdd, effAdd, AOp.kind, chkAll, chkSee, zP.down, zQ.down, zR.down, simprocAttr]; rfl)
    · rintro m ρ σ' ⟨i, n, hm, hi, hn, e0, e6, e7, e3, e8, hp, hkept⟩
      by_cases hl : i < l.length
      · have c1 : decide ((i : Int) < (l.length : Int)) = true := by simpa using hl
        obtain ⟨a1, a2, a3⟩ := h.at hl
        simp only [stc] at a3
        have hcell := (h.ok _ (List.getElem_mem hl)).kv.cell
        have w1 : IntKind.i64.wrap (4096 - (n : Int)) = 4096 - (n : Int) := wrap64 (by omega) (by omega)
        have w2 : IntKind.i64.wrap ((i : Int) + 1) = (i : Int) + 1 := wrap64 (by omega) (by omega)
        by_cases hg : (l[i].s.length : Int) > 4096 - (n : Int)
        · have c2 : decide ((l[i].s.length : Int) > 4096 - (n : Int)) = true := by simpa using hg
          simp -implicitDefEqProofs (disch := first | exact nbf rfl | exact nbt rfl | (simp only [ne_eq, reduceCtorEq, not_false_eq_true]; done) | omega | (simp -implicitDefEqProofs only [zN.down] <;> omega) | fail) only [c1, e0, e6, e7, e3, e8, a1, a2, a3, hsize, hcell.1, hcell.2, w1, c2, XOp.kind, reduceCtorEq, V.bool, V.i64, aUn, aBox, aLoad, aArrAddr, aFold, aEqV, chkAdd, effAdd, AOp.kind, chkAll, chkSee, zP.down, zQ.down, zR.down, simprocAttr]
          left
          refine ⟨_, _, rfl, ?_, hkept.bump⟩
          simp -implicitDefEqProofs (disch := first | exact nbf rfl | exact nbt rfl | (simp only [ne_eq, reduceCtorEq, not_false_eq_true]; done) | omega | (simp -implicitDefEqProofs only [zN.down] <;> omega) | fail) only [XOp.kind, reduceCtorEq, V.bool, V.i64, aUn, aBox, aLoad, aArrAddr, aFold, aEqV, chkAdd, effAdd, AOp.kind, chkAll, chkSee, zP.down, zQ.down, zR.down, simprocAttr]
        · have c2 : decide ((l[i].s.length : Int) > 4096 - (n : Int)) = false := by simpa using hg
          have w3 : IntKind.i64.wrap ((n : Int) + (l[i].s.length : Int)) = (n : Int) + (l[i].s.length : Int) := wrap64 (by omega) (by omega)
          simp -implicitDefEqProofs (disch := first | exact nbf rfl | exact nbt rfl | (simp only [ne_eq, reduceCtorEq, not_false_eq_true]; done) | omega | (simp -implicitDefEqProofs only [zN.down] <;> omega) | fail) only [c1, e0, e6, e7, e3, e8, a1, a2, a3, hsize, hcell.1, hcell.2, w1, w2, w3, c2, XOp.kind, reduceCtorEq, V.bool, V.i64, aUn, aBox, aLoad, aArrAddr, aFold, aEqV, chkAdd, effAdd, AOp.kind, chkAll, chkSee, zP.down, zQ.down, zR.down, simprocAttr]
          refine ⟨l.length - (i + 1), by omega, i + 1, n + l[i].s.length, rfl, hl, by omega, by simp, by simp, fun p hp' => ?_, hkept.bump⟩
          rw [List.take_add_one, List.getElem?_eq_getElem hl] at hp'
          rcases List.mem_append.1 hp' with h1 | h1
          · exact hp p h1
          · simp at h1; subst h1; omega
      · have c1 : decide ((i : Int) < (l.length : Int)) = false := by simpa using hl
        have : i = l.length := by omega
        subst this
        rw [List.take_length] at hp
        simp -implicitDefEqProofs (disch := first | exact nbf rfl | exact nbt rfl | (simp only [ne_eq, reduceCtorEq, not_false_eq_true]; done) | omega | (simp -implicitDefEqProofs only [zN.down] <;> omega) | fail) only [c1, e0, e6, e7, e8, XOp.kind, reduceCtorEq, V.bool, V.i64, aUn, aBox, aLoad, aArrAddr, aFold, aEqV, chkAdd, effAdd, AOp.kind, chkAll, chkSee, zP.down, zQ.down, zR.down, simprocAttr]
        right
        refine ⟨_, _, rfl, ?_, hp, hkept⟩
        simp -implicitDefEqProofs (disch := first | exact nbf rfl | exact nbt rfl | (simp only [ne_eq, reduceCtorEq, not_false_eq_true]; done) | omega | (simp -implicitDefEqProofs only [zN.down] <;> omega) | fail) only [e0, XOp.kind, reduceCtorEq, V.bool, V.i64, aUn, aBox, aLoad, aArrAddr, aFold, aEqV, chkAdd, effAdd, AOp.kind, chkAll, chkSee, zP.down, zQ.down, zR.down, simprocAttr]
  · rintro _ (⟨ρ, σ', rfl, e2, hkept⟩ | ⟨ρ, σ', rfl, e0, hp, hkept⟩)
    · simp -implicitDefEqProofs (disch := first | exact nbf rfl | exact nbt rfl | (simp only [ne_eq, reduceCtorEq, not_false_eq_true]; done) | omega | (simp -implicitDefEqProofs only [zN.down] <;> omega) | fail) only [e2, XOp.kind, reduceCtorEq, V.bool, V.i64, aUn, aBox, aLoad, aArrAddr, aFold, aEqV, chkAdd, effAdd, AOp.kind, chkAll, chkSee, zP.down, zQ.down, zR.down, simprocAttr]
      exact ⟨true, rfl, hkept, fun h => by cases h⟩
    · simp -implicitDefEqProofs (disch := first | exact nbf rfl | exact nbt rfl | (simp only [ne_eq, reduceCtorEq, not_false_eq_true]; done) | omega | (simp -implicitDefEqProofs only [zN.down] <;> omega) | fail) only [e0, hlen, XOp.kind, reduceCtorEq, V.bool, V.i64, aUn, aBox, aLoad, aArrAddr, aFold, aEqV, chkAdd, effAdd, AOp.kind, chkAll, chkSee, zP.down, zQ.down, zR.down, simprocAttr]
      refine ⟨_, rfl, hkept, fun hb => ⟨?_, hp⟩⟩
      simp only [decide_eq_false_iff_not] at hb
      omega

/-! ## A map of numbers -/
end Go.Proofs.Ytllkidpebjgkeaa.vt
namespace Go.Proofs.Ytllkidpebjgkeaa.vt
open Go.Ab fr dk
set_option maxRecDepth 100000
set_option maxHeartbeats 8000000
set_option linter.unusedSimpArgs false
set_option linter.unusedVariables false

theorem number_ok (k : Nat) (ys : YlF) (σ : St) (s : List UInt8) (hs : 8 ≤ s.length) (hk : 20 ≤ k) :
    callY Tab.tb (k + 1) ys 41 [.str s] σ = some (.sc (.int .u64 (val (s.take 8) : Nat)), σ) := by
  suffices h : W (callY Tab.tb (k + 1) ys 41 [.str s] σ) fun r => r = (.sc (.int .u64 (val (s.take 8) : Nat)), σ) by
    obtain ⟨a, h1, h2⟩ := h
    rw [h1, h2]
  rw [s_call (af := Tab.b41) rfl (Nat.le_of_ble_eq_true rfl)]
  generalize callY Tab.tb k = cy
  simp -implicitDefEqProofs (disch := first | exact nbf rfl | exact nbt rfl | (simp only [ne_eq, reduceCtorEq, not_false_eq_true]; done) | omega | (simp -implicitDefEqProofs only [zN.down] <;> omega) | fail) only [Tab.b41, XOp.kind, reduceCtorEq, V.bool, V.i64, aUn, aBox, aLoad, aArrAddr, aFold, aEqV, chkAdd, effAdd, AOp.kind, chkAll, chkSee, zP.down, zQ.down, zR.down, simprocAttr]
  repeat (first | refine w_fin ?_ | refine w_seq ?_ | refine w_block ?_ | refine w_reg ?_ | refine w_op ?_ | refine w_dop ?_)
  refine W.mono (Q := fun q => ∃ (ρ : Env), q = ((.exit 0 : Ex), ρ, σ) ∧ ρ 3 = .sc (.int .u64 (val (s.take 8) : Nat))) ?_ ?_
  · refine w_loop (fun m ρ σ' => ∃ i, m = 8 - i ∧ i ≤ 8 ∧ σ' = σ ∧ ρ 0 = .str s ∧ ρ 3 = .sc (.int .u64 (val (s.take i) : Nat)) ∧ ρ 4 = .sc (.int .i64 (i : Nat))) 8 (by omega) ?_ ?_
    · refine ⟨0, rfl, Nat.zero_le _, rfl, ?_, ?_, ?_⟩
      all_goals first | rfl | (simp -implicitDefEqProofs (disch := first | exact nbf rfl | exact nbt rfl | (simp only [ne_eq, reduceCtorEq, not_false_eq_true]; done) | omega | (simp -implicitDefEqProofs only [zN.down] <;> omega) | fail) only [XOp.kind, reduceCtorEq, V.bool, V.i64, aUn, aBox, aLoad, aArrAddr, aFold, aEqV, chkAdd, effAdd, AOp.kind, chkAll, chkSee, zP.down, zQ.down, zR.down, simprocAttr]; done) | (simp -implicitDefEqProofs (disch := first | exact nbf rfl | exact nbt rfl | (simp only [ne_eq, reduceCtorEq, not_false_eq_true]; done) | omega | (simp -implicitDefEqProofs only [zN.down] <;> omega) | fail) only [XOp.kind, reduceCtorEq, V.bool, V.i64, aUn, aBox, aLoad, aArrAddr, aFold, aEqV, chkAdd, effAdd, AOp.kind, chkAll, chkSee, zP.down, zQ.down, zR.down, simprocAttr]; rfl)
    · rintro m ρ σ' ⟨i, hm, hi, rfl, e0, e3, e4⟩
      by_cases hl : i < 8
      · have c1 : decide ((i : Int) < 8) = true := by simp; omega
        have hil : i < s.length := by omega
        have a1 := str_at hil
        have hv := val_lt (s.take (i + 1))
        rw [List.length_take, Nat.min_eq_left (by omega)] at hv
        have hp : 256 ^ (i + 1) ≤ 256 ^ 8 := Nat.pow_le_pow_right (by decide) (by omega)
        have hp8 : (256 : Nat) ^ 8 = 18446744073709551616 := by decide
        have hsn : val (s.take (i + 1)) = val (s.take i) * 256 + s[i].toNat := by
          rw [List.take_add_one, List.getElem?_eq_getElem hil]; exact val_snoc _ _
        have hb := s[i].toNat_lt
        have u1 : IntKind.u64.wrap ((val (s.take i) : Int) * 256) = ((val (s.take i) * 256 : Nat) : Int) := by
          rw [show (val (s.take i) : Int) * 256 = ((val (s.take i) * 256 : Nat) : Int) by omega]; exact wrap_u64 (by omega)
        have u2 : IntKind.u64.wrap ((s[i].toNat : Nat) : Int) = ((s[i].toNat : Nat) : Int) := wrap_u64 (by omega)
        have u3 : IntKind.u64.wrap (((val (s.take i) * 256 : Nat) : Int) + ((s[i].toNat : Nat) : Int)) = ((val (s.take (i + 1)) : Nat) : Int) := by
          rw [hsn, show ((val (s.take i) * 256 : Nat) : Int) + ((s[i].toNat : Nat) : Int) = ((val (s.take i) * 256 + s[i].toNat : Nat) : Int) by omega]; exact wrap_u64 (by omega)
        have w1 : IntKind.i64.wrap ((i : Int) + 1) = ((i + 1 : Nat) : Int) := wrap64 (by omega) (by omega)
        generalize s[i].toNat = b at *
        generalize val (s.take i) = z at *
        generalize hz1 : val (s.take (i + 1)) = z1 at *
        simp -implicitDefEqProofs (disch := first | exact nbf rfl | exact nbt rfl | (simp only [ne_eq, reduceCtorEq, not_false_eq_true]; done) | omega | (simp -implicitDefEqProofs only [zN.down] <;> omega) | fail) only [c1, e0, e3, e4, a1, u1, u2, u3, w1, XOp.kind, reduceCtorEq, V.bool, V.i64, aUn, aBox, aLoad, aArrAddr, aFold, aEqV, chkAdd, effAdd, AOp.kind, chkAll, chkSee, zP.down, zQ.down, zR.down, simprocAttr]
        exact ⟨8 - (i + 1), by omega, i + 1, rfl, hl, by rw [hz1], rfl⟩
      · have c1 : decide ((i : Int) < 8) = false := by simp; omega
        have : i = 8 := by omega
        subst this
        simp -implicitDefEqProofs (disch := first | exact nbf rfl | exact nbt rfl | (simp only [ne_eq, reduceCtorEq, not_false_eq_true]; done) | omega | (simp -implicitDefEqProofs only [zN.down] <;> omega) | fail) only [c1, e4, XOp.kind, reduceCtorEq, V.bool, V.i64, aUn, aBox, aLoad, aArrAddr, aFold, aEqV, chkAdd, effAdd, AOp.kind, chkAll, chkSee, zP.down, zQ.down, zR.down, simprocAttr]
        refine ⟨_, rfl, ?_⟩
        simp -implicitDefEqProofs (disch := first | exact nbf rfl | exact nbt rfl | (simp only [ne_eq, reduceCtorEq, not_false_eq_true]; done) | omega | (simp -implicitDefEqProofs only [zN.down] <;> omega) | fail) only [e3, XOp.kind, reduceCtorEq, V.bool, V.i64, aUn, aBox, aLoad, aArrAddr, aFold, aEqV, chkAdd, effAdd, AOp.kind, chkAll, chkSee, zP.down, zQ.down, zR.down, simprocAttr]
  · rintro _ ⟨ρ, rfl, e3⟩
    simp -implicitDefEqProofs (disch := first | exact nbf rfl | exact nbt rfl | (simp only [ne_eq, reduceCtorEq, not_false_eq_true]; done) | omega | (simp -implicitDefEqProofs only [zN.down] <;> omega) | fail) only [e3, XOp.kind, reduceCtorEq, V.bool, V.i64, aUn, aBox, aLoad, aArrAddr, aFold, aEqV, chkAdd, effAdd, AOp.kind, chkAll, chkSee, zP.down, zQ.down, zR.down, simprocAttr]
theorem rmay_ok (k : Nat) (ys : YlF) (σ : St) (t w : Int) : callY Tab.tb (k + 1) ys 9 [.agg [.sc (.int .i64 t), .sc (.int .i64 w)]] σ = some (.sc (.bool (decide (vmay t w))), σ.bump) := by
  rw [s_call (af := Tab.b9) rfl (Nat.le_of_ble_eq_true rfl)]
  generalize callY Tab.tb k = cy
  unfold vmay
  by_cases c1 : t ≥ 0
  · have d1 : decide (t ≥ 0) = true := by simpa using c1
    by_cases c2 : t ≤ 1099511627776
    · have d2 : decide (t ≤ 1099511627776) = true := by simpa using c2
      by_cases c3 : w ≥ -1
      · have d3 : decide (w ≥ -1) = true := by simpa using c3
        have : decide (0 ≤ t ∧ t ≤ 1099511627776 ∧ -1 ≤ w ∧ w ≤ 2) = decide (w ≤ 2) := by
          congr 1; simp only [eq_iff_iff]; omega
        rw [this]
        simp -implicitDefEqProofs (disch := first | exact nbf rfl | exact nbt rfl | (simp only [ne_eq, reduceCtorEq, not_false_eq_true]; done) | omega | (simp -implicitDefEqProofs only [zN.down] <;> omega) | fail) only [Tab.b9, d1, d2, d3, XOp.kind, reduceCtorEq, V.bool, V.i64, aUn, aBox, aLoad, aArrAddr, aFold, aEqV, chkAdd, effAdd, AOp.kind, chkAll, chkSee, zP.down, zQ.down, zR.down, simprocAttr]
      · have d3 : decide (w ≥ -1) = false := by simpa using c3
        have : decide (0 ≤ t ∧ t ≤ 1099511627776 ∧ -1 ≤ w ∧ w ≤ 2) = false := by simp; omega
        rw [this]
        simp -implicitDefEqProofs (disch := first | exact nbf rfl | exact nbt rfl | (simp only [ne_eq, reduceCtorEq, not_false_eq_true]; done) | omega | (simp -implicitDefEqProofs only [zN.down] <;> omega) | fail) only [Tab.b9, d1, d2, d3, XOp.kind, reduceCtorEq, V.bool, V.i64, aUn, aBox, aLoad, aArrAddr, aFold, aEqV, chkAdd, effAdd, AOp.kind, chkAll, chkSee, zP.down, zQ.down, zR.down, simprocAttr]
    · have d2 : decide (t ≤ 1099511627776) = false := by simpa using c2
      have : decide (0 ≤ t ∧ t ≤ 1099511627776 ∧ -1 ≤ w ∧ w ≤ 2) = false := by simp; omega
      rw [this]
      simp -implicitDefEqProofs (disch := first | exact nbf rfl | exact nbt rfl | (simp only [ne_eq, reduceCtorEq, not_false_eq_true]; done) | omega | (simp -implicitDefEqProofs only [zN.down] <;> omega) | fail) only [Tab.b9, d1, d2, XOp.kind, reduceCtorEq, V.bool, V.i64, aUn, aBox, aLoad, aArrAddr, aFold, aEqV, chkAdd, effAdd, AOp.kind, chkAll, chkSee, zP.down, zQ.down, zR.down, simprocAttr]
  · have d1 : decide (t ≥ 0) = false := by simpa using c1
    have : decide (0 ≤ t ∧ t ≤ 1099511627776 ∧ -1 ≤ w ∧ w ≤ 2) = false := by simp; omega
    rw [this]
    simp -implicitDefEqProofs (disch := first | exact nbf rfl | exact nbt rfl | (simp only [ne_eq, reduceCtorEq, not_false_eq_true]; done) | omega | (simp -implicitDefEqProofs only [zN.down] <;> omega) | fail) only [Tab.b9, d1, XOp.kind, reduceCtorEq, V.bool, V.i64, aUn, aBox, aLoad, aArrAddr, aFold, aEqV, chkAdd, effAdd, AOp.kind, chkAll, chkSee, zP.down, zQ.down, zR.down, simprocAttr]
theorem rframe_ok (k : Nat) (ys : YlF) (σ : St) (c t : Nat) (w : Int) (hc : c < 18446744073709551616) (ht : t ≤ 1099511627776) (hw : -1 ≤ w ∧ w ≤ 2) (hk : 1100000 ≤ k) :
    W (callY Tab.tb (k + 5) ys 47 [.sc (.int .u64 (c : Int)), .agg [.sc (.int .i64 (t : Int)), .sc (.int .i64 w)]] σ) fun r => r.1 = .str (fput (vpay c t (w + 1).toNat)) ∧ Kept noX σ r.2 := by
  rw [s_call (af := Tab.b47) rfl (Nat.le_of_ble_eq_true rfl)]
  have hn := fun σ n w hn hw => rnum_ok (k + 3) ys σ n w hn hw (by omega)
  have hp := fun σ p h => rput_ok k ys σ p h hk
  generalize callY Tab.tb (k + 4) = cy at hn hp ⊢
  obtain ⟨u, hu⟩ : ∃ u : Nat, w + 1 = u := ⟨(w + 1).toNat, by omega⟩
  have w1 : IntKind.i64.wrap (w + 1) = (u : Int) := by rw [wrap64 (by omega) (by omega)]; exact hu
  have u1 : IntKind.u64.wrap (t : Int) = (t : Int) := wrap_u64 (by omega)
  have u2 : IntKind.u64.wrap (u : Int) = (u : Int) := wrap_u64 (by omega)
  rw [hu, Int.toNat_natCast]
  simp -implicitDefEqProofs (disch := first | exact nbf rfl | exact nbt rfl | (simp only [ne_eq, reduceCtorEq, not_false_eq_true]; done) | omega | (simp -implicitDefEqProofs only [zN.down] <;> omega) | fail) only [Tab.b47, XOp.kind, reduceCtorEq, V.bool, V.i64, aUn, aBox, aLoad, aArrAddr, aFold, aEqV, chkAdd, effAdd, AOp.kind, chkAll, chkSee, zP.down, zQ.down, zR.down, simprocAttr]
  repeat (first | refine w_fin ?_ | refine w_seq ?_ | refine w_block ?_ | refine w_reg ?_ | refine w_op ?_ | refine w_dop ?_)
  refine (hn σ.bump c 8 hc (by decide)).mono ?_
  rintro ⟨_, σ2⟩ ⟨rfl, k2⟩
  dsimp only at k2
  simp -implicitDefEqProofs (disch := first | exact nbf rfl | exact nbt rfl | (simp only [ne_eq, reduceCtorEq, not_false_eq_true]; done) | omega | (simp -implicitDefEqProofs only [zN.down] <;> omega) | fail) only [u1, XOp.kind, reduceCtorEq, V.bool, V.i64, aUn, aBox, aLoad, aArrAddr, aFold, aEqV, chkAdd, effAdd, AOp.kind, chkAll, chkSee, zP.down, zQ.down, zR.down, simprocAttr]
  repeat (first | refine w_fin ?_ | refine w_seq ?_ | refine w_block ?_ | refine w_reg ?_ | refine w_op ?_ | refine w_dop ?_)
  refine (hn σ2 t 8 (by omega) (by decide)).mono ?_
  rintro ⟨_, σ3⟩ ⟨rfl, k3⟩
  dsimp only at k3
  have a1 : aBin .add (.str (be 8 c)) (.str (be 8 t)) = some (.str (be 8 c ++ be 8 t)) := str_add (by simp [be_len])
  simp -implicitDefEqProofs (disch := first | exact nbf rfl | exact nbt rfl | (simp only [ne_eq, reduceCtorEq, not_false_eq_true]; done) | omega | (simp -implicitDefEqProofs only [zN.down] <;> omega) | fail) only [a1, w1, u2, XOp.kind, reduceCtorEq, V.bool, V.i64, aUn, aBox, aLoad, aArrAddr, aFold, aEqV, chkAdd, effAdd, AOp.kind, chkAll, chkSee, zP.down, zQ.down, zR.down, simprocAttr]
  repeat (first | refine w_fin ?_ | refine w_seq ?_ | refine w_block ?_ | refine w_reg ?_ | refine w_op ?_ | refine w_dop ?_)
  refine (hn σ3 u 1 (by omega) (by decide)).mono ?_
  rintro ⟨_, σ4⟩ ⟨rfl, k4⟩
  dsimp only at k4
  have a2 : aBin .add (.str (be 8 c ++ be 8 t)) (.str (be 1 u)) = some (.str (vpay c t u)) := str_add (by simp [be_len])
  simp -implicitDefEqProofs (disch := first | exact nbf rfl | exact nbt rfl | (simp only [ne_eq, reduceCtorEq, not_false_eq_true]; done) | omega | (simp -implicitDefEqProofs only [zN.down] <;> omega) | fail) only [a2, XOp.kind, reduceCtorEq, V.bool, V.i64, aUn, aBox, aLoad, aArrAddr, aFold, aEqV, chkAdd, effAdd, AOp.kind, chkAll, chkSee, zP.down, zQ.down, zR.down, simprocAttr]
  repeat (first | refine w_fin ?_ | refine w_seq ?_ | refine w_block ?_ | refine w_reg ?_ | refine w_op ?_ | refine w_dop ?_)
  refine (hp σ4 _ (by rw [vpay_len]; decide)).mono ?_
  rintro ⟨_, σ5⟩ ⟨rfl, k5⟩
  simp -implicitDefEqProofs (disch := first | exact nbf rfl | exact nbt rfl | (simp only [ne_eq, reduceCtorEq, not_false_eq_true]; done) | omega | (simp -implicitDefEqProofs only [zN.down] <;> omega) | fail) only [XOp.kind, reduceCtorEq, V.bool, V.i64, aUn, aBox, aLoad, aArrAddr, aFold, aEqV, chkAdd, effAdd, AOp.kind, chkAll, chkSee, zP.down, zQ.down, zR.down, simprocAttr]
  exact (((Kept.refl noX σ).bump.trans k2).trans k3).trans (k4.trans k5)
end Go.Proofs.Ytllkidpebjgkeaa.vt
namespace Go.Proofs.Ytllkidpebjgkeaa.vt
open Go.Ab fr dk
set_option maxRecDepth 100000
set_option maxHeartbeats 8000000
set_option linter.unusedSimpArgs false
set_option linter.unusedVariables false

theorem vok_iff {p : List UInt8} : vok p = true ↔ p.length = 17 ∧ 1 ≤ vcnt p ∧ vcnt p ≤ 4611686018427387904 ∧ vtm p ≤ 1099511627776 ∧ vwho p ≤ 3 := by
  unfold vok; exact decide_eq_true_iff
theorem vok_not {p : List UInt8} (h : ¬ (p.length = 17 ∧ 1 ≤ vcnt p ∧ vcnt p ≤ 4611686018427387904 ∧ vtm p ≤ 1099511627776 ∧ vwho p ≤ 3)) : vok p = false := by
  rw [Bool.eq_false_iff]; exact fun h' => h (vok_iff.1 h')
theorem vwho_at {p : List UInt8} (h : p.length = 17) : vwho p = p[16].toNat := by
  unfold vwho
  have : (p.drop 16).take 1 = [p[16]] := by
    rw [List.drop_eq_getElem_cons (by omega)]; rfl
  rw [this]; simp [val]
/-- The part of a box that one file's ballots come to. -/
theorem vfold_keep (f : Nat) (l : List (List UInt8)) : ∀ x : VB, (vfold f x l).n = x.n ∧ (vfold f x l).br = x.br := by
  induction l with
  | nil => intro x; exact ⟨rfl, rfl⟩
  | cons p l ih =>
    intro x
    have h := ih (vadd f x p)
    have : (vadd f x p).n = x.n ∧ (vadd f x p).br = x.br := by unfold vadd; split <;> exact ⟨rfl, rfl⟩
    exact ⟨h.1.trans this.1, h.2.trans this.2⟩

theorem ropen_ok (k : Nat) (ys : YlF) (σ : St) (d : Nat) (M : DM) (h : dk.RR σ d M) {B : Nat} (hm : M.Ok B) (hB : B ≤ 999000) (hk : 3200000 ≤ k) :
    W (callY Tab.tb (k + 7) ys 19 [.ptr d 0] σ) fun r => ∃ b, r.1 = .tup [if (vopen M).2.2 = 0 then .ptr b 0 else .sc .nilP, .sc (.int .i64 (vopen M).2.2)] ∧ ((vopen M).2.2 = 0 → BR r.2 b d (vopen M).2.1 ∧ σ.n ≤ b) ∧ dk.RR r.2 d (vopen M).1 ∧ Kept (· = d) σ r.2 := by
  rw [s_call (af := Tab.b19) rfl (Nat.le_of_ble_eq_true rfl)]
  have hrd := fun σ M f h B hm hB => rread_ok (B := B) (k + 2) ys σ d M f h hm hB (by omega)
  have hsc := fun σ s (hs : s.length ≤ 1048576) => rscan_ok k ys σ s (by omega) (by omega)
  have hnum := fun σ s hs => number_ok (k + 5) ys σ s hs (by omega)
  have hch := fun σ M f c h B hm hB hs => rchange_ok (B := B) (k + 2) ys σ d M f c h hm hB (by omega) hs
  have hsy := fun σ M f h B hm hB => rsync_ok (B := B) (k + 3) ys σ d M f h hm hB (by omega)
  generalize callY Tab.tb (k + 6) = cy at hrd hsc hnum hch hsy ⊢
  have hd := h.lt
  obtain ⟨cs, gd, hc⟩ := h
  have hpw := hc.p
  unfold vopen
  by_cases hp : M.power = 0
  · have d1 : (M.power == 0) = true := by simp [hp]
    rw [if_pos hp]
    simp -implicitDefEqProofs (disch := first | exact nbf rfl | exact nbt rfl | (simp only [ne_eq, reduceCtorEq, not_false_eq_true]; done) | omega | (simp -implicitDefEqProofs only [zN.down] <;> omega) | fail) only [Tab.b19, gd, hpw, d1, XOp.kind, reduceCtorEq, V.bool, V.i64, aUn, aBox, aLoad, aArrAddr, aFold, aEqV, chkAdd, effAdd, AOp.kind, chkAll, chkSee, zP.down, zQ.down, zR.down, simprocAttr]
    exact ⟨0, fun h => h.elim, ⟨cs, gd, hc⟩, Kept.refl _ _⟩
  have d1 : (M.power == 0) = false := by simp [hp]
  rw [if_neg hp]
  simp -implicitDefEqProofs (disch := first | exact nbf rfl | exact nbt rfl | (simp only [ne_eq, reduceCtorEq, not_false_eq_true]; done) | omega | (simp -implicitDefEqProofs only [zN.down] <;> omega) | fail) only [Tab.b19, gd, hpw, d1, XOp.kind, reduceCtorEq, V.bool, V.i64, aUn, aBox, aLoad, aArrAddr, aFold, aEqV, chkAdd, effAdd, AOp.kind, chkAll, chkSee, zP.down, zQ.down, zR.down, simprocAttr]
  repeat (first | refine w_fin ?_ | refine w_seq ?_ | refine w_block ?_ | refine w_reg ?_ | refine w_op ?_ | refine w_dop ?_)
  generalize hA : vrest 2 M x0 = A
  have hx0 : [V.ptr d 0, .sc (.int .i64 0), .sc (.int .i64 (-1)), .sc (.int .u64 0), .sc (.int .i64 1), .sc (.int .i64 8), .sc (.int .i64 0)] = vcells d x0 := rfl
  rw [hx0]
  have g0 : (σ.push (.cells (vcells d x0))).get σ.n = some (.cells (vcells d x0)) := get_push_self
  have k0 : Kept noX σ (σ.push (.cells (vcells d x0))) := (Kept.refl _ _).push _
  have h0 : dk.RR (σ.push (.cells (vcells d x0))) d M := RR.kept ⟨cs, gd, hc⟩ k0 (fun h => h)
  generalize σ.push (.cells (vcells d x0)) = σ1 at *
  have k0 : Kept (· = d) σ σ1 := k0.any
  refine W.mono (Q := fun r => (∃ (ρ : Env) (σ' : St), r = ((.exit 0 : Ex), ρ, σ') ∧ A.2.2 = 0 ∧ ρ 4 = .ptr σ.n 0 ∧ BR σ' σ.n d A.2.1 ∧ dk.RR σ' d A.1 ∧ Kept (· = d) σ σ') ∨ (∃ (ρ : Env) (σ' : St), r = ((.ret : Ex), ρ, σ') ∧ A.2.2 ≠ 0 ∧ ρ 2 = .sc .nilP ∧ ρ 3 = .sc (.int .i64 A.2.2) ∧ dk.RR σ' d A.1 ∧ Kept (· = d) σ σ')) ?_ ?_
  · refine w_loop (fun m ρ σ' => ∃ (j : Nat) (M' : DM) (x : VB), m = 2 - j ∧ j ≤ 2 ∧ vrest (2 - j) M' x = A ∧ M'.Ok (B + 2 * j) ∧ dk.RR σ' d M' ∧ BR σ' σ.n d x ∧ Kept (· = d) σ σ' ∧ ρ 0 = .ptr d 0 ∧ ρ 4 = .ptr σ.n 0 ∧ ρ 5 = .sc (.int .i64 j)) 2 (by omega) ?_ ?_
    · refine ⟨0, M, x0, rfl, by omega, hA, hm, h0, g0, k0, ?_, ?_, ?_⟩
      all_goals first | rfl | (simp -implicitDefEqProofs (disch := first | exact nbf rfl | exact nbt rfl | (simp only [ne_eq, reduceCtorEq, not_false_eq_true]; done) | omega | (simp -implicitDefEqProofs only [zN.down] <;> omega) | fail) only [XOp.kind, reduceCtorEq, V.bool, V.i64, aUn, aBox, aLoad, aArrAddr, aFold, aEqV, chkAdd, effAdd, AOp.kind, chkAll, chkSee, zP.down, zQ.down, zR.down, simprocAttr]; done) | (simp -implicitDefEqProofs (disch := first | exact nbf rfl | exact nbt rfl | (simp only [ne_eq, reduceCtorEq, not_false_eq_true]; done) | omega | (simp -implicitDefEqProofs only [zN.down] <;> omega) | fail) only [XOp.kind, reduceCtorEq, V.bool, V.i64, aUn, aBox, aLoad, aArrAddr, aFold, aEqV, chkAdd, effAdd, AOp.kind, chkAll, chkSee, zP.down, zQ.down, zR.down, simprocAttr]; rfl)
    · rintro m ρ σ2 ⟨j, M', x, hm2, hj, hrest, hM, hdr, hbr, kp, e0, e4, e5⟩
      by_cases hl : j < 2
      · have c1 : decide ((j : Int) < 2) = true := by simp; omega
        have w5 : IntKind.i64.wrap ((j : Int) + 1) = ((j + 1 : Nat) : Int) := wrap64 (by omega) (by omega)
        have hrl : (M'.read j).1.length ≤ 1048576 := by
          unfold DM.read
          repeat' split
          all_goals first | (simp; done) | skip
          rename_i h1 _
          rw [see_in (by omega) (by omega)]
          exact (hM.f _ (by omega)).1.seen
        have hv : vrest (2 - j) M' x = if (vfile M' x j).2.2 ≠ 0 then vfile M' x j else vrest (2 - (j + 1)) (vfile M' x j).1 (vfile M' x j).2.1 := by
          rw [show 2 - j = (2 - (j + 1)) + 1 by omega, vrest, show 1 - (2 - (j + 1)) = j by omega]
        rw [hrest] at hv
        have hMf := vfile_ok hM x j
        simp -implicitDefEqProofs (disch := first | exact nbf rfl | exact nbt rfl | (simp only [ne_eq, reduceCtorEq, not_false_eq_true]; done) | omega | (simp -implicitDefEqProofs only [zN.down] <;> omega) | fail) only [c1, e0, e4, e5, XOp.kind, reduceCtorEq, V.bool, V.i64, aUn, aBox, aLoad, aArrAddr, aFold, aEqV, chkAdd, effAdd, AOp.kind, chkAll, chkSee, zP.down, zQ.down, zR.down, simprocAttr]
        refine w_seq ?_
        refine W.mono (Q := fun r => (∃ (ρ' : Env) (σ' : St), r = ((.normal : Ex), ρ', σ') ∧ (vfile M' x j).2.2 = 0 ∧ dk.RR σ' d (vfile M' x j).1 ∧ BR σ' σ.n d (vfile M' x j).2.1 ∧ Kept (· = d) σ σ' ∧ ρ' 0 = .ptr d 0 ∧ ρ' 4 = .ptr σ.n 0 ∧ ρ' 5 = .sc (.int .i64 j)) ∨ (∃ (ρ' : Env) (σ' : St), r = ((.ret : Ex), ρ', σ') ∧ (vfile M' x j).2.2 ≠ 0 ∧ ρ' 2 = .sc .nilP ∧ ρ' 3 = .sc (.int .i64 (vfile M' x j).2.2) ∧ dk.RR σ' d (vfile M' x j).1 ∧ Kept (· = d) σ σ')) ?_ ?_
        · clear hv hMf hrest
          unfold vfile
          have hread1 := hrd σ2 M' j hdr (B + 2 * j) hM (by omega)
          have hcut1 := fun σ h => hch σ M' j ⟨2, [], (flen (vl (M'.read j).1) : Nat)⟩ h (B + 2 * j) hM (by omega) (by simp)
          have hsy1 := fun σ M'' h hM'' => hsy σ M'' j h (B + 2 * j + 1) hM'' (by omega)
          have hMc := hM.change (f := (j : Int)) (c := ⟨2, [], (flen (vl (M'.read j).1) : Nat)⟩) (.inr (.inl rfl))
          generalize M'.read j = rr at *
          repeat (first | refine w_fin ?_ | refine w_seq ?_ | refine w_block ?_ | refine w_reg ?_ | refine w_op ?_ | refine w_dop ?_)
          refine hread1.mono ?_
          rintro ⟨_, σ3⟩ ⟨rfl, k3⟩
          dsimp only at k3
          have hdr3 := hdr.kept k3 (fun h => h)
          have hbr3 : BR σ3 σ.n d x := k3.get _ _ (fun h => h) hbr
          have kp3 := kp.trans k3.any
          by_cases r4 : rr.2 = 4
          · have d4 : (rr.2 == 4) = true := by simp [r4]
            rw [if_pos r4]
            simp -implicitDefEqProofs (disch := first | exact nbf rfl | exact nbt rfl | (simp only [ne_eq, reduceCtorEq, not_false_eq_true]; done) | omega | (simp -implicitDefEqProofs only [zN.down] <;> omega) | fail) only [d4, e0, e4, e5, XOp.kind, reduceCtorEq, V.bool, V.i64, aUn, aBox, aLoad, aArrAddr, aFold, aEqV, chkAdd, effAdd, AOp.kind, chkAll, chkSee, zP.down, zQ.down, zR.down, simprocAttr]
            left
            refine ⟨_, _, rfl, hdr3, hbr3, kp3, ?_, ?_, ?_⟩
            all_goals (simp -implicitDefEqProofs (disch := first | exact nbf rfl | exact nbt rfl | (simp only [ne_eq, reduceCtorEq, not_false_eq_true]; done) | omega | (simp -implicitDefEqProofs only [zN.down] <;> omega) | fail) only [e0, e4, e5, XOp.kind, reduceCtorEq, V.bool, V.i64, aUn, aBox, aLoad, aArrAddr, aFold, aEqV, chkAdd, effAdd, AOp.kind, chkAll, chkSee, zP.down, zQ.down, zR.down, simprocAttr]; done)
          have d4 : (rr.2 == 4) = false := by simp [r4]
          rw [if_neg r4]
          by_cases r0 : rr.2 = 0
          rotate_left
          · have d0 : (rr.2 != 0) = true := by simp [r0]
            rw [if_pos (by simp [r0])]
            simp -implicitDefEqProofs (disch := first | exact nbf rfl | exact nbt rfl | (simp only [ne_eq, reduceCtorEq, not_false_eq_true]; done) | omega | (simp -implicitDefEqProofs only [zN.down] <;> omega) | fail) only [d4, d0, e0, e4, e5, XOp.kind, reduceCtorEq, V.bool, V.i64, aUn, aBox, aLoad, aArrAddr, aFold, aEqV, chkAdd, effAdd, AOp.kind, chkAll, chkSee, zP.down, zQ.down, zR.down, simprocAttr]
            right
            refine ⟨_, _, rfl, r0, ?_, ?_, hdr3, kp3⟩
            all_goals (simp -implicitDefEqProofs (disch := first | exact nbf rfl | exact nbt rfl | (simp only [ne_eq, reduceCtorEq, not_false_eq_true]; done) | omega | (simp -implicitDefEqProofs only [zN.down] <;> omega) | fail) only [XOp.kind, reduceCtorEq, V.bool, V.i64, aUn, aBox, aLoad, aArrAddr, aFold, aEqV, chkAdd, effAdd, AOp.kind, chkAll, chkSee, zP.down, zQ.down, zR.down, simprocAttr]; done)
          have d0 : (rr.2 != 0) = false := by simp [r0]
          rw [if_neg (by simp [r0])]
          simp -implicitDefEqProofs (disch := first | exact nbf rfl | exact nbt rfl | (simp only [ne_eq, reduceCtorEq, not_false_eq_true]; done) | omega | (simp -implicitDefEqProofs only [zN.down] <;> omega) | fail) only [d4, d0, e0, e4, e5, XOp.kind, reduceCtorEq, V.bool, V.i64, aUn, aBox, aLoad, aArrAddr, aFold, aEqV, chkAdd, effAdd, AOp.kind, chkAll, chkSee, zP.down, zQ.down, zR.down, simprocAttr]
          repeat (first | refine w_fin ?_ | refine w_seq ?_ | refine w_block ?_ | refine w_reg ?_ | refine w_op ?_ | refine w_dop ?_)
          generalize hs1 : rr.1 = s at *
          refine (hsc σ3 s hrl).mono ?_
          rintro ⟨_, σ4⟩ ⟨v, rfl, how, k4⟩
          dsimp only at how k4
          have hdr4 := hdr3.kept k4 (fun h => h)
          have hbr4 : BR σ4 σ.n d x := k4.get _ _ (fun h => h) hbr3
          have kp4 := kp3.trans k4.any
          have hrv := how.rv
          have hlen := hrv.len
          rw [List.length_map] at hlen
          have hsize := hrv.size
          have hln := len_flen (scan s)
          have hsl := flen_scan _ s (Nat.le_refl _)
          simp -implicitDefEqProofs (disch := first | exact nbf rfl | exact nbt rfl | (simp only [ne_eq, reduceCtorEq, not_false_eq_true]; done) | omega | (simp -implicitDefEqProofs only [zN.down] <;> omega) | fail) only [e0, e4, e5, hlen, XOp.kind, reduceCtorEq, V.bool, V.i64, aUn, aBox, aLoad, aArrAddr, aFold, aEqV, chkAdd, effAdd, AOp.kind, chkAll, chkSee, zP.down, zQ.down, zR.down, simprocAttr]
          repeat (first | refine w_fin ?_ | refine w_seq ?_ | refine w_block ?_ | refine w_reg ?_ | refine w_op ?_ | refine w_dop ?_)
          refine W.mono (Q := fun r => ∃ (ρ' : Env) (σ5 : St), r = ((.exit 2 : Ex), ρ', σ5) ∧ (∀ q ∈ vl s, vok q = true) ∧ BR σ5 σ.n d (vfold j x (vl s)) ∧ Kept (· = σ.n) σ4 σ5 ∧ ρ' 0 = .ptr d 0 ∧ ρ' 4 = .ptr σ.n 0 ∧ ρ' 5 = .sc (.int .i64 j) ∧ ρ' 6 = .str s ∧ ρ' 10 = .sc (.int .i64 ((29 * (vl s).length : Nat) : Int)) ∧ ρ' 11 = .sc (.int .i64 ((vl s).length : Nat)) ∧ ρ' 12 = .sc (.bool (decide ((vfold j x (vl s)).c > x.c)))) ?_ ?_
          · refine w_loop (fun m ρ' σ5 => ∃ (i : Nat), m = (scan s).length - i ∧ i ≤ (scan s).length ∧ (∀ q ∈ (scan s).take i, vok q = true) ∧ BR σ5 σ.n d (vfold j x ((scan s).take i)) ∧ Kept (· = σ.n) σ4 σ5 ∧ ρ' 0 = .ptr d 0 ∧ ρ' 4 = .ptr σ.n 0 ∧ ρ' 5 = .sc (.int .i64 j) ∧ ρ' 6 = .str s ∧ ρ' 8 = v ∧ ρ' 10 = .sc (.int .i64 ((29 * i : Nat) : Int)) ∧ ρ' 11 = .sc (.int .i64 i) ∧ ρ' 12 = .sc (.bool (decide ((vfold j x ((scan s).take i)).c > x.c))) ∧ ρ' 13 = .sc (.int .i64 i)) (scan s).length (by omega) ?_ ?_
            · have h00 : decide ((vfold j x ((scan s).take 0)).c > x.c) = false := by simp [vfold]
              refine ⟨0, rfl, Nat.zero_le _, by simp, hbr4, Kept.refl _ _, ?_, ?_, ?_, ?_, ?_, ?_, ?_, ?_, ?_⟩
              · simp -implicitDefEqProofs (disch := first | exact nbf rfl | exact nbt rfl | (simp only [ne_eq, reduceCtorEq, not_false_eq_true]; done) | omega | (simp -implicitDefEqProofs only [zN.down] <;> omega) | fail) only [e0, XOp.kind, reduceCtorEq, V.bool, V.i64, aUn, aBox, aLoad, aArrAddr, aFold, aEqV, chkAdd, effAdd, AOp.kind, chkAll, chkSee, zP.down, zQ.down, zR.down, simprocAttr]
              · simp -implicitDefEqProofs (disch := first | exact nbf rfl | exact nbt rfl | (simp only [ne_eq, reduceCtorEq, not_false_eq_true]; done) | omega | (simp -implicitDefEqProofs only [zN.down] <;> omega) | fail) only [e4, XOp.kind, reduceCtorEq, V.bool, V.i64, aUn, aBox, aLoad, aArrAddr, aFold, aEqV, chkAdd, effAdd, AOp.kind, chkAll, chkSee, zP.down, zQ.down, zR.down, simprocAttr]
              · simp -implicitDefEqProofs (disch := first | exact nbf rfl | exact nbt rfl | (simp only [ne_eq, reduceCtorEq, not_false_eq_true]; done) | omega | (simp -implicitDefEqProofs only [zN.down] <;> omega) | fail) only [e5, XOp.kind, reduceCtorEq, V.bool, V.i64, aUn, aBox, aLoad, aArrAddr, aFold, aEqV, chkAdd, effAdd, AOp.kind, chkAll, chkSee, zP.down, zQ.down, zR.down, simprocAttr]
              · simp -implicitDefEqProofs (disch := first | exact nbf rfl | exact nbt rfl | (simp only [ne_eq, reduceCtorEq, not_false_eq_true]; done) | omega | (simp -implicitDefEqProofs only [zN.down] <;> omega) | fail) only [XOp.kind, reduceCtorEq, V.bool, V.i64, aUn, aBox, aLoad, aArrAddr, aFold, aEqV, chkAdd, effAdd, AOp.kind, chkAll, chkSee, zP.down, zQ.down, zR.down, simprocAttr]
              · simp -implicitDefEqProofs (disch := first | exact nbf rfl | exact nbt rfl | (simp only [ne_eq, reduceCtorEq, not_false_eq_true]; done) | omega | (simp -implicitDefEqProofs only [zN.down] <;> omega) | fail) only [XOp.kind, reduceCtorEq, V.bool, V.i64, aUn, aBox, aLoad, aArrAddr, aFold, aEqV, chkAdd, effAdd, AOp.kind, chkAll, chkSee, zP.down, zQ.down, zR.down, simprocAttr]
              · simp -implicitDefEqProofs (disch := first | exact nbf rfl | exact nbt rfl | (simp only [ne_eq, reduceCtorEq, not_false_eq_true]; done) | omega | (simp -implicitDefEqProofs only [zN.down] <;> omega) | fail) only [XOp.kind, reduceCtorEq, V.bool, V.i64, aUn, aBox, aLoad, aArrAddr, aFold, aEqV, chkAdd, effAdd, AOp.kind, chkAll, chkSee, zP.down, zQ.down, zR.down, simprocAttr]
              · simp -implicitDefEqProofs (disch := first | exact nbf rfl | exact nbt rfl | (simp only [ne_eq, reduceCtorEq, not_false_eq_true]; done) | omega | (simp -implicitDefEqProofs only [zN.down] <;> omega) | fail) only [XOp.kind, reduceCtorEq, V.bool, V.i64, aUn, aBox, aLoad, aArrAddr, aFold, aEqV, chkAdd, effAdd, AOp.kind, chkAll, chkSee, zP.down, zQ.down, zR.down, simprocAttr]
              · rw [h00]; simp -implicitDefEqProofs (disch := first | exact nbf rfl | exact nbt rfl | (simp only [ne_eq, reduceCtorEq, not_false_eq_true]; done) | omega | (simp -implicitDefEqProofs only [zN.down] <;> omega) | fail) only [XOp.kind, reduceCtorEq, V.bool, V.i64, aUn, aBox, aLoad, aArrAddr, aFold, aEqV, chkAdd, effAdd, AOp.kind, chkAll, chkSee, zP.down, zQ.down, zR.down, simprocAttr]
              · simp -implicitDefEqProofs (disch := first | exact nbf rfl | exact nbt rfl | (simp only [ne_eq, reduceCtorEq, not_false_eq_true]; done) | omega | (simp -implicitDefEqProofs only [zN.down] <;> omega) | fail) only [XOp.kind, reduceCtorEq, V.bool, V.i64, aUn, aBox, aLoad, aArrAddr, aFold, aEqV, chkAdd, effAdd, AOp.kind, chkAll, chkSee, zP.down, zQ.down, zR.down, simprocAttr]
            · rintro m ρ' σ5 ⟨i, hm', hi, hall, hb5, k5, f0, f4, f5, f6, f8, f10, f11, f12, f13⟩
              have stop : ∀ (ρ'' : Env), vl s = (scan s).take i → ρ'' 0 = .ptr d 0 → ρ'' 4 = .ptr σ.n 0 → ρ'' 5 = .sc (.int .i64 j) → ρ'' 6 = .str s → ρ'' 10 = .sc (.int .i64 ((29 * i : Nat) : Int)) → ρ'' 11 = .sc (.int .i64 i) → ρ'' 12 = .sc (.bool (decide ((vfold j x ((scan s).take i)).c > x.c))) → ∃ (ρ' : Env) (σ5' : St), ((.exit 2 : Ex), ρ'', σ5) = ((.exit 2 : Ex), ρ', σ5') ∧ (∀ q ∈ vl s, vok q = true) ∧ BR σ5' σ.n d (vfold j x (vl s)) ∧ Kept (· = σ.n) σ4 σ5' ∧ ρ' 0 = .ptr d 0 ∧ ρ' 4 = .ptr σ.n 0 ∧ ρ' 5 = .sc (.int .i64 j) ∧ ρ' 6 = .str s ∧ ρ' 10 = .sc (.int .i64 ((29 * (vl s).length : Nat) : Int)) ∧ ρ' 11 = .sc (.int .i64 ((vl s).length : Nat)) ∧ ρ' 12 = .sc (.bool (decide ((vfold j x (vl s)).c > x.c))) := by
                intro ρ'' hvl q0 q4 q5 q6 q10 q11 q12
                have : (vl s).length = i := by rw [hvl, List.length_take]; omega
                refine ⟨ρ'', σ5, rfl, by rw [hvl]; exact hall, by rw [hvl]; exact hb5, k5, q0, q4, q5, q6, by rw [this]; exact q10, by rw [this]; exact q11, by rw [hvl]; exact q12⟩
              by_cases hl2 : i < (scan s).length
              · have c2 : decide ((i : Int) < ((scan s).length : Int)) = true := by simpa using hl2
                obtain ⟨a1, _, _⟩ := hrv.at (i := i) (by simpa using hl2)
                have a4 := hrv.cellAt (i := i) (j := 0) (by simpa using hl2) (by omega)
                simp only [List.getElem_map, Nat.add_zero, sc1, List.getElem?_cons_zero, Nat.mul_one] at a4
                rw [Nat.mul_one] at a1
                have no : vok (scan s)[i] = false → vl s = (scan s).take i := fun hk => take_while hall (.inr ⟨hl2, hk⟩)
                have htk : (scan s).take i ++ [(scan s)[i]] = (scan s).take (i + 1) := by rw [List.take_add_one, List.getElem?_eq_getElem hl2]; rfl
                have hvs := vfold_snoc j x ((scan s).take i) (scan s)[i]
                rw [htk] at hvs
                have hoki : vok (scan s)[i] = true → ∀ q ∈ (scan s).take (i + 1), vok q = true := fun hk q hq => by
                  rw [← htk] at hq
                  rcases List.mem_append.1 hq with h1 | h1
                  · exact hall q h1
                  · simp at h1; subst h1; exact hk
                generalize (scan s)[i] = p at *
                by_cases z1 : p.length = 17
                rotate_left
                · have y1 : ((p.length : Int) != 17) = true := by simp; omega
                  simp -implicitDefEqProofs (disch := first | exact nbf rfl | exact nbt rfl | (simp only [ne_eq, reduceCtorEq, not_false_eq_true]; done) | omega | (simp -implicitDefEqProofs only [zN.down] <;> omega) | fail) only [c2, f0, f4, f5, f6, f8, f10, f11, f12, f13, hlen, hsize, a1, a4, y1, XOp.kind, reduceCtorEq, V.bool, V.i64, aUn, aBox, aLoad, aArrAddr, aFold, aEqV, chkAdd, effAdd, AOp.kind, chkAll, chkSee, zP.down, zQ.down, zR.down, simprocAttr]
                  refine stop _ (no (vok_not fun h => z1 h.1)) ?_ ?_ ?_ ?_ ?_ ?_ ?_
                  all_goals (simp -implicitDefEqProofs (disch := first | exact nbf rfl | exact nbt rfl | (simp only [ne_eq, reduceCtorEq, not_false_eq_true]; done) | omega | (simp -implicitDefEqProofs only [zN.down] <;> omega) | fail) only [f0, f4, f5, f6, f10, f11, f12, XOp.kind, reduceCtorEq, V.bool, V.i64, aUn, aBox, aLoad, aArrAddr, aFold, aEqV, chkAdd, effAdd, AOp.kind, chkAll, chkSee, zP.down, zQ.down, zR.down, simprocAttr]; done)
                have y1 : ((p.length : Int) != 17) = false := by simp; omega
                have n1 : cy ys 41 [.str p] σ5 = some (.sc (.int .u64 (vcnt p : Nat)), σ5) := hnum σ5 p (by omega)
                have n2 : cy ys 41 [.str (p.drop 8)] σ5 = some (.sc (.int .u64 (vtm p : Nat)), σ5) := hnum σ5 (p.drop 8) (by rw [List.length_drop]; omega)
                have s8 : aSlice (.str p) (some (.sc (.int .i64 8))) none none = some (.str (p.drop 8)) := str_hi (l := 8) (by omega)
                have s16 : aStrIdx (.str p) (.sc (.int .i64 16)) = some (.sc (.int .u8 (vwho p : Nat))) := by rw [vwho_at z1]; exact str_at (i := 16) (by omega)
                have hcl := val_lt (p.take 8)
                have htl := val_lt ((p.drop 8).take 8)
                have hwl : vwho p < 256 := by rw [vwho_at z1]; exact p[16].toNat_lt
                rw [List.length_take] at hcl htl
                rw [List.length_drop] at htl
                rw [show min 8 p.length = 8 by omega] at hcl
                rw [show min 8 (p.length - 8) = 8 by omega] at htl
                have p8 : (256 : Nat) ^ 8 = 18446744073709551616 := by decide
                rw [p8] at hcl htl
                have hcl : vcnt p < 18446744073709551616 := hcl
                have htl : vtm p < 18446744073709551616 := htl
                by_cases z2 : vcnt p = 0
                · have y2 : ((vcnt p : Int) == 0) = true := by simp; omega
                  simp -implicitDefEqProofs (disch := first | exact nbf rfl | exact nbt rfl | (simp only [ne_eq, reduceCtorEq, not_false_eq_true]; done) | omega | (simp -implicitDefEqProofs only [zN.down] <;> omega) | fail) only [c2, f0, f4, f5, f6, f8, f10, f11, f12, f13, hlen, hsize, a1, a4, y1, n1, y2, XOp.kind, reduceCtorEq, V.bool, V.i64, aUn, aBox, aLoad, aArrAddr, aFold, aEqV, chkAdd, effAdd, AOp.kind, chkAll, chkSee, zP.down, zQ.down, zR.down, simprocAttr]
                  refine stop _ (no (vok_not fun h => by omega)) ?_ ?_ ?_ ?_ ?_ ?_ ?_
                  all_goals (simp -implicitDefEqProofs (disch := first | exact nbf rfl | exact nbt rfl | (simp only [ne_eq, reduceCtorEq, not_false_eq_true]; done) | omega | (simp -implicitDefEqProofs only [zN.down] <;> omega) | fail) only [f0, f4, f5, f6, f10, f11, f12, XOp.kind, reduceCtorEq, V.bool, V.i64, aUn, aBox, aLoad, aArrAddr, aFold, aEqV, chkAdd, effAdd, AOp.kind, chkAll, chkSee, zP.down, zQ.down, zR.down, simprocAttr]; done)
                have y2 : ((vcnt p : Int) == 0) = false := by simp; omega
                by_cases z3 : vcnt p > 4611686018427387904
                · have y3 : decide ((vcnt p : Int) > 4611686018427387904) = true := by simp; omega
                  simp -implicitDefEqProofs (disch := first | exact nbf rfl | exact nbt rfl | (simp only [ne_eq, reduceCtorEq, not_false_eq_true]; done) | omega | (simp -implicitDefEqProofs only [zN.down] <;> omega) | fail) only [c2, f0, f4, f5, f6, f8, f10, f11, f12, f13, hlen, hsize, a1, a4, y1, n1, y2, y3, XOp.kind, reduceCtorEq, V.bool, V.i64, aUn, aBox, aLoad, aArrAddr, aFold, aEqV, chkAdd, effAdd, AOp.kind, chkAll, chkSee, zP.down, zQ.down, zR.down, simprocAttr]
                  refine stop _ (no (vok_not fun h => by omega)) ?_ ?_ ?_ ?_ ?_ ?_ ?_
                  all_goals (simp -implicitDefEqProofs (disch := first | exact nbf rfl | exact nbt rfl | (simp only [ne_eq, reduceCtorEq, not_false_eq_true]; done) | omega | (simp -implicitDefEqProofs only [zN.down] <;> omega) | fail) only [f0, f4, f5, f6, f10, f11, f12, XOp.kind, reduceCtorEq, V.bool, V.i64, aUn, aBox, aLoad, aArrAddr, aFold, aEqV, chkAdd, effAdd, AOp.kind, chkAll, chkSee, zP.down, zQ.down, zR.down, simprocAttr]; done)
                have y3 : decide ((vcnt p : Int) > 4611686018427387904) = false := by simp; omega
                by_cases z4 : vtm p > 1099511627776
                · have y4 : decide ((vtm p : Int) > 1099511627776) = true := by simp; omega
                  simp -implicitDefEqProofs (disch := first | exact nbf rfl | exact nbt rfl | (simp only [ne_eq, reduceCtorEq, not_false_eq_true]; done) | omega | (simp -implicitDefEqProofs only [zN.down] <;> omega) | fail) only [c2, f0, f4, f5, f6, f8, f10, f11, f12, f13, hlen, hsize, a1, a4, y1, n1, n2, s8, y2, y3, y4, XOp.kind, reduceCtorEq, V.bool, V.i64, aUn, aBox, aLoad, aArrAddr, aFold, aEqV, chkAdd, effAdd, AOp.kind, chkAll, chkSee, zP.down, zQ.down, zR.down, simprocAttr]
                  refine stop _ (no (vok_not fun h => by omega)) ?_ ?_ ?_ ?_ ?_ ?_ ?_
                  all_goals (simp -implicitDefEqProofs (disch := first | exact nbf rfl | exact nbt rfl | (simp only [ne_eq, reduceCtorEq, not_false_eq_true]; done) | omega | (simp -implicitDefEqProofs only [zN.down] <;> omega) | fail) only [f0, f4, f5, f6, f10, f11, f12, XOp.kind, reduceCtorEq, V.bool, V.i64, aUn, aBox, aLoad, aArrAddr, aFold, aEqV, chkAdd, effAdd, AOp.kind, chkAll, chkSee, zP.down, zQ.down, zR.down, simprocAttr]; done)
                have y4 : decide ((vtm p : Int) > 1099511627776) = false := by simp; omega
                by_cases z5 : vwho p > 3
                · have y5 : decide ((vwho p : Int) > 3) = true := by simp; omega
                  simp -implicitDefEqProofs (disch := first | exact nbf rfl | exact nbt rfl | (simp only [ne_eq, reduceCtorEq, not_false_eq_true]; done) | omega | (simp -implicitDefEqProofs only [zN.down] <;> omega) | fail) only [c2, f0, f4, f5, f6, f8, f10, f11, f12, f13, hlen, hsize, a1, a4, y1, n1, n2, s8, s16, y2, y3, y4, y5, XOp.kind, reduceCtorEq, V.bool, V.i64, aUn, aBox, aLoad, aArrAddr, aFold, aEqV, chkAdd, effAdd, AOp.kind, chkAll, chkSee, zP.down, zQ.down, zR.down, simprocAttr]
                  refine stop _ (no (vok_not fun h => by omega)) ?_ ?_ ?_ ?_ ?_ ?_ ?_
                  all_goals (simp -implicitDefEqProofs (disch := first | exact nbf rfl | exact nbt rfl | (simp only [ne_eq, reduceCtorEq, not_false_eq_true]; done) | omega | (simp -implicitDefEqProofs only [zN.down] <;> omega) | fail) only [f0, f4, f5, f6, f10, f11, f12, XOp.kind, reduceCtorEq, V.bool, V.i64, aUn, aBox, aLoad, aArrAddr, aFold, aEqV, chkAdd, effAdd, AOp.kind, chkAll, chkSee, zP.down, zQ.down, zR.down, simprocAttr]; done)
                have y5 : decide ((vwho p : Int) > 3) = false := by simp; omega
                have hk : vok p = true := vok_iff.2 ⟨z1, by omega, by omega, by omega, by omega⟩
                have hc0 := vfold_c j ((scan s).take i) x
                have u1 : IntKind.i64.wrap (((29 * i : Nat) : Int) + 29) = ((29 * (i + 1) : Nat) : Int) := by rw [wrap64 (by omega) (by omega)]; omega
                have u2 : IntKind.i64.wrap ((i : Int) + 1) = ((i + 1 : Nat) : Int) := wrap64 (by omega) (by omega)
                have u3 : IntKind.i64.wrap (vtm p : Int) = (vtm p : Int) := wrap64 (by omega) (by omega)
                have u4 : IntKind.i64.wrap (vwho p : Int) = (vwho p : Int) := wrap64 (by omega) (by omega)
                have u5 : IntKind.i64.wrap ((vwho p : Int) - 1) = (vwho p : Int) - 1 := wrap64 (by omega) (by omega)
                have gb := hb5
                unfold BR vcells at gb
                have lb := St.get_lt gb
                generalize hxi : vfold j x ((scan s).take i) = xi at *
                unfold vadd at hvs
                by_cases hgt : vcnt p > xi.c
                · have d1 : decide ((vcnt p : Int) > (xi.c : Int)) = true := by simp; omega
                  rw [if_pos hgt] at hvs
                  have n3 := fun z : Option Ob => hnum (σ5.put σ.n z) (p.drop 8) (by rw [List.length_drop]; omega)
                  have vt8 : val ((p.drop 8).take 8) = vtm p := rfl
                  have hd : decide ((vfold j x ((scan s).take (i + 1))).c > x.c) = true := by rw [hvs]; simp only [decide_eq_true_eq]; omega
                  simp -implicitDefEqProofs (disch := first | exact nbf rfl | exact nbt rfl | (simp only [ne_eq, reduceCtorEq, not_false_eq_true]; done) | omega | (simp -implicitDefEqProofs only [zN.down] <;> omega) | fail) only [c2, f0, f4, f5, f6, f8, f10, f11, f12, f13, hlen, hsize, a1, a4, y1, n1, n2, n3, vt8, s8, s16, y2, y3, y4, y5, gb, d1, u1, u2, u3, u4, u5, XOp.kind, reduceCtorEq, V.bool, V.i64, aUn, aBox, aLoad, aArrAddr, aFold, aEqV, chkAdd, effAdd, AOp.kind, chkAll, chkSee, zP.down, zQ.down, zR.down, simprocAttr]
                  refine ⟨(scan s).length - (i + 1), by omega, i + 1, rfl, hl2, hoki hk, ?_, ?_, rfl, rfl, by rw [hd], rfl⟩
                  · unfold BR
                    rw [hvs]
                    simp -implicitDefEqProofs (disch := first | exact nbf rfl | exact nbt rfl | (simp only [ne_eq, reduceCtorEq, not_false_eq_true]; done) | omega | (simp -implicitDefEqProofs only [zN.down] <;> omega) | fail) only [vcells, XOp.kind, reduceCtorEq, V.bool, V.i64, aUn, aBox, aLoad, aArrAddr, aFold, aEqV, chkAdd, effAdd, AOp.kind, chkAll, chkSee, zP.down, zQ.down, zR.down, simprocAttr]
                  · exact ((k5.put (.inl rfl) lb _).put (.inl rfl) (by simp; exact lb) _).put (.inl rfl) (by simp; exact lb) _
                · have d1 : decide ((vcnt p : Int) > (xi.c : Int)) = false := by simp; omega
                  rw [if_neg hgt] at hvs
                  simp -implicitDefEqProofs (disch := first | exact nbf rfl | exact nbt rfl | (simp only [ne_eq, reduceCtorEq, not_false_eq_true]; done) | omega | (simp -implicitDefEqProofs only [zN.down] <;> omega) | fail) only [c2, f0, f4, f5, f6, f8, f10, f11, f12, f13, hlen, hsize, a1, a4, y1, n1, n2, s8, s16, y2, y3, y4, y5, gb, d1, u1, u2, u3, u4, u5, XOp.kind, reduceCtorEq, V.bool, V.i64, aUn, aBox, aLoad, aArrAddr, aFold, aEqV, chkAdd, effAdd, AOp.kind, chkAll, chkSee, zP.down, zQ.down, zR.down, simprocAttr]
                  refine ⟨(scan s).length - (i + 1), by omega, i + 1, rfl, hl2, hoki hk, by rw [hvs]; exact hb5, k5, rfl, rfl, by rw [hvs], rfl⟩
              · have c2 : decide ((i : Int) < ((scan s).length : Int)) = false := by simpa using hl2
                have : i = (scan s).length := by omega
                simp -implicitDefEqProofs (disch := first | exact nbf rfl | exact nbt rfl | (simp only [ne_eq, reduceCtorEq, not_false_eq_true]; done) | omega | (simp -implicitDefEqProofs only [zN.down] <;> omega) | fail) only [c2, f0, f4, f5, f6, f8, f10, f11, f12, f13, hlen, XOp.kind, reduceCtorEq, V.bool, V.i64, aUn, aBox, aLoad, aArrAddr, aFold, aEqV, chkAdd, effAdd, AOp.kind, chkAll, chkSee, zP.down, zQ.down, zR.down, simprocAttr]
                refine stop _ (take_while hall (.inl this)) ?_ ?_ ?_ ?_ ?_ ?_ ?_
                all_goals (simp -implicitDefEqProofs (disch := first | exact nbf rfl | exact nbt rfl | (simp only [ne_eq, reduceCtorEq, not_false_eq_true]; done) | omega | (simp -implicitDefEqProofs only [zN.down] <;> omega) | fail) only [f0, f4, f5, f6, f10, f11, f12, XOp.kind, reduceCtorEq, V.bool, V.i64, aUn, aBox, aLoad, aArrAddr, aFold, aEqV, chkAdd, effAdd, AOp.kind, chkAll, chkSee, zP.down, zQ.down, zR.down, simprocAttr]; done)
          · rintro _ ⟨ρ, σ5, rfl, hall, hb5, k5, f0, f4, f5, f6, f10, f11, f12⟩
            have hdr5 := hdr4.kept k5 (by omega)
            have kp5 : Kept (· = d) σ σ5 := ⟨Nat.le_trans kp4.n k5.n, fun o z hx ho => k5.get _ _ (by have := St.get_lt ho; omega) (kp4.get _ _ hx ho)⟩
            have hfl : ((29 * (vl s).length : Nat) : Int) = ((flen (vl s) : Nat) : Int) := by rw [flen_vok hall]
            rw [hfl] at f10
            have lb := St.get_lt hb5
            have gb := hb5
            unfold BR vcells at gb
            -- how many stand there
            simp -implicitDefEqProofs (disch := first | exact nbf rfl | exact nbt rfl | (simp only [ne_eq, reduceCtorEq, not_false_eq_true]; done) | omega | (simp -implicitDefEqProofs only [zN.down] <;> omega) | fail) only [f12, XOp.kind, reduceCtorEq, V.bool, V.i64, aUn, aBox, aLoad, aArrAddr, aFold, aEqV, chkAdd, effAdd, AOp.kind, chkAll, chkSee, zP.down, zQ.down, zR.down, simprocAttr]
            refine w_seq ?_
            refine W.mono (Q := fun r => ∃ (ρ' : Env) (σ6 : St), r = ((.normal : Ex), ρ', σ6) ∧ BR σ6 σ.n d (vin x (vfold j x (vl s)) (vl s).length) ∧ dk.RR σ6 d M' ∧ Kept (· = d) σ σ6 ∧ ρ' 0 = .ptr d 0 ∧ ρ' 4 = .ptr σ.n 0 ∧ ρ' 5 = .sc (.int .i64 j) ∧ ρ' 6 = .str s ∧ ρ' 10 = .sc (.int .i64 ((flen (vl s) : Nat) : Int))) ?_ ?_
            · unfold vin
              by_cases hgt : (vfold j x (vl s)).c > x.c
              · have d2 : decide ((vfold j x (vl s)).c > x.c) = true := by simpa using hgt
                rw [if_pos hgt]
                simp -implicitDefEqProofs (disch := first | exact nbf rfl | exact nbt rfl | (simp only [ne_eq, reduceCtorEq, not_false_eq_true]; done) | omega | (simp -implicitDefEqProofs only [zN.down] <;> omega) | fail) only [d2, f0, f4, f5, f6, f10, f11, gb, XOp.kind, reduceCtorEq, V.bool, V.i64, aUn, aBox, aLoad, aArrAddr, aFold, aEqV, chkAdd, effAdd, AOp.kind, chkAll, chkSee, zP.down, zQ.down, zR.down, simprocAttr]
                refine ⟨_, _, rfl, ?_, hdr5.kept (X := (· = σ.n)) (Kept.put (X := (· = σ.n)) (Kept.refl _ _) (.inl rfl) lb _) (by omega), kp5.put (.inr (Nat.le_refl _)) lb _, ?_, ?_, ?_, ?_, ?_⟩
                · unfold BR vcells
                  rw [get_put_eq rfl lb]
                all_goals (simp -implicitDefEqProofs (disch := first | exact nbf rfl | exact nbt rfl | (simp only [ne_eq, reduceCtorEq, not_false_eq_true]; done) | omega | (simp -implicitDefEqProofs only [zN.down] <;> omega) | fail) only [f0, f4, f5, f6, f10, XOp.kind, reduceCtorEq, V.bool, V.i64, aUn, aBox, aLoad, aArrAddr, aFold, aEqV, chkAdd, effAdd, AOp.kind, chkAll, chkSee, zP.down, zQ.down, zR.down, simprocAttr]; done)
              · have d2 : decide ((vfold j x (vl s)).c > x.c) = false := by simpa using hgt
                rw [if_neg hgt]
                simp -implicitDefEqProofs (disch := first | exact nbf rfl | exact nbt rfl | (simp only [ne_eq, reduceCtorEq, not_false_eq_true]; done) | omega | (simp -implicitDefEqProofs only [zN.down] <;> omega) | fail) only [d2, f0, f4, f5, f6, f10, f11, gb, XOp.kind, reduceCtorEq, V.bool, V.i64, aUn, aBox, aLoad, aArrAddr, aFold, aEqV, chkAdd, effAdd, AOp.kind, chkAll, chkSee, zP.down, zQ.down, zR.down, simprocAttr]
                refine ⟨_, _, rfl, hb5, hdr5, kp5, ?_, ?_, ?_, ?_, ?_⟩
                all_goals (simp -implicitDefEqProofs (disch := first | exact nbf rfl | exact nbt rfl | (simp only [ne_eq, reduceCtorEq, not_false_eq_true]; done) | omega | (simp -implicitDefEqProofs only [zN.down] <;> omega) | fail) only [f0, f4, f5, f6, f10, XOp.kind, reduceCtorEq, V.bool, V.i64, aUn, aBox, aLoad, aArrAddr, aFold, aEqV, chkAdd, effAdd, AOp.kind, chkAll, chkSee, zP.down, zQ.down, zR.down, simprocAttr]; done)
            · rintro _ ⟨ρ, σ6, rfl, hb6, hdr6, kp6, g0, g4, g5, g6, g10⟩
              generalize vin x (vfold j x (vl s)) (vl s).length = xv at *
              by_cases hlt : flen (vl s) < s.length
              · have d3 : decide ((flen (vl s) : Int) < (s.length : Int)) = true := by simp; omega
                rw [if_pos hlt]
                have f7 := hcut1 σ6 hdr6
                unfold chc at f7
                simp -implicitDefEqProofs (disch := first | exact nbf rfl | exact nbt rfl | (simp only [ne_eq, reduceCtorEq, not_false_eq_true]; done) | omega | (simp -implicitDefEqProofs only [zN.down] <;> omega) | fail) only [g0, g4, g5, g6, g10, d3, XOp.kind, reduceCtorEq, V.bool, V.i64, aUn, aBox, aLoad, aArrAddr, aFold, aEqV, chkAdd, effAdd, AOp.kind, chkAll, chkSee, zP.down, zQ.down, zR.down, simprocAttr]
                repeat (first | refine w_fin ?_ | refine w_seq ?_ | refine w_block ?_ | refine w_reg ?_ | refine w_op ?_ | refine w_dop ?_)
                refine f7.mono ?_
                rintro ⟨_, σ7⟩ ⟨rfl, hdr7, k7⟩
                dsimp only at hdr7 k7
                generalize M'.change j ⟨2, [], (flen (vl s) : Nat)⟩ = q at *
                have hb7 : BR σ7 σ.n d xv := k7.get _ _ (by omega) hb6
                have kp7 := kp6.trans k7
                by_cases q0 : q.2 = 0
                · have d4 : (q.2 == 0) = true := by simp [q0]
                  rw [if_neg (by simp [q0])]
                  simp -implicitDefEqProofs (disch := first | exact nbf rfl | exact nbt rfl | (simp only [ne_eq, reduceCtorEq, not_false_eq_true]; done) | omega | (simp -implicitDefEqProofs only [zN.down] <;> omega) | fail) only [d4, g0, g4, g5, XOp.kind, reduceCtorEq, V.bool, V.i64, aUn, aBox, aLoad, aArrAddr, aFold, aEqV, chkAdd, effAdd, AOp.kind, chkAll, chkSee, zP.down, zQ.down, zR.down, simprocAttr]
                  repeat (first | refine w_fin ?_ | refine w_seq ?_ | refine w_block ?_ | refine w_reg ?_ | refine w_op ?_ | refine w_dop ?_)
                  refine (hsy1 σ7 q.1 hdr7 hMc).mono ?_
                  rintro ⟨_, σ8⟩ ⟨rfl, hdr8, k8⟩
                  dsimp only at hdr8 k8
                  generalize q.1.sync j = z at *
                  have hb8 : BR σ8 σ.n d xv := k8.get _ _ (by omega) hb7
                  have kp8 := kp7.trans k8
                  by_cases z0 : z.2 = 0
                  · have d5 : (z.2 != 0) = false := by simp [z0]
                    simp -implicitDefEqProofs (disch := first | exact nbf rfl | exact nbt rfl | (simp only [ne_eq, reduceCtorEq, not_false_eq_true]; done) | omega | (simp -implicitDefEqProofs only [zN.down] <;> omega) | fail) only [d5, g0, g4, g5, XOp.kind, reduceCtorEq, V.bool, V.i64, aUn, aBox, aLoad, aArrAddr, aFold, aEqV, chkAdd, effAdd, AOp.kind, chkAll, chkSee, zP.down, zQ.down, zR.down, simprocAttr]
                    left
                    refine ⟨_, _, rfl, z0, hdr8, hb8, kp8, ?_, ?_, ?_⟩
                    all_goals (simp -implicitDefEqProofs (disch := first | exact nbf rfl | exact nbt rfl | (simp only [ne_eq, reduceCtorEq, not_false_eq_true]; done) | omega | (simp -implicitDefEqProofs only [zN.down] <;> omega) | fail) only [g0, g4, g5, XOp.kind, reduceCtorEq, V.bool, V.i64, aUn, aBox, aLoad, aArrAddr, aFold, aEqV, chkAdd, effAdd, AOp.kind, chkAll, chkSee, zP.down, zQ.down, zR.down, simprocAttr]; done)
                  · have d5 : (z.2 != 0) = true := by simp [z0]
                    simp -implicitDefEqProofs (disch := first | exact nbf rfl | exact nbt rfl | (simp only [ne_eq, reduceCtorEq, not_false_eq_true]; done) | omega | (simp -implicitDefEqProofs only [zN.down] <;> omega) | fail) only [d5, g0, g4, g5, XOp.kind, reduceCtorEq, V.bool, V.i64, aUn, aBox, aLoad, aArrAddr, aFold, aEqV, chkAdd, effAdd, AOp.kind, chkAll, chkSee, zP.down, zQ.down, zR.down, simprocAttr]
                    right
                    refine ⟨_, _, rfl, z0, ?_, ?_, hdr8, kp8⟩
                    all_goals (simp -implicitDefEqProofs (disch := first | exact nbf rfl | exact nbt rfl | (simp only [ne_eq, reduceCtorEq, not_false_eq_true]; done) | omega | (simp -implicitDefEqProofs only [zN.down] <;> omega) | fail) only [XOp.kind, reduceCtorEq, V.bool, V.i64, aUn, aBox, aLoad, aArrAddr, aFold, aEqV, chkAdd, effAdd, AOp.kind, chkAll, chkSee, zP.down, zQ.down, zR.down, simprocAttr]; done)
                · have d4 : (q.2 == 0) = false := by simp [q0]
                  have d5 : (q.2 != 0) = true := by simp [q0]
                  rw [if_pos (by simp [q0])]
                  simp -implicitDefEqProofs (disch := first | exact nbf rfl | exact nbt rfl | (simp only [ne_eq, reduceCtorEq, not_false_eq_true]; done) | omega | (simp -implicitDefEqProofs only [zN.down] <;> omega) | fail) only [d4, d5, g0, g4, g5, XOp.kind, reduceCtorEq, V.bool, V.i64, aUn, aBox, aLoad, aArrAddr, aFold, aEqV, chkAdd, effAdd, AOp.kind, chkAll, chkSee, zP.down, zQ.down, zR.down, simprocAttr]
                  right
                  refine ⟨_, _, rfl, q0, ?_, ?_, hdr7, kp7⟩
                  all_goals (simp -implicitDefEqProofs (disch := first | exact nbf rfl | exact nbt rfl | (simp only [ne_eq, reduceCtorEq, not_false_eq_true]; done) | omega | (simp -implicitDefEqProofs only [zN.down] <;> omega) | fail) only [XOp.kind, reduceCtorEq, V.bool, V.i64, aUn, aBox, aLoad, aArrAddr, aFold, aEqV, chkAdd, effAdd, AOp.kind, chkAll, chkSee, zP.down, zQ.down, zR.down, simprocAttr]; done)
              · have d3 : decide ((flen (vl s) : Int) < (s.length : Int)) = false := by simp; omega
                rw [if_neg hlt]
                simp -implicitDefEqProofs (disch := first | exact nbf rfl | exact nbt rfl | (simp only [ne_eq, reduceCtorEq, not_false_eq_true]; done) | omega | (simp -implicitDefEqProofs only [zN.down] <;> omega) | fail) only [g0, g4, g5, g6, g10, d3, XOp.kind, reduceCtorEq, V.bool, V.i64, aUn, aBox, aLoad, aArrAddr, aFold, aEqV, chkAdd, effAdd, AOp.kind, chkAll, chkSee, zP.down, zQ.down, zR.down, simprocAttr]
                left
                refine ⟨_, _, rfl, hdr6, hb6, kp6, ?_, ?_, ?_⟩
                all_goals (simp -implicitDefEqProofs (disch := first | exact nbf rfl | exact nbt rfl | (simp only [ne_eq, reduceCtorEq, not_false_eq_true]; done) | omega | (simp -implicitDefEqProofs only [zN.down] <;> omega) | fail) only [g0, g4, g5, XOp.kind, reduceCtorEq, V.bool, V.i64, aUn, aBox, aLoad, aArrAddr, aFold, aEqV, chkAdd, effAdd, AOp.kind, chkAll, chkSee, zP.down, zQ.down, zR.down, simprocAttr]; done)
        · rintro _ (⟨ρ', σ', rfl, hz, hdr', hbr', kp', f0, f4, f5⟩ | ⟨ρ', σ', rfl, hz, f2, f3, hdr', kp'⟩)
          · rw [if_neg (by simp [hz])] at hv
            simp -implicitDefEqProofs (disch := first | exact nbf rfl | exact nbt rfl | (simp only [ne_eq, reduceCtorEq, not_false_eq_true]; done) | omega | (simp -implicitDefEqProofs only [zN.down] <;> omega) | fail) only [f0, f4, f5, w5, XOp.kind, reduceCtorEq, V.bool, V.i64, aUn, aBox, aLoad, aArrAddr, aFold, aEqV, chkAdd, effAdd, AOp.kind, chkAll, chkSee, zP.down, zQ.down, zR.down, simprocAttr]
            exact ⟨2 - (j + 1), by omega, j + 1, (vfile M' x j).1, (vfile M' x j).2.1, rfl, by omega, hv.symm, hMf.more (by omega), hdr', hbr', kp', rfl⟩
          · rw [if_pos hz] at hv
            simp -implicitDefEqProofs (disch := first | exact nbf rfl | exact nbt rfl | (simp only [ne_eq, reduceCtorEq, not_false_eq_true]; done) | omega | (simp -implicitDefEqProofs only [zN.down] <;> omega) | fail) only [XOp.kind, reduceCtorEq, V.bool, V.i64, aUn, aBox, aLoad, aArrAddr, aFold, aEqV, chkAdd, effAdd, AOp.kind, chkAll, chkSee, zP.down, zQ.down, zR.down, simprocAttr]
            right
            exact ⟨ρ', σ', rfl, by rw [hv]; exact hz, f2, by rw [hv]; exact f3, by rw [hv]; exact hdr', kp'⟩
      · have c1 : decide ((j : Int) < 2) = false := by simp; omega
        have : j = 2 := by omega
        subst this
        have hrest : (M', x, (0 : Int)) = A := hrest
        simp -implicitDefEqProofs (disch := first | exact nbf rfl | exact nbt rfl | (simp only [ne_eq, reduceCtorEq, not_false_eq_true]; done) | omega | (simp -implicitDefEqProofs only [zN.down] <;> omega) | fail) only [c1, e5, XOp.kind, reduceCtorEq, V.bool, V.i64, aUn, aBox, aLoad, aArrAddr, aFold, aEqV, chkAdd, effAdd, AOp.kind, chkAll, chkSee, zP.down, zQ.down, zR.down, simprocAttr]
        left
        refine ⟨_, _, rfl, by rw [← hrest], ?_, by rw [← hrest]; exact hbr, by rw [← hrest]; exact hdr, kp⟩
        simp -implicitDefEqProofs (disch := first | exact nbf rfl | exact nbt rfl | (simp only [ne_eq, reduceCtorEq, not_false_eq_true]; done) | omega | (simp -implicitDefEqProofs only [zN.down] <;> omega) | fail) only [e4, XOp.kind, reduceCtorEq, V.bool, V.i64, aUn, aBox, aLoad, aArrAddr, aFold, aEqV, chkAdd, effAdd, AOp.kind, chkAll, chkSee, zP.down, zQ.down, zR.down, simprocAttr]
  · rintro _ (⟨ρ, σ', rfl, hz, e4, hb, hr, kp⟩ | ⟨ρ, σ', rfl, hz, e2, e3, hr, kp⟩)
    · simp -implicitDefEqProofs (disch := first | exact nbf rfl | exact nbt rfl | (simp only [ne_eq, reduceCtorEq, not_false_eq_true]; done) | omega | (simp -implicitDefEqProofs only [zN.down] <;> omega) | fail) only [e4, hz, XOp.kind, reduceCtorEq, V.bool, V.i64, aUn, aBox, aLoad, aArrAddr, aFold, aEqV, chkAdd, effAdd, AOp.kind, chkAll, chkSee, zP.down, zQ.down, zR.down, simprocAttr]
      exact ⟨σ.n, rfl, fun _ => ⟨hb, Nat.le_refl _⟩, hr, kp⟩
    · simp -implicitDefEqProofs (disch := first | exact nbf rfl | exact nbt rfl | (simp only [ne_eq, reduceCtorEq, not_false_eq_true]; done) | omega | (simp -implicitDefEqProofs only [zN.down] <;> omega) | fail) only [e2, e3, XOp.kind, reduceCtorEq, V.bool, V.i64, aUn, aBox, aLoad, aArrAddr, aFold, aEqV, chkAdd, effAdd, AOp.kind, chkAll, chkSee, zP.down, zQ.down, zR.down, simprocAttr]
      exact ⟨0, by rw [if_neg hz], fun h => absurd h hz, hr, kp⟩
end Go.Proofs.Ytllkidpebjgkeaa.vt
namespace Go.Proofs.Ytllkidpebjgkeaa.vt
open Go.Ab fr dk
set_option maxRecDepth 100000
set_option maxHeartbeats 8000000
set_option linter.unusedSimpArgs false
set_option linter.unusedVariables false

theorem rwrite_ok (k : Nat) (ys : YlF) (σ : St) (b d : Nat) (x : VB) (M : DM) (t w : Int) (hb : BR σ b d x) (hd : dk.RR σ d M) (hbd : b ≠ d) {B : Nat} (hm : M.Ok B) (hB : B ≤ 999990) (hxc : x.c ≤ 4611686018427387904) (hxf : x.f ≤ 1) (hxn : x.n ≤ 1000000) (hxw : -1 ≤ x.w) (hk : 3200000 ≤ k) :
    W (callY Tab.tb (k + 6) ys 22 [.ptr b 0, .agg [.sc (.int .i64 t), .sc (.int .i64 w)]] σ) fun r => r.1 = .sc (.int .i64 (vwrite M x t w).2.2) ∧ BR r.2 b d (vwrite M x t w).2.1 ∧ dk.RR r.2 d (vwrite M x t w).1 ∧ Kept (fun o => o = d ∨ o = b) σ r.2 := by
  rw [s_call (af := Tab.b22) rfl (Nat.le_of_ble_eq_true rfl)]
  have hmay := fun σ t w => rmay_ok (k + 4) ys σ t w
  have hsee := fun σ M f h B hm hB => rsee_ok (B := B) (k + 2) ys σ d M f h hm hB (by omega)
  have hch := fun σ M f c h B hm hB hs => rchange_ok (B := B) (k + 1) ys σ d M f c h hm hB (by omega) hs
  have hsy := fun σ M f h B hm hB => rsync_ok (B := B) (k + 2) ys σ d M f h hm hB (by omega)
  have hfr := fun σ c t w hc ht hw => rframe_ok k ys σ c t w hc ht hw (by omega)
  generalize callY Tab.tb (k + 5) = cy at hmay hsee hch hsy hfr ⊢
  have lb := St.get_lt hb
  have ld := hd.lt
  have hb' := hb
  unfold BR vcells at hb'
  unfold vwrite
  by_cases c0 : x.br = 0
  · have d0 : (x.br != 0) = false := by simp [c0]
    rw [if_neg (by simp [c0])]
    by_cases c1 : vmay t w
    · have m1 : decide (vmay t w) = true := by simpa using c1
      rw [if_neg (by simp [c1])]
      have ret : ∀ σ', Kept noX σ σ' → BR σ' b d x ∧ dk.RR σ' d M ∧ Kept (fun o => o = d ∨ o = b) σ σ' := fun σ' kb => ⟨kb.get _ _ (fun h => h) hb, hd.kept kb (fun h => h), kb.any⟩
      by_cases c2 : t < x.t
      · have d2 : decide (t < x.t) = true := by simpa using c2
        rw [if_pos (.inl c2)]
        simp -implicitDefEqProofs (disch := first | exact nbf rfl | exact nbt rfl | (simp only [ne_eq, reduceCtorEq, not_false_eq_true]; done) | omega | (simp -implicitDefEqProofs only [zN.down] <;> omega) | fail) only [Tab.b22, hb', d0, hmay, m1, d2, XOp.kind, reduceCtorEq, V.bool, V.i64, aUn, aBox, aLoad, aArrAddr, aFold, chkAdd, effAdd, AOp.kind, chkAll, chkSee, zP.down, zQ.down, zR.down, simprocAttr]
        exact ret _ (by ((repeat (first | refine Kept.push ?_ _ | refine Kept.bump ?_ | refine Kept.put ?_ (.inr (by omega)) (by first | omega | (simp only [St.n_put, St.n_push]; omega)) _)); first | exact Kept.refl _ _ | assumption))
      have d2 : decide (t < x.t) = false := by simpa using c2
      by_cases c3 : t = x.t ∧ w ≠ x.w ∧ x.w ≥ 0
      · have d3 : (t == x.t) = true := by simp [c3.1]
        have d4 : (x.w != -1) = true := by simp; omega
        have d5 : (x.w != w) = true := by simp; omega
        rw [if_pos (.inr c3)]
        simp -implicitDefEqProofs (disch := first | exact nbf rfl | exact nbt rfl | (simp only [ne_eq, reduceCtorEq, not_false_eq_true]; done) | omega | (simp -implicitDefEqProofs only [zN.down] <;> omega) | fail) only [Tab.b22, hb', d0, hmay, m1, d2, d3, d4, d5, XOp.kind, reduceCtorEq, V.bool, V.i64, aUn, aBox, aLoad, aArrAddr, aFold, chkAdd, effAdd, AOp.kind, chkAll, chkSee, zP.down, zQ.down, zR.down, simprocAttr]
        exact ret _ (by ((repeat (first | refine Kept.push ?_ _ | refine Kept.bump ?_ | refine Kept.put ?_ (.inr (by omega)) (by first | omega | (simp only [St.n_put, St.n_push]; omega)) _)); first | exact Kept.refl _ _ | assumption))
      rw [if_neg (fun h => h.elim c2 c3)]
      by_cases c4 : t = x.t ∧ w = x.w
      · have d3 : (t == x.t) = true := by simp [c4.1]
        have d5 : (x.w != w) = false := by simp [c4.2]
        have d6 : (w == x.w) = true := by simp [c4.2]
        rw [if_pos c4]
        cases d4 : (x.w != -1) with
        | true =>
          simp -implicitDefEqProofs (disch := first | exact nbf rfl | exact nbt rfl | (simp only [ne_eq, reduceCtorEq, not_false_eq_true]; done) | omega | (simp -implicitDefEqProofs only [zN.down] <;> omega) | fail) only [Tab.b22, hb', d0, hmay, m1, d2, d3, d4, d5, eq2, d6, XOp.kind, reduceCtorEq, V.bool, V.i64, aUn, aBox, aLoad, aArrAddr, aFold, chkAdd, effAdd, AOp.kind, chkAll, chkSee, zP.down, zQ.down, zR.down, simprocAttr]
          exact ret _ (by ((repeat (first | refine Kept.push ?_ _ | refine Kept.bump ?_ | refine Kept.put ?_ (.inr (by omega)) (by first | omega | (simp only [St.n_put, St.n_push]; omega)) _)); first | exact Kept.refl _ _ | assumption))
        | false =>
          simp -implicitDefEqProofs (disch := first | exact nbf rfl | exact nbt rfl | (simp only [ne_eq, reduceCtorEq, not_false_eq_true]; done) | omega | (simp -implicitDefEqProofs only [zN.down] <;> omega) | fail) only [Tab.b22, hb', d0, hmay, m1, d2, d3, d4, eq2, d6, XOp.kind, reduceCtorEq, V.bool, V.i64, aUn, aBox, aLoad, aArrAddr, aFold, chkAdd, effAdd, AOp.kind, chkAll, chkSee, zP.down, zQ.down, zR.down, simprocAttr]
          exact ret _ (by ((repeat (first | refine Kept.push ?_ _ | refine Kept.bump ?_ | refine Kept.put ?_ (.inr (by omega)) (by first | omega | (simp only [St.n_put, St.n_push]; omega)) _)); first | exact Kept.refl _ _ | assumption))
      rw [if_neg c4]
      have cont : ∃ b1, (t == x.t) = b1 ∧ (b1 = true → (x.w != -1) = false ∧ (w == x.w) = false) := by
        refine ⟨_, rfl, fun h => ?_⟩
        have h1 : t = x.t := by simpa using h
        have h2 : w ≠ x.w := fun h2 => c4 ⟨h1, h2⟩
        have h3 : x.w = -1 := by
          by_cases h3 : x.w ≥ 0
          · exact absurd ⟨h1, h2, h3⟩ c3
          · omega
        exact ⟨by rw [h3]; rfl, by simp [h2]⟩
      obtain ⟨b1, hb1, hb2⟩ := cont
      by_cases c5 : x.c = 4611686018427387904
      · have d7 : ((x.c : Int) == 4611686018427387904) = true := by simp; omega
        rw [if_pos c5]
        cases b1 with
        | true =>
          obtain ⟨hb3, hb4⟩ := hb2 rfl
          simp -implicitDefEqProofs (disch := first | exact nbf rfl | exact nbt rfl | (simp only [ne_eq, reduceCtorEq, not_false_eq_true]; done) | omega | (simp -implicitDefEqProofs only [zN.down] <;> omega) | fail) only [Tab.b22, hb', d0, hmay, m1, d2, hb1, hb3, eq2, hb4, d7, XOp.kind, reduceCtorEq, V.bool, V.i64, aUn, aBox, aLoad, aArrAddr, aFold, chkAdd, effAdd, AOp.kind, chkAll, chkSee, zP.down, zQ.down, zR.down, simprocAttr]
          exact ret _ (by ((repeat (first | refine Kept.push ?_ _ | refine Kept.bump ?_ | refine Kept.put ?_ (.inr (by omega)) (by first | omega | (simp only [St.n_put, St.n_push]; omega)) _)); first | exact Kept.refl _ _ | assumption))
        | false =>
          simp -implicitDefEqProofs (disch := first | exact nbf rfl | exact nbt rfl | (simp only [ne_eq, reduceCtorEq, not_false_eq_true]; done) | omega | (simp -implicitDefEqProofs only [zN.down] <;> omega) | fail) only [Tab.b22, hb', d0, hmay, m1, d2, hb1, eq2, Bool.false_and, d7, XOp.kind, reduceCtorEq, V.bool, V.i64, aUn, aBox, aLoad, aArrAddr, aFold, chkAdd, effAdd, AOp.kind, chkAll, chkSee, zP.down, zQ.down, zR.down, simprocAttr]
          exact ret _ (by ((repeat (first | refine Kept.push ?_ _ | refine Kept.bump ?_ | refine Kept.put ?_ (.inr (by omega)) (by first | omega | (simp only [St.n_put, St.n_push]; omega)) _)); first | exact Kept.refl _ _ | assumption))
      have d7 : ((x.c : Int) == 4611686018427387904) = false := by simp only [beq_eq_false_iff_ne, ne_eq]; omega
      rw [if_neg c5]
      obtain ⟨E, hE⟩ : ∃ E : DM × VB × Int, E = (if x.n ≥ 8 then
    (if (M.change (1 - x.f : Nat) ⟨3, [], 0⟩).2 ≠ 0 ∧ (M.change (1 - x.f : Nat) ⟨3, [], 0⟩).2 ≠ 4 then ((M.change (1 - x.f : Nat) ⟨3, [], 0⟩).1, { x with br := (M.change (1 - x.f : Nat) ⟨3, [], 0⟩).2 }, (M.change (1 - x.f : Nat) ⟨3, [], 0⟩).2)
     else vput (M.change (1 - x.f : Nat) ⟨3, [], 0⟩).1 x t w (1 - x.f) 0)
  else vput M x t w x.f x.n) := ⟨_, rfl⟩
      rw [← hE]
      simp -implicitDefEqProofs (disch := first | exact nbf rfl | exact nbt rfl | (simp only [ne_eq, reduceCtorEq, not_false_eq_true]; done) | omega | (simp -implicitDefEqProofs only [zN.down] <;> omega) | fail) only [Tab.b22, hb', d0, hmay, m1, d2, XOp.kind, reduceCtorEq, V.bool, V.i64, aUn, aBox, aLoad, aArrAddr, aFold, chkAdd, effAdd, AOp.kind, chkAll, chkSee, zP.down, zQ.down, zR.down, simprocAttr]
      refine w_fin ?_
      refine w_seq ?_
      refine W.mono (Q := fun r => ∃ (ρ : Env) (σ' : St), r = ((.normal : Ex), ρ, σ') ∧ Kept noX σ σ' ∧ ρ 0 = .ptr b 0 ∧ ρ 3 = .agg [.sc (.int .i64 t), .sc (.int .i64 w)]) ?_ ?_
      · cases b1 with
        | true =>
          obtain ⟨hb3, hb4⟩ := hb2 rfl
          simp -implicitDefEqProofs (disch := first | exact nbf rfl | exact nbt rfl | (simp only [ne_eq, reduceCtorEq, not_false_eq_true]; done) | omega | (simp -implicitDefEqProofs only [zN.down] <;> omega) | fail) only [hb', d2, hb1, hb3, eq2, hb4, d7, XOp.kind, reduceCtorEq, V.bool, V.i64, aUn, aBox, aLoad, aArrAddr, aFold, chkAdd, effAdd, AOp.kind, chkAll, chkSee, zP.down, zQ.down, zR.down, simprocAttr]
          refine ⟨_, _, rfl, by ((repeat (first | refine Kept.push ?_ _ | refine Kept.bump ?_ | refine Kept.put ?_ (.inr (by omega)) (by first | omega | (simp only [St.n_put, St.n_push]; omega)) _)); first | exact Kept.refl _ _ | assumption), ?_, ?_⟩
          all_goals (simp -implicitDefEqProofs (disch := first | exact nbf rfl | exact nbt rfl | (simp only [ne_eq, reduceCtorEq, not_false_eq_true]; done) | omega | (simp -implicitDefEqProofs only [zN.down] <;> omega) | fail) only [XOp.kind, reduceCtorEq, V.bool, V.i64, aUn, aBox, aLoad, aArrAddr, aFold, aEqV, chkAdd, effAdd, AOp.kind, chkAll, chkSee, zP.down, zQ.down, zR.down, simprocAttr]; done)
        | false =>
          simp -implicitDefEqProofs (disch := first | exact nbf rfl | exact nbt rfl | (simp only [ne_eq, reduceCtorEq, not_false_eq_true]; done) | omega | (simp -implicitDefEqProofs only [zN.down] <;> omega) | fail) only [hb', d2, hb1, eq2, Bool.false_and, d7, XOp.kind, reduceCtorEq, V.bool, V.i64, aUn, aBox, aLoad, aArrAddr, aFold, chkAdd, effAdd, AOp.kind, chkAll, chkSee, zP.down, zQ.down, zR.down, simprocAttr]
          refine ⟨_, _, rfl, by ((repeat (first | refine Kept.push ?_ _ | refine Kept.bump ?_ | refine Kept.put ?_ (.inr (by omega)) (by first | omega | (simp only [St.n_put, St.n_push]; omega)) _)); first | exact Kept.refl _ _ | assumption), ?_, ?_⟩
          all_goals (simp -implicitDefEqProofs (disch := first | exact nbf rfl | exact nbt rfl | (simp only [ne_eq, reduceCtorEq, not_false_eq_true]; done) | omega | (simp -implicitDefEqProofs only [zN.down] <;> omega) | fail) only [XOp.kind, reduceCtorEq, V.bool, V.i64, aUn, aBox, aLoad, aArrAddr, aFold, aEqV, chkAdd, effAdd, AOp.kind, chkAll, chkSee, zP.down, zQ.down, zR.down, simprocAttr]; done)
      · rintro _ ⟨ρ, S, rfl, kb, e0, e3⟩
        have sb : BR S b d x := kb.get _ _ (fun h => h) hb
        have sd := hd.kept kb (fun h => h)
        have sb' := sb
        unfold BR vcells at sb'
        simp -implicitDefEqProofs (disch := first | exact nbf rfl | exact nbt rfl | (simp only [ne_eq, reduceCtorEq, not_false_eq_true]; done) | omega | (simp -implicitDefEqProofs only [zN.down] <;> omega) | fail) only [e0, e3, sb', XOp.kind, reduceCtorEq, V.bool, V.i64, aUn, aBox, aLoad, aArrAddr, aFold, aEqV, chkAdd, effAdd, AOp.kind, chkAll, chkSee, zP.down, zQ.down, zR.down, simprocAttr]
        refine w_seq ?_
        refine W.mono (Q := fun r => ∃ (ρ : Env) (σ1 : St) (M1 : DM) (f1 n1 : Nat) (e : Int), r = ((.normal : Ex), ρ, σ1) ∧ (e ≠ 0 → E = (M1, { x with br := e }, e)) ∧ (e = 0 → E = vput M1 x t w f1 n1) ∧ f1 ≤ 1 ∧ n1 ≤ 1000000 ∧ M1.Ok (B + 1) ∧ dk.RR σ1 d M1 ∧ BR σ1 b d x ∧ Kept (fun o => o = d ∨ o = b) σ σ1 ∧ ρ 0 = .ptr b 0 ∧ ρ 3 = .agg [.sc (.int .i64 t), .sc (.int .i64 w)] ∧ ρ 5 = .sc (.int .i64 f1) ∧ ρ 6 = .sc (.int .i64 n1) ∧ ρ 7 = .sc (.int .i64 e)) ?_ ?_
        · by_cases c8 : x.n ≥ 8
          · have d8 : decide ((x.n : Int) ≥ 8) = true := by simp; omega
            have w8 : IntKind.i64.wrap (1 - (x.f : Int)) = ((1 - x.f : Nat) : Int) := by rw [wrap64 (by omega) (by omega)]; omega
            rw [if_pos c8] at hE
            generalize 1 - x.f = g at *
            have hg : g ≤ 1 := by
              have := w8
              rw [wrap64 (by omega) (by omega)] at this
              omega
            simp -implicitDefEqProofs (disch := first | exact nbf rfl | exact nbt rfl | (simp only [ne_eq, reduceCtorEq, not_false_eq_true]; done) | omega | (simp -implicitDefEqProofs only [zN.down] <;> omega) | fail) only [d8, w8, e0, e3, sb', XOp.kind, reduceCtorEq, V.bool, V.i64, aUn, aBox, aLoad, aArrAddr, aFold, aEqV, chkAdd, effAdd, AOp.kind, chkAll, chkSee, zP.down, zQ.down, zR.down, simprocAttr]
            repeat (first | refine w_fin ?_ | refine w_seq ?_ | refine w_block ?_ | refine w_reg ?_ | refine w_op ?_ | refine w_dop ?_)
            refine (hsee S M (g : Int) sd B hm (by omega)).mono ?_
            rintro ⟨_, S1⟩ ⟨rfl, k1⟩
            dsimp only at k1
            have ub : BR S1 b d x := k1.get _ _ (fun h => h) sb
            have ud := sd.kept k1 (fun h => h)
            have kk1 := kb.trans k1
            have ub' := ub
            unfold BR vcells at ub'
            have hsn : M.see (g : Int) = (M.f g).seen := by rw [see_in (by omega) (by omega), Int.toNat_natCast]
            cases hth : (M.f g).seen.there with
            | true =>
              have f2 := hch S1 M (g : Int) ⟨3, [], 0⟩ ud B hm (by omega) (by simp)
              unfold chc at f2
              have hmo := hm.change (f := (g : Int)) (c := ⟨3, [], 0⟩) (.inr (.inr rfl))
              have h4 : (M.change (g : Int) ⟨3, [], 0⟩).2 ≠ 4 := by
                by_cases hp : M.power = 0
                · rw [change_0 hp]; exact (by decide : (40 : Int) ≠ 4)
                · have hmay : M.may g ⟨3, [], 0⟩ = 0 := by
                    unfold DM.may
                    rw [hsn, hth]
                    simp
                  rw [change_y hp (by omega) hmay]; exact (by decide : (0 : Int) ≠ 4)
              simp -implicitDefEqProofs (disch := first | exact nbf rfl | exact nbt rfl | (simp only [ne_eq, reduceCtorEq, not_false_eq_true]; done) | omega | (simp -implicitDefEqProofs only [zN.down] <;> omega) | fail) only [e0, e3, ub', s2c, hsn, hth, XOp.kind, reduceCtorEq, V.bool, V.i64, aUn, aBox, aLoad, aArrAddr, aFold, aEqV, chkAdd, effAdd, AOp.kind, chkAll, chkSee, zP.down, zQ.down, zR.down, simprocAttr]
              repeat (first | refine w_fin ?_ | refine w_seq ?_ | refine w_block ?_ | refine w_reg ?_ | refine w_op ?_ | refine w_dop ?_)
              refine f2.mono ?_
              rintro ⟨_, S2⟩ ⟨rfl, vd, k2⟩
              dsimp only at vd k2
              generalize M.change (g : Int) ⟨3, [], 0⟩ = r at *
              have vb : BR S2 b d x := k2.get _ _ hbd ub
              simp -implicitDefEqProofs (disch := first | exact nbf rfl | exact nbt rfl | (simp only [ne_eq, reduceCtorEq, not_false_eq_true]; done) | omega | (simp -implicitDefEqProofs only [zN.down] <;> omega) | fail) only [e0, e3, XOp.kind, reduceCtorEq, V.bool, V.i64, aUn, aBox, aLoad, aArrAddr, aFold, aEqV, chkAdd, effAdd, AOp.kind, chkAll, chkSee, zP.down, zQ.down, zR.down, simprocAttr]
              refine ⟨_, _, r.1, g, 0, r.2, rfl, fun h => by rw [hE, if_pos ⟨h, h4⟩], fun h => by rw [hE, if_neg (fun h' => h'.1 h)], hg, by omega, hmo, vd, vb, kk1.any.trans (k2.sub fun o h => .inl h), ?_, ?_, ?_, ?_, ?_⟩
              all_goals (simp -implicitDefEqProofs (disch := first | exact nbf rfl | exact nbt rfl | (simp only [ne_eq, reduceCtorEq, not_false_eq_true]; done) | omega | (simp -implicitDefEqProofs only [zN.down] <;> omega) | fail) only [e0, e3, XOp.kind, reduceCtorEq, V.bool, V.i64, aUn, aBox, aLoad, aArrAddr, aFold, aEqV, chkAdd, effAdd, AOp.kind, chkAll, chkSee, zP.down, zQ.down, zR.down, simprocAttr]; done)
            | false =>
              obtain ⟨cs, gcs, hcs⟩ := ud
              have hpw := hcs.p
              by_cases hp : M.power = 0
              · have d9 : (M.power == 0) = true := by simp [hp]
                have f2 := hch S1 M (g : Int) ⟨3, [], 0⟩ ⟨cs, gcs, hcs⟩ B hm (by omega) (by simp)
                unfold chc at f2
                rw [change_0 hp] at f2 hE
                simp -implicitDefEqProofs (disch := first | exact nbf rfl | exact nbt rfl | (simp only [ne_eq, reduceCtorEq, not_false_eq_true]; done) | omega | (simp -implicitDefEqProofs only [zN.down] <;> omega) | fail) only [e0, e3, ub', s2c, hsn, hth, gcs, hpw, d9, XOp.kind, reduceCtorEq, V.bool, V.i64, aUn, aBox, aLoad, aArrAddr, aFold, aEqV, chkAdd, effAdd, AOp.kind, chkAll, chkSee, zP.down, zQ.down, zR.down, simprocAttr]
                repeat (first | refine w_fin ?_ | refine w_seq ?_ | refine w_block ?_ | refine w_reg ?_ | refine w_op ?_ | refine w_dop ?_)
                refine f2.mono ?_
                rintro ⟨_, S2⟩ ⟨rfl, vd, k2⟩
                dsimp only at vd k2
                have vb : BR S2 b d x := k2.get _ _ hbd ub
                simp -implicitDefEqProofs (disch := first | exact nbf rfl | exact nbt rfl | (simp only [ne_eq, reduceCtorEq, not_false_eq_true]; done) | omega | (simp -implicitDefEqProofs only [zN.down] <;> omega) | fail) only [e0, e3, XOp.kind, reduceCtorEq, V.bool, V.i64, aUn, aBox, aLoad, aArrAddr, aFold, aEqV, chkAdd, effAdd, AOp.kind, chkAll, chkSee, zP.down, zQ.down, zR.down, simprocAttr]
                refine ⟨_, _, M, g, 0, 40, rfl, fun h => by rw [hE, if_pos (show (40 : Int) ≠ 0 ∧ (40 : Int) ≠ 4 by decide)], fun h => absurd h (by decide), hg, by omega, hm.more (by omega), vd, vb, kk1.any.trans (k2.sub fun o h => .inl h), ?_, ?_, ?_, ?_, ?_⟩
                all_goals (simp -implicitDefEqProofs (disch := first | exact nbf rfl | exact nbt rfl | (simp only [ne_eq, reduceCtorEq, not_false_eq_true]; done) | omega | (simp -implicitDefEqProofs only [zN.down] <;> omega) | fail) only [e0, e3, XOp.kind, reduceCtorEq, V.bool, V.i64, aUn, aBox, aLoad, aArrAddr, aFold, aEqV, chkAdd, effAdd, AOp.kind, chkAll, chkSee, zP.down, zQ.down, zR.down, simprocAttr]; done)
              · have d9 : (M.power == 0) = false := by simp [hp]
                have hmay : M.may g ⟨3, [], 0⟩ = 4 := by
                  unfold DM.may
                  rw [hsn, hth]
                  simp
                rw [change_e hp (by omega) (by rw [hmay]; decide), hmay] at hE
                simp -implicitDefEqProofs (disch := first | exact nbf rfl | exact nbt rfl | (simp only [ne_eq, reduceCtorEq, not_false_eq_true]; done) | omega | (simp -implicitDefEqProofs only [zN.down] <;> omega) | fail) only [e0, e3, ub', s2c, hsn, hth, gcs, hpw, d9, XOp.kind, reduceCtorEq, V.bool, V.i64, aUn, aBox, aLoad, aArrAddr, aFold, aEqV, chkAdd, effAdd, AOp.kind, chkAll, chkSee, zP.down, zQ.down, zR.down, simprocAttr]
                refine ⟨_, _, M, g, 0, 0, rfl, fun h => absurd rfl h, fun h => by rw [hE, if_neg (show ¬ ((4 : Int) ≠ 0 ∧ (4 : Int) ≠ 4) by decide)], hg, by omega, hm.more (by omega), ⟨cs, gcs, hcs⟩, ub, kk1.any, ?_, ?_, ?_, ?_, ?_⟩
                all_goals (simp -implicitDefEqProofs (disch := first | exact nbf rfl | exact nbt rfl | (simp only [ne_eq, reduceCtorEq, not_false_eq_true]; done) | omega | (simp -implicitDefEqProofs only [zN.down] <;> omega) | fail) only [e0, e3, XOp.kind, reduceCtorEq, V.bool, V.i64, aUn, aBox, aLoad, aArrAddr, aFold, aEqV, chkAdd, effAdd, AOp.kind, chkAll, chkSee, zP.down, zQ.down, zR.down, simprocAttr]; done)
          · have d8 : decide ((x.n : Int) ≥ 8) = false := by simp; omega
            rw [if_neg c8] at hE
            simp -implicitDefEqProofs (disch := first | exact nbf rfl | exact nbt rfl | (simp only [ne_eq, reduceCtorEq, not_false_eq_true]; done) | omega | (simp -implicitDefEqProofs only [zN.down] <;> omega) | fail) only [d8, XOp.kind, reduceCtorEq, V.bool, V.i64, aUn, aBox, aLoad, aArrAddr, aFold, aEqV, chkAdd, effAdd, AOp.kind, chkAll, chkSee, zP.down, zQ.down, zR.down, simprocAttr]
            refine ⟨_, _, M, x.f, x.n, 0, rfl, fun h => absurd rfl h, fun _ => hE, hxf, hxn, hm.more (by omega), sd, sb, kb.any, ?_, ?_, ?_, ?_, ?_⟩
            all_goals (simp -implicitDefEqProofs (disch := first | exact nbf rfl | exact nbt rfl | (simp only [ne_eq, reduceCtorEq, not_false_eq_true]; done) | omega | (simp -implicitDefEqProofs only [zN.down] <;> omega) | fail) only [e0, e3, XOp.kind, reduceCtorEq, V.bool, V.i64, aUn, aBox, aLoad, aArrAddr, aFold, aEqV, chkAdd, effAdd, AOp.kind, chkAll, chkSee, zP.down, zQ.down, zR.down, simprocAttr]; done)
        · rintro _ ⟨ρ, σ1, M1, f1, n1, e, rfl, he1, he2, hf1, hn1, hm1, vd, vb, kW, e0, e3, e5, e6, e7⟩
          clear hE
          have vb' := vb
          unfold BR vcells at vb'
          have lvb := St.get_lt vb
          by_cases ce : e = 0
          · have de : (e == 0) = true := by simp [ce]
            have hvp := (he2 ce).symm
            unfold vput at hvp
            have cm := c1
            unfold vmay at cm
            have wc : IntKind.u64.wrap ((x.c : Int) + 1) = ((x.c + 1 : Nat) : Int) := by
              rw [show (x.c : Int) + 1 = ((x.c + 1 : Nat) : Int) by omega]; exact wrap_u64 (by omega)
            have f2 := hfr σ1 (x.c + 1) t.toNat w (by omega) (by omega) (by omega)
            rw [show ((t.toNat : Nat) : Int) = t by omega] at f2
            have hP : ((fput (vpay (x.c + 1) t.toNat (w + 1).toNat)).length : Int) ≤ 9223372036854775807 := by rw [fput_len, vpay_len]; decide
            generalize fput (vpay (x.c + 1) t.toNat (w + 1).toNat) = P at *
            simp -implicitDefEqProofs (disch := first | exact nbf rfl | exact nbt rfl | (simp only [ne_eq, reduceCtorEq, not_false_eq_true]; done) | omega | (simp -implicitDefEqProofs only [zN.down] <;> omega) | fail) only [de, e0, e3, e5, e6, e7, vb', wc, XOp.kind, reduceCtorEq, V.bool, V.i64, aUn, aBox, aLoad, aArrAddr, aFold, aEqV, chkAdd, effAdd, AOp.kind, chkAll, chkSee, zP.down, zQ.down, zR.down, simprocAttr]
            repeat (first | refine w_fin ?_ | refine w_seq ?_ | refine w_block ?_ | refine w_reg ?_ | refine w_op ?_ | refine w_dop ?_)
            refine f2.mono ?_
            rintro ⟨_, σ2⟩ ⟨rfl, k2⟩
            dsimp only at k2
            have vd2 := vd.kept k2 (fun h => h)
            have vb2 : BR σ2 b d x := k2.get _ _ (fun h => h) vb
            have kW2 := kW.trans k2.any
            have vb2' := vb2
            unfold BR vcells at vb2'
            have f3 := hch σ2 M1 f1 ⟨1, P, 0⟩ vd2 (B + 1) hm1 (by omega) hP
            unfold chc at f3
            have hmo := hm1.change (f := (f1 : Int)) (c := ⟨1, P, 0⟩) (.inl rfl)
            simp -implicitDefEqProofs (disch := first | exact nbf rfl | exact nbt rfl | (simp only [ne_eq, reduceCtorEq, not_false_eq_true]; done) | omega | (simp -implicitDefEqProofs only [zN.down] <;> omega) | fail) only [e0, e3, e5, e6, e7, vb', vb2', XOp.kind, reduceCtorEq, V.bool, V.i64, aUn, aBox, aLoad, aArrAddr, aFold, aEqV, chkAdd, effAdd, AOp.kind, chkAll, chkSee, zP.down, zQ.down, zR.down, simprocAttr]
            repeat (first | refine w_fin ?_ | refine w_seq ?_ | refine w_block ?_ | refine w_reg ?_ | refine w_op ?_ | refine w_dop ?_)
            refine f3.mono ?_
            rintro ⟨_, σ3⟩ ⟨rfl, vd3, k3⟩
            dsimp only at vd3 k3
            generalize M1.change f1 ⟨1, P, 0⟩ = q at *
            have vb3 : BR σ3 b d x := k3.get _ _ hbd vb2
            have kW3 := kW2.trans (k3.sub fun o h => .inl h)
            have vb3' := vb3
            unfold BR vcells at vb3'
            have lb3 := St.get_lt vb3
            by_cases q0 : q.2 = 0
            · have d9 : (q.2 == 0) = true := by simp [q0]
              rw [if_neg (by simp [q0])] at hvp
              have f4 := hsy σ3 q.1 f1 vd3 (B + 1 + 1) hmo (by omega)
              simp -implicitDefEqProofs (disch := first | exact nbf rfl | exact nbt rfl | (simp only [ne_eq, reduceCtorEq, not_false_eq_true]; done) | omega | (simp -implicitDefEqProofs only [zN.down] <;> omega) | fail) only [d9, e0, e3, e5, e6, vb', vb2', vb3', XOp.kind, reduceCtorEq, V.bool, V.i64, aUn, aBox, aLoad, aArrAddr, aFold, aEqV, chkAdd, effAdd, AOp.kind, chkAll, chkSee, zP.down, zQ.down, zR.down, simprocAttr]
              repeat (first | refine w_fin ?_ | refine w_seq ?_ | refine w_block ?_ | refine w_reg ?_ | refine w_op ?_ | refine w_dop ?_)
              refine f4.mono ?_
              rintro ⟨_, σ4⟩ ⟨rfl, vd4, k4⟩
              dsimp only at vd4 k4
              generalize q.1.sync f1 = z at *
              have vb4 : BR σ4 b d x := k4.get _ _ hbd vb3
              have kW4 := kW3.trans (k4.sub fun o h => .inl h)
              have vb4' := vb4
              unfold BR vcells at vb4'
              have lb4 := St.get_lt vb4
              by_cases z0 : z.2 = 0
              · have d10 : (z.2 != 0) = false := by simp [z0]
                rw [if_neg (by simp [z0])] at hvp
                have wn : IntKind.i64.wrap ((n1 : Int) + 1) = ((n1 + 1 : Nat) : Int) := wrap64 (by omega) (by omega)
                simp -implicitDefEqProofs (disch := first | exact nbf rfl | exact nbt rfl | (simp only [ne_eq, reduceCtorEq, not_false_eq_true]; done) | omega | (simp -implicitDefEqProofs only [zN.down] <;> omega) | fail) only [d10, e0, e3, e5, e6, vb4', wc, wn, XOp.kind, reduceCtorEq, V.bool, V.i64, aUn, aBox, aLoad, aArrAddr, aFold, aEqV, chkAdd, effAdd, AOp.kind, chkAll, chkSee, zP.down, zQ.down, zR.down, simprocAttr]
                rw [← hvp]
                refine ⟨rfl, ?_, ?_, ?_⟩
                · unfold BR vcells
                  dsimp only
                  rw [get_put_eq rfl (by simp; exact lb4), c0]
                · refine vd4.kept (X := (· = b)) ?_ (fun h => hbd h.symm)
                  have k0 : Kept (· = b) σ4 σ4 := Kept.refl _ _
                  exact (((k0.put (.inl rfl) lb4 _).put (.inl rfl) (by simp; exact lb4) _).put (.inl rfl) (by simp; exact lb4) _).put (.inl rfl) (by simp; exact lb4) _
                · exact (((kW4.put (.inl (.inr rfl)) lb4 _).put (.inl (.inr rfl)) (by simp; exact lb4) _).put (.inl (.inr rfl)) (by simp; exact lb4) _).put (.inl (.inr rfl)) (by simp; exact lb4) _
              · have d10 : (z.2 != 0) = true := by simp [z0]
                rw [if_pos z0] at hvp
                simp -implicitDefEqProofs (disch := first | exact nbf rfl | exact nbt rfl | (simp only [ne_eq, reduceCtorEq, not_false_eq_true]; done) | omega | (simp -implicitDefEqProofs only [zN.down] <;> omega) | fail) only [d10, e0, vb4', XOp.kind, reduceCtorEq, V.bool, V.i64, aUn, aBox, aLoad, aArrAddr, aFold, aEqV, chkAdd, effAdd, AOp.kind, chkAll, chkSee, zP.down, zQ.down, zR.down, simprocAttr]
                rw [← hvp]
                refine ⟨rfl, ?_, vd4.kept (X := (· = b)) (Kept.put (X := (· = b)) (Kept.refl _ _) (.inl rfl) lb4 _) (fun h => hbd h.symm), kW4.put (.inl (.inr rfl)) lb4 _⟩
                unfold BR vcells
                dsimp only
                rw [get_put_eq rfl lb4]
            · have d9 : (q.2 == 0) = false := by simp [q0]
              have d10 : (q.2 != 0) = true := by simp [q0]
              rw [if_pos q0] at hvp
              simp -implicitDefEqProofs (disch := first | exact nbf rfl | exact nbt rfl | (simp only [ne_eq, reduceCtorEq, not_false_eq_true]; done) | omega | (simp -implicitDefEqProofs only [zN.down] <;> omega) | fail) only [d9, d10, e0, e3, e5, e6, vb', vb2', vb3', XOp.kind, reduceCtorEq, V.bool, V.i64, aUn, aBox, aLoad, aArrAddr, aFold, aEqV, chkAdd, effAdd, AOp.kind, chkAll, chkSee, zP.down, zQ.down, zR.down, simprocAttr]
              rw [← hvp]
              refine ⟨rfl, ?_, vd3.kept (X := (· = b)) (Kept.put (X := (· = b)) (Kept.refl _ _) (.inl rfl) lb3 _) (fun h => hbd h.symm), kW3.put (.inl (.inr rfl)) lb3 _⟩
              unfold BR vcells
              dsimp only
              rw [get_put_eq rfl lb3]
          · have de : (e == 0) = false := by simp [ce]
            have d10 : (e != 0) = true := by simp [ce]
            have hE := he1 ce
            simp -implicitDefEqProofs (disch := first | exact nbf rfl | exact nbt rfl | (simp only [ne_eq, reduceCtorEq, not_false_eq_true]; done) | omega | (simp -implicitDefEqProofs only [zN.down] <;> omega) | fail) only [de, d10, e0, e3, e5, e6, e7, vb', XOp.kind, reduceCtorEq, V.bool, V.i64, aUn, aBox, aLoad, aArrAddr, aFold, aEqV, chkAdd, effAdd, AOp.kind, chkAll, chkSee, zP.down, zQ.down, zR.down, simprocAttr]
            rw [hE]
            refine ⟨rfl, ?_, vd.kept (X := (· = b)) (Kept.put (X := (· = b)) (Kept.refl _ _) (.inl rfl) lvb _) (fun h => hbd h.symm), kW.put (.inl (.inr rfl)) lvb _⟩
            unfold BR vcells
            dsimp only
            rw [get_put_eq rfl lvb]
    · have m1 : decide (vmay t w) = false := by simpa using c1
      rw [if_pos c1]
      simp -implicitDefEqProofs (disch := first | exact nbf rfl | exact nbt rfl | (simp only [ne_eq, reduceCtorEq, not_false_eq_true]; done) | omega | (simp -implicitDefEqProofs only [zN.down] <;> omega) | fail) only [Tab.b22, hb', d0, hmay, m1, XOp.kind, reduceCtorEq, V.bool, V.i64, aUn, aBox, aLoad, aArrAddr, aFold, chkAdd, effAdd, AOp.kind, chkAll, chkSee, zP.down, zQ.down, zR.down, simprocAttr]
      have kb : Kept noX σ σ.bump.bump := (Kept.refl _ _).bump.bump
      exact ⟨kb.get _ _ (fun h => h) hb, hd.kept kb (fun h => h), kb.any⟩
  · have d0 : (x.br != 0) = true := by simp [c0]
    rw [if_pos c0]
    simp -implicitDefEqProofs (disch := first | exact nbf rfl | exact nbt rfl | (simp only [ne_eq, reduceCtorEq, not_false_eq_true]; done) | omega | (simp -implicitDefEqProofs only [zN.down] <;> omega) | fail) only [Tab.b22, hb', d0, XOp.kind, reduceCtorEq, V.bool, V.i64, aUn, aBox, aLoad, aArrAddr, aFold, chkAdd, effAdd, AOp.kind, chkAll, chkSee, zP.down, zQ.down, zR.down, simprocAttr]
    have kb : Kept noX σ σ.bump := (Kept.refl _ _).bump
    exact ⟨kb.get _ _ (fun h => h) hb, hd.kept kb (fun h => h), kb.any⟩
end Go.Proofs.Ytllkidpebjgkeaa.vt
namespace Go.Proofs.Ytllkidpebjgkeaa.vt
open Go.Ab fr dk
set_option maxRecDepth 100000
set_option maxHeartbeats 8000000
set_option linter.unusedSimpArgs false
set_option linter.unusedVariables false

theorem i_and1 (n : Int) : IntKind.i64.wrap ((BitVec.ofInt IntKind.i64.bits n &&& BitVec.ofInt IntKind.i64.bits 1).toNat : Int) = (((n % 2).toNat : Nat) : Int) := by
  have h1 : (BitVec.ofInt IntKind.i64.bits n &&& BitVec.ofInt IntKind.i64.bits 1).toNat = (n % 2).toNat := by
    rw [BitVec.toNat_and]
    have e1 : (BitVec.ofInt IntKind.i64.bits 1).toNat = 1 := by decide
    rw [e1, Nat.and_one_is_mod]
    have e2 : (BitVec.ofInt IntKind.i64.bits n).toNat = (n % 18446744073709551616).toNat := by
      rw [BitVec.toNat_ofInt]; rfl
    rw [e2]
    omega
  rw [h1]
  exact wrap64 (by omega) (by omega)
structure BoxOk (x : VB) : Prop where
  c : x.c ≤ 4611686018427387904
  f : x.f ≤ 1
  n : x.n ≤ 1000000
  w : -1 ≤ x.w
theorem BoxOk.zero : BoxOk x0 := ⟨by simp [x0], by simp [x0], by simp [x0], by simp [x0]⟩
theorem vl_sub (s : List UInt8) : (∀ q ∈ vl s, vok q = true) ∧ flen (vl s) ≤ s.length := by
  have key : ∀ l : List (List UInt8), (∀ q ∈ l.takeWhile vok, vok q = true) ∧ flen (l.takeWhile vok) ≤ flen l := by
    intro l
    induction l with
    | nil => simp [flen]
    | cons p l ih =>
      cases hk : vok p with
      | true =>
        rw [List.takeWhile_cons, hk]
        simp only [if_true, flen]
        refine ⟨fun q hq => ?_, by omega⟩
        rcases List.mem_cons.1 hq with rfl | h
        · exact hk
        · exact ih.1 q h
      | false =>
        rw [List.takeWhile_cons, hk]
        simp [flen]
  have h := key (scan s)
  exact ⟨h.1, Nat.le_trans h.2 (flen_scan _ s (Nat.le_refl _))⟩
theorem vfold_box {f : Nat} (hf : f ≤ 1) : ∀ (l : List (List UInt8)) (x : VB), (∀ q ∈ l, vok q = true) → BoxOk x → BoxOk (vfold f x l) := by
  intro l
  induction l with
  | nil => intro x _ h; exact h
  | cons p l ih =>
    intro x hl h
    refine ih _ (fun q hq => hl q (List.mem_cons_of_mem _ hq)) ?_
    obtain ⟨h1, h2, h3, h4, h5⟩ := vok_iff.1 (hl p List.mem_cons_self)
    unfold vadd
    split
    · exact ⟨h3, hf, h.n, by dsimp only; omega⟩
    · exact h
theorem vfile_box {M : DM} {B : Nat} (hm : M.Ok B) {x : VB} (h : BoxOk x) {f : Nat} (hf : f ≤ 1) : BoxOk (vfile M x f).2.1 := by
  have hrl : (M.read f).1.length ≤ 1048576 := by
    unfold DM.read
    repeat' split
    all_goals first | (simp; done) | skip
    rename_i h1 _
    rw [see_in (by omega) (by omega)]
    exact (hm.f _ (by omega)).1.seen
  have h1 : BoxOk (vin x (vfold f x (vl (M.read f).1)) (vl (M.read f).1).length) := by
    obtain ⟨a1, a2⟩ := vl_sub (M.read f).1
    have a3 := flen_vok a1
    have h2 := vfold_box hf (vl (M.read f).1) x a1 h
    unfold vin
    split
    · exact ⟨h2.c, h2.f, by dsimp only; omega, h2.w⟩
    · exact h2
  unfold vfile
  repeat' split
  all_goals first | exact h | exact h1
theorem vopen_box {M : DM} {B : Nat} (hm : M.Ok B) : BoxOk (vopen M).2.1 := by
  unfold vopen
  split
  · exact BoxOk.zero
  · unfold vrest vrest vrest
    have h1 := vfile_box hm BoxOk.zero (f := 1 - 1) (by decide)
    split
    · exact h1
    · have h2 := vfile_box (vfile_ok hm x0 (1 - 1)) h1 (f := 1 - 0) (by decide)
      split
      · exact h2
      · exact h2
theorem vfile_0 {M : DM} (hp : M.power = -1) (x : VB) {f : Nat} (hf : f ≤ 1) : (vfile M x f).2.2 = 0 ∧ (vfile M x f).1.power = -1 := by
  have hp0 : M.power ≠ 0 := by omega
  unfold vfile
  rw [read_n hp0 (by omega)]
  cases ht : (M.f f).seen.there with
  | false => simp [hp]
  | true =>
    simp only [Bool.true_eq_false, if_false, (show ¬ ((0 : Int) = 4) by decide), ne_eq, not_true_eq_false]
    split
    · rename_i hlt
      have hmay : M.may f ⟨2, [], flen (vl (M.f f).seen.s)⟩ = 0 := by
        unfold DM.may
        rw [see_in (by omega) (by omega), Int.toNat_natCast]
        simp only [(show ¬ ((2 : Int) = 1) by decide), if_false, ht, Bool.true_eq_false, true_and]
        rw [if_neg (by omega)]
      rw [change_y hp0 (by omega) hmay]
      simp only [not_true_eq_false, if_false]
      rw [sync_y (by simp [DM.upd, DM.dn, hp]) (by omega)]
      simp [DM.upd, DM.dn, hp]
    · exact ⟨rfl, hp⟩
theorem vopen_0 {M : DM} (hp : M.power = -1) : (vopen M).2.2 = 0 := by
  unfold vopen
  rw [if_neg (by omega)]
  unfold vrest vrest vrest
  obtain ⟨h1, h2⟩ := vfile_0 hp x0 (f := 1 - 1) (by decide)
  obtain ⟨h3, h4⟩ := vfile_0 h2 (vfile M x0 (1 - 1)).2.1 (f := 1 - 0) (by decide)
  rw [if_neg (by simp [h1]), if_neg (by simp [h3])]
theorem vput_box {M : DM} {x : VB} (h : BoxOk x) {t w : Int} (hm : vmay t w) (hc : x.c < 4611686018427387904) {f n : Nat} (hf : f ≤ 1) (hn : n ≤ 999999) : BoxOk (vput M x t w f n).2.1 := by
  unfold vmay at hm
  unfold vput
  repeat' split
  all_goals first | exact ⟨h.c, h.f, h.n, h.w⟩ | exact ⟨by dsimp only; omega, hf, by dsimp only; omega, by dsimp only; omega⟩
theorem vwrite_box {M : DM} {x : VB} (h : BoxOk x) (t w : Int) : BoxOk (vwrite M x t w).2.1 := by
  have hc := h.c
  have hn := h.n
  have hf := h.f
  unfold vwrite
  split
  · exact h
  split
  · exact h
  rename_i _ hm
  have hm : vmay t w := by simpa using hm
  split
  · exact h
  split
  · exact h
  split
  · exact h
  rename_i hc2
  split
  · split
    · exact ⟨h.c, h.f, h.n, h.w⟩
    · exact vput_box h hm (by omega) (by omega) (by omega)
  · exact vput_box h hm (by omega) hf (by omega)

theorem eqb (σ : St) (a b : Bool) : aEqV σ .bool (.sc (.bool a)) (.sc (.bool b)) = some (a == b) := by simp [aEqV, aEqBool]
theorem plays_run (k : Nat) (σ0 : St) (x : V) (l : List Stp) (h : Scr x l) (hk : 9223372036854775808 ≤ k) (σ1 : St) (hw : callY Tab.tb (k + 7) noYl 8 [] σ0 = some (.sc (.bool true), σ1)) :
    W (callY Tab.tb (k + 8) noYl 6 [x] σ0) fun r => r.1 = .sc (.bool true) := by
  rw [s_call (af := Tab.b6) rfl (Nat.le_of_ble_eq_true rfl)]
  have hnew := fun σ => dk.new_ok (k + 6) noYl σ
  have hrnew := fun σ => dk.rnew_ok (k + 6) noYl σ
  have hheavy := fun σ => heavy_ok (k + 6) noYl σ x l h (by omega)
  have hpow := fun σ d M n h => power_ok (k + 6) noYl σ d M n h
  have hopen := fun σ d M h B hm hB => open_ok (B := B) (k + 1) noYl σ d M h hm hB (by omega)
  have hropen := fun σ d M h B hm hB => ropen_ok (B := B) k noYl σ d M h hm hB (by omega)
  have hnow := fun σ b d x h => now_ok (k + 6) noYl σ b d x h
  have hwrite := fun σ b d x M t w hb hd hbd B hm hB h1 h2 h3 => write_ok (B := B) k noYl σ b d x M t w hb hd hbd hm hB h1 h2 h3 (by omega)
  have hrwrite := fun σ b d x M t w hb hd hbd B hm hB h1 h2 h3 h4 => rwrite_ok (B := B) (k + 1) noYl σ b d x M t w hb hd hbd hm hB h1 h2 h3 h4 (by omega)
  have hcra := fun σ d M kv ks torn h hkv B hm hB => crash_ok (B := B) (k + 4) noYl σ d M kv ks torn h hkv hm hB (by omega)
  have hrcra := fun σ d M kv ks torn h hkv B hm hB => rcrash_ok (B := B) (k + 5) noYl σ d M kv ks torn h hkv hm hB (by omega)
  have happ := fun σ d M f s h B hm hB => append_ok (B := B) (k + 4) noYl σ d M f s h hm hB
  have hrch := fun σ d M f c h B hm hB hs => rchange_ok (B := B) (k + 3) noYl σ d M f c h hm hB (by omega) hs
  have hops := fun σ d M h => ops_ok (k + 6) noYl σ d M h
  have hsure := fun σ d M f h => dk.sure_ok (k + 5) noYl σ d M f h
  have hloose := fun σ d M f h => loose_ok (k + 5) noYl σ d M f h
  generalize callY Tab.tb (k + 7) = cy at hw hnew hrnew hheavy hpow hopen hropen hnow hwrite hrwrite hcra hrcra happ hrch hops hsure hloose ⊢
  have hlen := h.rv.len
  rw [List.length_map] at hlen
  have hsize := h.rv.size
  simp -implicitDefEqProofs (disch := first | exact nbf rfl | exact nbt rfl | (simp only [ne_eq, reduceCtorEq, not_false_eq_true]; done) | omega | (simp -implicitDefEqProofs only [zN.down] <;> omega) | fail) only [Tab.b6, hw, XOp.kind, reduceCtorEq, V.bool, V.i64, aUn, aBox, aLoad, aArrAddr, aFold, aEqV, chkAdd, effAdd, AOp.kind, chkAll, chkSee, zP.down, zQ.down, zR.down, simprocAttr]
  repeat (first | refine w_fin ?_ | refine w_seq ?_ | refine w_block ?_ | refine w_reg ?_ | refine w_op ?_ | refine w_dop ?_)
  refine (hheavy σ1).mono ?_
  rintro ⟨_, σ2⟩ ⟨hb, rfl, _, hh⟩
  cases hb with
  | true => simp -implicitDefEqProofs (disch := first | exact nbf rfl | exact nbt rfl | (simp only [ne_eq, reduceCtorEq, not_false_eq_true]; done) | omega | (simp -implicitDefEqProofs only [zN.down] <;> omega) | fail) only [XOp.kind, reduceCtorEq, V.bool, V.i64, aUn, aBox, aLoad, aArrAddr, aFold, aEqV, chkAdd, effAdd, AOp.kind, chkAll, chkSee, zP.down, zQ.down, zR.down, simprocAttr]
  | false =>
  obtain ⟨hl100, hs⟩ := hh rfl
  simp -implicitDefEqProofs (disch := first | exact nbf rfl | exact nbt rfl | (simp only [ne_eq, reduceCtorEq, not_false_eq_true]; done) | omega | (simp -implicitDefEqProofs only [zN.down] <;> omega) | fail) only [XOp.kind, reduceCtorEq, V.bool, V.i64, aUn, aBox, aLoad, aArrAddr, aFold, aEqV, chkAdd, effAdd, AOp.kind, chkAll, chkSee, zP.down, zQ.down, zR.down, simprocAttr]
  repeat (first | refine w_fin ?_ | refine w_seq ?_ | refine w_block ?_ | refine w_reg ?_ | refine w_op ?_ | refine w_dop ?_)
  refine (hnew σ2).mono ?_
  rintro ⟨_, σ3⟩ ⟨rfl, hd3, _, hn3⟩
  dsimp only at hd3 hn3
  simp -implicitDefEqProofs (disch := first | exact nbf rfl | exact nbt rfl | (simp only [ne_eq, reduceCtorEq, not_false_eq_true]; done) | omega | (simp -implicitDefEqProofs only [zN.down] <;> omega) | fail) only [XOp.kind, reduceCtorEq, V.bool, V.i64, aUn, aBox, aLoad, aArrAddr, aFold, aEqV, chkAdd, effAdd, AOp.kind, chkAll, chkSee, zP.down, zQ.down, zR.down, simprocAttr]
  repeat (first | refine w_fin ?_ | refine w_seq ?_ | refine w_block ?_ | refine w_reg ?_ | refine w_op ?_ | refine w_dop ?_)
  refine (hrnew σ3).mono ?_
  rintro ⟨_, σ4⟩ ⟨rfl, hr4, k4, hn4⟩
  dsimp only at hr4 k4 hn4
  have hd4 := hd3.kept k4 (fun h => h)
  have hdw : σ2.n ≠ σ3.n := by omega
  have ld : σ2.n < σ4.n := by omega
  have lw : σ3.n < σ4.n := by omega
  generalize σ2.n = d at *
  generalize σ3.n = w at *
  have z0 : D0.power = -1 := rfl
  have zz := vopen_0 z0
  have hM0 := vopen_ok (DM.Ok.zero 0)
  have hx0 := vopen_box (DM.Ok.zero 0)
  simp -implicitDefEqProofs (disch := first | exact nbf rfl | exact nbt rfl | (simp only [ne_eq, reduceCtorEq, not_false_eq_true]; done) | omega | (simp -implicitDefEqProofs only [zN.down] <;> omega) | fail) only [XOp.kind, reduceCtorEq, V.bool, V.i64, aUn, aBox, aLoad, aArrAddr, aFold, aEqV, chkAdd, effAdd, AOp.kind, chkAll, chkSee, zP.down, zQ.down, zR.down, simprocAttr]
  repeat (first | refine w_fin ?_ | refine w_seq ?_ | refine w_block ?_ | refine w_reg ?_ | refine w_op ?_ | refine w_dop ?_)
  refine (hopen σ4 d D0 hd4 0 (DM.Ok.zero 0) (by omega)).mono ?_
  rintro ⟨_, σ5⟩ ⟨b, rfl, hb5, hd5, k5⟩
  dsimp only at hb5 hd5 k5
  obtain ⟨hb5, hbn⟩ := hb5 zz
  rw [if_pos zz, zz]
  have hr5 := hr4.kept k5 (fun h => hdw h.symm)
  simp -implicitDefEqProofs (disch := first | exact nbf rfl | exact nbt rfl | (simp only [ne_eq, reduceCtorEq, not_false_eq_true]; done) | omega | (simp -implicitDefEqProofs only [zN.down] <;> omega) | fail) only [XOp.kind, reduceCtorEq, V.bool, V.i64, aUn, aBox, aLoad, aArrAddr, aFold, aEqV, chkAdd, effAdd, AOp.kind, chkAll, chkSee, zP.down, zQ.down, zR.down, simprocAttr]
  repeat (first | refine w_fin ?_ | refine w_seq ?_ | refine w_block ?_ | refine w_reg ?_ | refine w_op ?_ | refine w_dop ?_)
  refine (hropen σ5 w D0 hr5 0 (DM.Ok.zero 0) (by omega)).mono ?_
  rintro ⟨_, σ6⟩ ⟨y, rfl, hy6, hr6, k6⟩
  dsimp only at hy6 hr6 k6
  obtain ⟨hy6, hyn⟩ := hy6 zz
  rw [if_pos zz, zz]
  have hd6 := hd5.kept k6 hdw
  have lb := St.get_lt hb5
  have hb6 : BR σ6 b d (vopen D0).2.1 := k6.get _ _ (by omega) hb5
  have hby : b ≠ y := by omega
  have hne : b ≠ d ∧ b ≠ w ∧ y ≠ d ∧ y ≠ w := by have := k5.n; omega
  generalize vopen D0 = O at *
  simp -implicitDefEqProofs (disch := first | exact nbf rfl | exact nbt rfl | (simp only [ne_eq, reduceCtorEq, not_false_eq_true]; done) | omega | (simp -implicitDefEqProofs only [zN.down] <;> omega) | fail) only [hlen, XOp.kind, reduceCtorEq, V.bool, V.i64, aUn, aBox, aLoad, aArrAddr, aFold, aEqV, chkAdd, effAdd, AOp.kind, chkAll, chkSee, zP.down, zQ.down, zR.down, simprocAttr]
  repeat (first | refine w_fin ?_ | refine w_seq ?_ | refine w_block ?_ | refine w_reg ?_ | refine w_op ?_ | refine w_dop ?_)
  refine W.mono (Q := fun r => ∃ (ρ : Env) (σ : St), r = ((.exit 0 : Ex), ρ, σ)) ?_ ?_
  · refine w_loop (fun m ρ σ => ∃ (i b y : Nat) (M : DM) (z : VB), m = l.length - i ∧ i ≤ l.length ∧ DR σ d M ∧ dk.RR σ w M ∧ BR σ b d z ∧ BR σ y w z ∧ M.Ok (4 + 5 * i) ∧ BoxOk z ∧ b ≠ y ∧ (b ≠ d ∧ b ≠ w ∧ y ≠ d ∧ y ≠ w) ∧ ρ 3 = .ptr d 0 ∧ ρ 4 = .ptr w 0 ∧ ρ 5 = .ptr b 0 ∧ ρ 6 = .sc (.int .i64 0) ∧ ρ 7 = .ptr y 0 ∧ ρ 8 = .sc (.int .i64 0) ∧ ρ 32 = x ∧ ρ 33 = .sc (.int .i64 l.length) ∧ ρ 34 = .sc (.int .i64 i)) l.length (by omega) ?_ ?_
    · refine ⟨0, b, y, O.1, O.2.1, rfl, Nat.zero_le _, hd6, hr6, hb6, hy6, hM0.more (by omega), hx0, hby, hne, ?_, ?_, ?_, ?_, ?_, ?_, ?_, ?_, ?_⟩
      all_goals first | rfl | (simp -implicitDefEqProofs (disch := first | exact nbf rfl | exact nbt rfl | (simp only [ne_eq, reduceCtorEq, not_false_eq_true]; done) | omega | (simp -implicitDefEqProofs only [zN.down] <;> omega) | fail) only [XOp.kind, reduceCtorEq, V.bool, V.i64, aUn, aBox, aLoad, aArrAddr, aFold, aEqV, chkAdd, effAdd, AOp.kind, chkAll, chkSee, zP.down, zQ.down, zR.down, simprocAttr]; done) | (simp -implicitDefEqProofs (disch := first | exact nbf rfl | exact nbt rfl | (simp only [ne_eq, reduceCtorEq, not_false_eq_true]; done) | omega | (simp -implicitDefEqProofs only [zN.down] <;> omega) | fail) only [XOp.kind, reduceCtorEq, V.bool, V.i64, aUn, aBox, aLoad, aArrAddr, aFold, aEqV, chkAdd, effAdd, AOp.kind, chkAll, chkSee, zP.down, zQ.down, zR.down, simprocAttr]; rfl)
    · clear hd6 hr6 hb6 hy6 hM0 hx0 hby hne lb hyn hbn hb5 hd5 hr5 hd4 hr4 hd3 k4 k5 k6
      rintro m ρ σ ⟨i, b, y, M, z, hm, hi, hd, hr, hb, hy, hM, hz, hby, hne, e3, e4, e5, e6, e7, e8, e32, e33, e34⟩
      by_cases hl : i < l.length
      · have d1 : decide ((i : Int) < (l.length : Int)) = true := by simpa using hl
        obtain ⟨a1, a2, a3⟩ := h.at hl
        simp only [stc] at a3
        have hpo := h.ok _ (List.getElem_mem hl)
        have hsl := hs _ (List.getElem_mem hl)
        have hcell := hpo.kv.cell
        have w3 : IntKind.i64.wrap ((i : Int) + 1) = ((i + 1 : Nat) : Int) := wrap64 (by omega) (by omega)
        generalize l[i] = p at *
        have hdb : DR σ.bump d M := hd.kept (Kept.refl noX σ).bump (fun h => h)
        have hrb : dk.RR σ.bump w M := hr.kept (Kept.refl noX σ).bump (fun h => h)
        have hbb : BR σ.bump b d z := ((Kept.refl noX σ).bump).get _ _ (fun h => h) hb
        have hyb : BR σ.bump y w z := ((Kept.refl noX σ).bump).get _ _ (fun h => h) hy
        simp -implicitDefEqProofs (disch := first | exact nbf rfl | exact nbt rfl | (simp only [ne_eq, reduceCtorEq, not_false_eq_true]; done) | omega | (simp -implicitDefEqProofs only [zN.down] <;> omega) | fail) only [d1, e3, e4, e5, e6, e7, e8, e32, e33, e34, a1, a2, a3, hsize, hcell.1, hcell.2, w3, XOp.kind, reduceCtorEq, V.bool, V.i64, aUn, aBox, aLoad, aArrAddr, aFold, aEqV, chkAdd, effAdd, AOp.kind, chkAll, chkSee, zP.down, zQ.down, zR.down, simprocAttr]
        refine w_seq (w_block (w_seq ?_))
        refine W.mono (Q := fun r => ∃ (ρ' : Env) (σ' : St) (M' : DM), r = ((.normal : Ex), ρ', σ') ∧ DR σ' d M' ∧ dk.RR σ' w M' ∧ BR σ' b d z ∧ BR σ' y w z ∧ M'.Ok (5 + 5 * i) ∧ ρ' 3 = .ptr d 0 ∧ ρ' 4 = .ptr w 0 ∧ ρ' 5 = .ptr b 0 ∧ ρ' 6 = .sc (.int .i64 0) ∧ ρ' 7 = .ptr y 0 ∧ ρ' 8 = .sc (.int .i64 0) ∧ ρ' 32 = x ∧ ρ' 33 = .sc (.int .i64 l.length) ∧ ρ' 34 = .sc (.int .i64 i) ∧ ρ' 10 = .agg [.sc (.int .i64 p.k), .sc (.int .i64 p.n), .sc (.int .i64 p.t), .sc (.int .i64 p.w), .str p.s, p.kv]) ?_ ?_
        · by_cases q3 : p.k = 3
          · have c3 := beq_iff_eq.2 q3
            have nd := i_and1 p.n
            obtain ⟨f, hf⟩ : ∃ f : Nat, (p.n % 2).toNat = f := ⟨_, rfl⟩
            rw [hf] at nd
            have hne2 : ∀ a : Int, (a != a) = false := fun a => by simp
            have f2 := fun σ h => hrch σ w M f ⟨1, p.s, 0⟩ h (4 + 5 * i) hM (by omega) (by dsimp only; omega)
            unfold chc at f2
            have hmo := hM.change (f := (f : Int)) (c := ⟨1, p.s, 0⟩) (.inl rfl)
            have f1 := happ σ.bump d M f p.s hdb (4 + 5 * i) hM (by omega)
            simp -implicitDefEqProofs (disch := first | exact nbf rfl | exact nbt rfl | (simp only [ne_eq, reduceCtorEq, not_false_eq_true]; done) | omega | (simp -implicitDefEqProofs only [zN.down] <;> omega) | fail) only [c3, nd, e3, e4, e5, e6, e7, e8, e32, e33, e34, XOp.kind, reduceCtorEq, V.bool, V.i64, aUn, aBox, aLoad, aArrAddr, aFold, aEqV, chkAdd, effAdd, AOp.kind, chkAll, chkSee, zP.down, zQ.down, zR.down, simprocAttr]
            repeat (first | refine w_fin ?_ | refine w_seq ?_ | refine w_block ?_ | refine w_reg ?_ | refine w_op ?_ | refine w_dop ?_)
            refine f1.mono ?_
            rintro ⟨_, σ5⟩ ⟨rfl, hd5, k5⟩
            dsimp only at hd5 k5
            have hr5 := hrb.kept k5 (fun h => hdw h.symm)
            simp -implicitDefEqProofs (disch := first | exact nbf rfl | exact nbt rfl | (simp only [ne_eq, reduceCtorEq, not_false_eq_true]; done) | omega | (simp -implicitDefEqProofs only [zN.down] <;> omega) | fail) only [e3, e4, e5, e6, e7, e8, e32, e33, e34, XOp.kind, reduceCtorEq, V.bool, V.i64, aUn, aBox, aLoad, aArrAddr, aFold, aEqV, chkAdd, effAdd, AOp.kind, chkAll, chkSee, zP.down, zQ.down, zR.down, simprocAttr]
            repeat (first | refine w_fin ?_ | refine w_seq ?_ | refine w_block ?_ | refine w_reg ?_ | refine w_op ?_ | refine w_dop ?_)
            refine (f2 σ5 hr5).mono ?_
            rintro ⟨_, σ6⟩ ⟨rfl, hr6, k6⟩
            dsimp only at hr6 k6
            have hd6 := hd5.kept k6 hdw
            have hb6 : BR σ6 b d z := k6.get _ _ hne.2.1 (k5.get _ _ hne.1 hbb)
            have hy6 : BR σ6 y w z := k6.get _ _ hne.2.2.2 (k5.get _ _ hne.2.2.1 hyb)
            generalize M.change f ⟨1, p.s, 0⟩ = q at *
            simp -implicitDefEqProofs (disch := first | exact nbf rfl | exact nbt rfl | (simp only [ne_eq, reduceCtorEq, not_false_eq_true]; done) | omega | (simp -implicitDefEqProofs only [zN.down] <;> omega) | fail) only [hne2, e3, e4, e5, e6, e7, e8, e32, e33, e34, XOp.kind, reduceCtorEq, V.bool, V.i64, aUn, aBox, aLoad, aArrAddr, aFold, aEqV, chkAdd, effAdd, AOp.kind, chkAll, chkSee, zP.down, zQ.down, zR.down, simprocAttr]
            refine ⟨_, _, q.1, rfl, hd6, hr6, hb6, hy6, hmo.more (by omega), ?_, ?_, ?_, ?_, ?_, ?_, ?_, ?_, ?_, ?_⟩
            all_goals (simp -implicitDefEqProofs (disch := first | exact nbf rfl | exact nbt rfl | (simp only [ne_eq, reduceCtorEq, not_false_eq_true]; done) | omega | (simp -implicitDefEqProofs only [zN.down] <;> omega) | fail) only [e3, e4, e5, e6, e7, e8, e32, e33, e34, XOp.kind, reduceCtorEq, V.bool, V.i64, aUn, aBox, aLoad, aArrAddr, aFold, aEqV, chkAdd, effAdd, AOp.kind, chkAll, chkSee, zP.down, zQ.down, zR.down, simprocAttr]; done)
          · have c3 := beq_eq_false_iff_ne.2 q3
            simp -implicitDefEqProofs (disch := first | exact nbf rfl | exact nbt rfl | (simp only [ne_eq, reduceCtorEq, not_false_eq_true]; done) | omega | (simp -implicitDefEqProofs only [zN.down] <;> omega) | fail) only [c3, XOp.kind, reduceCtorEq, V.bool, V.i64, aUn, aBox, aLoad, aArrAddr, aFold, aEqV, chkAdd, effAdd, AOp.kind, chkAll, chkSee, zP.down, zQ.down, zR.down, simprocAttr]
            refine ⟨_, _, M, rfl, hdb, hrb, hbb, hyb, hM.more (by omega), ?_, ?_, ?_, ?_, ?_, ?_, ?_, ?_, ?_, ?_⟩
            all_goals (simp -implicitDefEqProofs (disch := first | exact nbf rfl | exact nbt rfl | (simp only [ne_eq, reduceCtorEq, not_false_eq_true]; done) | omega | (simp -implicitDefEqProofs only [zN.down] <;> omega) | fail) only [e3, e4, e5, e6, e7, e8, e32, e33, e34, XOp.kind, reduceCtorEq, V.bool, V.i64, aUn, aBox, aLoad, aArrAddr, aFold, aEqV, chkAdd, effAdd, AOp.kind, chkAll, chkSee, zP.down, zQ.down, zR.down, simprocAttr]; done)
        clear hd hr hb hy hM hdb hrb hbb hyb e3 e4 e5 e6 e7 e8 e32 e33 e34
        rintro _ ⟨ρ, σ, M, rfl, hd, hr, hb, hy, hM, e3, e4, e5, e6, e7, e8, e32, e33, e34, e10⟩
        simp -implicitDefEqProofs (disch := first | exact nbf rfl | exact nbt rfl | (simp only [ne_eq, reduceCtorEq, not_false_eq_true]; done) | omega | (simp -implicitDefEqProofs only [zN.down] <;> omega) | fail) only [e3, e4, e5, e6, e7, e8, e10, e32, e33, e34, XOp.kind, reduceCtorEq, V.bool, V.i64, aUn, aBox, aLoad, aArrAddr, aFold, aEqV, chkAdd, effAdd, AOp.kind, chkAll, chkSee, zP.down, zQ.down, zR.down, simprocAttr]
        refine w_seq ?_
        refine W.mono (Q := fun r => ∃ (ρ' : Env) (σ' : St) (M' : DM) (b' y' : Nat) (z' : VB), r = ((.normal : Ex), ρ', σ') ∧ DR σ' d M' ∧ dk.RR σ' w M' ∧ BR σ' b' d z' ∧ BR σ' y' w z' ∧ M'.Ok (9 + 5 * i) ∧ BoxOk z' ∧ b' ≠ y' ∧ (b' ≠ d ∧ b' ≠ w ∧ y' ≠ d ∧ y' ≠ w) ∧ ρ' 3 = .ptr d 0 ∧ ρ' 4 = .ptr w 0 ∧ ρ' 5 = .ptr b' 0 ∧ ρ' 6 = .sc (.int .i64 0) ∧ ρ' 7 = .ptr y' 0 ∧ ρ' 8 = .sc (.int .i64 0) ∧ ρ' 32 = x ∧ ρ' 33 = .sc (.int .i64 l.length) ∧ ρ' 34 = .sc (.int .i64 i)) ?_ ?_
        · by_cases q0 : p.k = 0
          · have c0 := beq_iff_eq.2 q0
            have hne2 : ∀ a : Int, (a != a) = false := fun a => by simp
            have f1 := hwrite σ b d z M p.t p.w hb hd hne.1 _ hM (by omega) hz.c hz.f hz.n
            have f2 := fun σ h1 h2 => hrwrite σ y w z M p.t p.w h1 h2 hne.2.2.2 _ hM (by omega) hz.c hz.f hz.n hz.w
            have hmo := vwrite_ok hM z p.t p.w
            have hzo := vwrite_box (M := M) hz p.t p.w
            generalize vwrite M z p.t p.w = q at *
            simp -implicitDefEqProofs (disch := first | exact nbf rfl | exact nbt rfl | (simp only [ne_eq, reduceCtorEq, not_false_eq_true]; done) | omega | (simp -implicitDefEqProofs only [zN.down] <;> omega) | fail) only [c0, e3, e4, e5, e6, e7, e8, e10, e32, e33, e34, dk.pnil, XOp.kind, reduceCtorEq, V.bool, V.i64, aUn, aBox, aLoad, aArrAddr, aFold, chkAdd, effAdd, AOp.kind, chkAll, chkSee, zP.down, zQ.down, zR.down, simprocAttr]
            repeat (first | refine w_fin ?_ | refine w_seq ?_ | refine w_block ?_ | refine w_reg ?_ | refine w_op ?_ | refine w_dop ?_)
            refine f1.mono ?_
            rintro ⟨_, σ5⟩ ⟨rfl, hb5, hd5, k5⟩
            dsimp only at hb5 hd5 k5
            have hr5 := hr.kept k5 (by omega)
            have hy5 : BR σ5 y w z := k5.get _ _ (by omega) hy
            simp -implicitDefEqProofs (disch := first | exact nbf rfl | exact nbt rfl | (simp only [ne_eq, reduceCtorEq, not_false_eq_true]; done) | omega | (simp -implicitDefEqProofs only [zN.down] <;> omega) | fail) only [e3, e4, e5, e6, e7, e8, e10, e32, e33, e34, dk.pnil, XOp.kind, reduceCtorEq, V.bool, V.i64, aUn, aBox, aLoad, aArrAddr, aFold, chkAdd, effAdd, AOp.kind, chkAll, chkSee, zP.down, zQ.down, zR.down, simprocAttr]
            repeat (first | refine w_fin ?_ | refine w_seq ?_ | refine w_block ?_ | refine w_reg ?_ | refine w_op ?_ | refine w_dop ?_)
            refine (f2 σ5 hy5 hr5).mono ?_
            rintro ⟨_, σ6⟩ ⟨rfl, hy6, hr6, k6⟩
            dsimp only at hy6 hr6 k6
            have hd6 := hd5.kept k6 (by omega)
            have hb6 : BR σ6 b d q.2.1 := k6.get _ _ (by omega) hb5
            simp -implicitDefEqProofs (disch := first | exact nbf rfl | exact nbt rfl | (simp only [ne_eq, reduceCtorEq, not_false_eq_true]; done) | omega | (simp -implicitDefEqProofs only [zN.down] <;> omega) | fail) only [hne2, e3, e4, e5, e6, e7, e8, e10, e32, e33, e34, XOp.kind, reduceCtorEq, V.bool, V.i64, aUn, aBox, aLoad, aArrAddr, aFold, aEqV, chkAdd, effAdd, AOp.kind, chkAll, chkSee, zP.down, zQ.down, zR.down, simprocAttr]
            refine ⟨_, _, q.1, b, y, q.2.1, rfl, hd6, hr6, hb6, hy6, hmo.more (by omega), hzo, hby, hne, ?_, ?_, ?_, ?_, ?_, ?_, ?_, ?_, ?_⟩
            all_goals (simp -implicitDefEqProofs (disch := first | exact nbf rfl | exact nbt rfl | (simp only [ne_eq, reduceCtorEq, not_false_eq_true]; done) | omega | (simp -implicitDefEqProofs only [zN.down] <;> omega) | fail) only [e3, e4, e5, e6, e7, e8, e10, e32, e33, e34, XOp.kind, reduceCtorEq, V.bool, V.i64, aUn, aBox, aLoad, aArrAddr, aFold, aEqV, chkAdd, effAdd, AOp.kind, chkAll, chkSee, zP.down, zQ.down, zR.down, simprocAttr]; done)
          have c0 := beq_eq_false_iff_ne.2 q0
          by_cases q1 : p.k = 1
          · have c1 := beq_iff_eq.2 q1
            have m1 := max64 p.n (-1)
            have hnn := hpo.n
            obtain ⟨cs, g, hc⟩ := hr
            have hcp := hc.power (max p.n (-1))
            have lw := St.get_lt g
            have llen := hc.len
            have l96 : (96 + 1 ≤ cs.length) = True := by simp only [eq_iff_iff, iff_true]; omega
            simp -implicitDefEqProofs (disch := first | exact nbf rfl | exact nbt rfl | (simp only [ne_eq, reduceCtorEq, not_false_eq_true]; done) | omega | (simp -implicitDefEqProofs only [zN.down] <;> omega) | fail) only [c0, c1, e3, e4, e5, e6, e7, e8, e10, e32, e33, e34, m1, g, l96, XOp.kind, reduceCtorEq, V.bool, V.i64, aUn, aBox, aLoad, aArrAddr, aFold, aEqV, chkAdd, effAdd, AOp.kind, chkAll, chkSee, zP.down, zQ.down, zR.down, simprocAttr]
            repeat (first | refine w_fin ?_ | refine w_seq ?_ | refine w_block ?_ | refine w_reg ?_ | refine w_op ?_ | refine w_dop ?_)
            have kk : Kept (· = w) σ (σ.put w (some (.cells (cs.set 96 (.sc (.int .i64 (max p.n (-1)))))))) := Kept.put (X := (· = w)) (Kept.refl _ _) (.inl rfl) lw _
            have hr5 : dk.RR (σ.put w (some (.cells (cs.set 96 (.sc (.int .i64 (max p.n (-1)))))))) w { M with power := max p.n (-1) } := ⟨_, get_put_self g, hcp⟩
            generalize σ.put w (some (.cells (cs.set 96 (.sc (.int .i64 (max p.n (-1))))))) = σ5 at *
            have hd5 := hd.kept kk hdw
            refine (hpow σ5 d M p.n hd5).mono ?_
            rintro ⟨_, σ6⟩ ⟨rfl, hd6, k6, _⟩
            dsimp only at hd6 k6
            have hr6 := hr5.kept k6 (fun h => hdw h.symm)
            have hb6 : BR σ6 b d z := k6.get _ _ hne.1 (kk.get _ _ hne.2.1 hb)
            have hy6 : BR σ6 y w z := k6.get _ _ hne.2.2.1 (kk.get _ _ hne.2.2.2 hy)
            simp -implicitDefEqProofs (disch := first | exact nbf rfl | exact nbt rfl | (simp only [ne_eq, reduceCtorEq, not_false_eq_true]; done) | omega | (simp -implicitDefEqProofs only [zN.down] <;> omega) | fail) only [e3, e4, e5, e6, e7, e8, e10, e32, e33, e34, XOp.kind, reduceCtorEq, V.bool, V.i64, aUn, aBox, aLoad, aArrAddr, aFold, aEqV, chkAdd, effAdd, AOp.kind, chkAll, chkSee, zP.down, zQ.down, zR.down, simprocAttr]
            refine ⟨_, _, _, b, y, z, rfl, hd6, hr6, hb6, hy6, (hM.power (n := p.n) hnn.2).more (by omega), hz, hby, hne, ?_, ?_, ?_, ?_, ?_, ?_, ?_, ?_, ?_⟩
            all_goals (simp -implicitDefEqProofs (disch := first | exact nbf rfl | exact nbt rfl | (simp only [ne_eq, reduceCtorEq, not_false_eq_true]; done) | omega | (simp -implicitDefEqProofs only [zN.down] <;> omega) | fail) only [e3, e4, e5, e6, e7, e8, e10, e32, e33, e34, XOp.kind, reduceCtorEq, V.bool, V.i64, aUn, aBox, aLoad, aArrAddr, aFold, aEqV, chkAdd, effAdd, AOp.kind, chkAll, chkSee, zP.down, zQ.down, zR.down, simprocAttr]; done)
          have c1 := beq_eq_false_iff_ne.2 q1
          by_cases q3 : p.k = 3
          · have c3 := beq_iff_eq.2 q3
            have bs : aBslice 1 2 [.sc (.int .i64 0)] [(0, 1, .sc (.int .i64 99)), (1, 1, .sc (.int .i64 99))] = some (.vs .exact 1 2 [.sc (.int .i64 99), .sc (.int .i64 99)]) := rfl
            have hkv : RV 1 (.vs .exact 1 2 [.sc (.int .i64 99), .sc (.int .i64 99)]) ([99, 99].map kc) := RV.vs (own := .exact) (es := [99, 99].map kc) (by simp [kc]) (by simp [kc, V.oneCell])
            simp -implicitDefEqProofs (disch := first | exact nbf rfl | exact nbt rfl | (simp only [ne_eq, reduceCtorEq, not_false_eq_true]; done) | omega | (simp -implicitDefEqProofs only [zN.down] <;> omega) | fail) only [c0, c1, c3, bs, e3, e4, e5, e6, e7, e8, e10, e32, e33, e34, hcell.1, hcell.2, XOp.kind, reduceCtorEq, V.bool, V.i64, aUn, aBox, aLoad, aArrAddr, aFold, aEqV, chkAdd, effAdd, AOp.kind, chkAll, chkSee, zP.down, zQ.down, zR.down, simprocAttr]
            repeat (first | refine w_fin ?_ | refine w_seq ?_ | refine w_block ?_ | refine w_reg ?_ | refine w_op ?_ | refine w_dop ?_)
            refine (hrcra σ w M (.vs .exact 1 2 [.sc (.int .i64 99), .sc (.int .i64 99)]) [99, 99] p.n hr hkv _ hM (by omega)).mono ?_
            rintro ⟨_, σ5⟩ ⟨rfl, hr5, k5⟩
            dsimp only at hr5 k5
            have hd5 := hd.kept k5 hdw
            simp -implicitDefEqProofs (disch := first | exact nbf rfl | exact nbt rfl | (simp only [ne_eq, reduceCtorEq, not_false_eq_true]; done) | omega | (simp -implicitDefEqProofs only [zN.down] <;> omega) | fail) only [e3, e4, e5, e6, e7, e8, e10, e32, e33, e34, hcell.1, hcell.2, XOp.kind, reduceCtorEq, V.bool, V.i64, aUn, aBox, aLoad, aArrAddr, aFold, aEqV, chkAdd, effAdd, AOp.kind, chkAll, chkSee, zP.down, zQ.down, zR.down, simprocAttr]
            repeat (first | refine w_fin ?_ | refine w_seq ?_ | refine w_block ?_ | refine w_reg ?_ | refine w_op ?_ | refine w_dop ?_)
            refine (hcra σ5 d M (.vs .exact 1 2 [.sc (.int .i64 99), .sc (.int .i64 99)]) [99, 99] p.n hd5 hkv _ hM (by omega)).mono ?_
            rintro ⟨_, σ6⟩ ⟨rfl, hd6, k6⟩
            dsimp only at hd6 k6
            have hr6 := hr5.kept k6 (fun h => hdw h.symm)
            have zc : (M.crash [99, 99] p.n).power = -1 := rfl
            have hMc := hM.crash [99, 99] p.n
            generalize M.crash [99, 99] p.n = Mc at *
            have zz := vopen_0 zc
            have hMo := vopen_ok hMc
            have hxo := vopen_box hMc
            simp -implicitDefEqProofs (disch := first | exact nbf rfl | exact nbt rfl | (simp only [ne_eq, reduceCtorEq, not_false_eq_true]; done) | omega | (simp -implicitDefEqProofs only [zN.down] <;> omega) | fail) only [e3, e4, e5, e6, e7, e8, e10, e32, e33, e34, hcell.1, hcell.2, XOp.kind, reduceCtorEq, V.bool, V.i64, aUn, aBox, aLoad, aArrAddr, aFold, aEqV, chkAdd, effAdd, AOp.kind, chkAll, chkSee, zP.down, zQ.down, zR.down, simprocAttr]
            repeat (first | refine w_fin ?_ | refine w_seq ?_ | refine w_block ?_ | refine w_reg ?_ | refine w_op ?_ | refine w_dop ?_)
            refine (hopen σ6 d Mc hd6 _ hMc (by omega)).mono ?_
            rintro ⟨_, σ7⟩ ⟨b', rfl, hb7, hd7, k7⟩
            dsimp only at hb7 hd7 k7
            obtain ⟨hb7, hbn7⟩ := hb7 zz
            rw [if_pos zz, zz]
            have hr7 := hr6.kept k7 (fun h => hdw h.symm)
            simp -implicitDefEqProofs (disch := first | exact nbf rfl | exact nbt rfl | (simp only [ne_eq, reduceCtorEq, not_false_eq_true]; done) | omega | (simp -implicitDefEqProofs only [zN.down] <;> omega) | fail) only [e3, e4, e5, e6, e7, e8, e10, e32, e33, e34, hcell.1, hcell.2, XOp.kind, reduceCtorEq, V.bool, V.i64, aUn, aBox, aLoad, aArrAddr, aFold, aEqV, chkAdd, effAdd, AOp.kind, chkAll, chkSee, zP.down, zQ.down, zR.down, simprocAttr]
            repeat (first | refine w_fin ?_ | refine w_seq ?_ | refine w_block ?_ | refine w_reg ?_ | refine w_op ?_ | refine w_dop ?_)
            refine (hropen σ7 w Mc hr7 _ hMc (by omega)).mono ?_
            rintro ⟨_, σ8⟩ ⟨y', rfl, hy8, hr8, k8⟩
            dsimp only at hy8 hr8 k8
            obtain ⟨hy8, hyn8⟩ := hy8 zz
            rw [if_pos zz, zz]
            have hd8 := hd7.kept k8 hdw
            have lb7 := St.get_lt hb7
            have ld6 := hd6.lt
            have lw6 := hr6.lt
            have kn7 := k7.n
            have hb8 : BR σ8 b' d (vopen Mc).2.1 := k8.get _ _ (by omega) hb7
            simp -implicitDefEqProofs (disch := first | exact nbf rfl | exact nbt rfl | (simp only [ne_eq, reduceCtorEq, not_false_eq_true]; done) | omega | (simp -implicitDefEqProofs only [zN.down] <;> omega) | fail) only [e3, e4, e5, e6, e7, e8, e10, e32, e33, e34, hcell.1, hcell.2, XOp.kind, reduceCtorEq, V.bool, V.i64, aUn, aBox, aLoad, aArrAddr, aFold, aEqV, chkAdd, effAdd, AOp.kind, chkAll, chkSee, zP.down, zQ.down, zR.down, simprocAttr]
            refine ⟨_, _, _, b', y', _, rfl, hd8, hr8, hb8, hy8, hMo.more (by omega), hxo, by omega, by omega, ?_, ?_, ?_, ?_, ?_, ?_, ?_, ?_, ?_⟩
            all_goals (simp -implicitDefEqProofs (disch := first | exact nbf rfl | exact nbt rfl | (simp only [ne_eq, reduceCtorEq, not_false_eq_true]; done) | omega | (simp -implicitDefEqProofs only [zN.down] <;> omega) | fail) only [e3, e4, e5, e6, e7, e8, e10, e32, e33, e34, XOp.kind, reduceCtorEq, V.bool, V.i64, aUn, aBox, aLoad, aArrAddr, aFold, aEqV, chkAdd, effAdd, AOp.kind, chkAll, chkSee, zP.down, zQ.down, zR.down, simprocAttr]; done)
          · have c3 := beq_eq_false_iff_ne.2 q3
            simp -implicitDefEqProofs (disch := first | exact nbf rfl | exact nbt rfl | (simp only [ne_eq, reduceCtorEq, not_false_eq_true]; done) | omega | (simp -implicitDefEqProofs only [zN.down] <;> omega) | fail) only [c0, c1, c3, e3, e4, e5, e6, e7, e8, e10, e32, e33, e34, hcell.1, hcell.2, XOp.kind, reduceCtorEq, V.bool, V.i64, aUn, aBox, aLoad, aArrAddr, aFold, aEqV, chkAdd, effAdd, AOp.kind, chkAll, chkSee, zP.down, zQ.down, zR.down, simprocAttr]
            repeat (first | refine w_fin ?_ | refine w_seq ?_ | refine w_block ?_ | refine w_reg ?_ | refine w_op ?_ | refine w_dop ?_)
            refine (hrcra σ w M p.kv p.ks p.n hr hpo.kv _ hM (by omega)).mono ?_
            rintro ⟨_, σ5⟩ ⟨rfl, hr5, k5⟩
            dsimp only at hr5 k5
            have hd5 := hd.kept k5 hdw
            simp -implicitDefEqProofs (disch := first | exact nbf rfl | exact nbt rfl | (simp only [ne_eq, reduceCtorEq, not_false_eq_true]; done) | omega | (simp -implicitDefEqProofs only [zN.down] <;> omega) | fail) only [e3, e4, e5, e6, e7, e8, e10, e32, e33, e34, hcell.1, hcell.2, XOp.kind, reduceCtorEq, V.bool, V.i64, aUn, aBox, aLoad, aArrAddr, aFold, aEqV, chkAdd, effAdd, AOp.kind, chkAll, chkSee, zP.down, zQ.down, zR.down, simprocAttr]
            repeat (first | refine w_fin ?_ | refine w_seq ?_ | refine w_block ?_ | refine w_reg ?_ | refine w_op ?_ | refine w_dop ?_)
            refine (hcra σ5 d M p.kv p.ks p.n hd5 hpo.kv _ hM (by omega)).mono ?_
            rintro ⟨_, σ6⟩ ⟨rfl, hd6, k6⟩
            dsimp only at hd6 k6
            have hr6 := hr5.kept k6 (fun h => hdw h.symm)
            have zc : (M.crash p.ks p.n).power = -1 := rfl
            have hMc := hM.crash p.ks p.n
            generalize M.crash p.ks p.n = Mc at *
            have zz := vopen_0 zc
            have hMo := vopen_ok hMc
            have hxo := vopen_box hMc
            simp -implicitDefEqProofs (disch := first | exact nbf rfl | exact nbt rfl | (simp only [ne_eq, reduceCtorEq, not_false_eq_true]; done) | omega | (simp -implicitDefEqProofs only [zN.down] <;> omega) | fail) only [e3, e4, e5, e6, e7, e8, e10, e32, e33, e34, hcell.1, hcell.2, XOp.kind, reduceCtorEq, V.bool, V.i64, aUn, aBox, aLoad, aArrAddr, aFold, aEqV, chkAdd, effAdd, AOp.kind, chkAll, chkSee, zP.down, zQ.down, zR.down, simprocAttr]
            repeat (first | refine w_fin ?_ | refine w_seq ?_ | refine w_block ?_ | refine w_reg ?_ | refine w_op ?_ | refine w_dop ?_)
            refine (hopen σ6 d Mc hd6 _ hMc (by omega)).mono ?_
            rintro ⟨_, σ7⟩ ⟨b', rfl, hb7, hd7, k7⟩
            dsimp only at hb7 hd7 k7
            obtain ⟨hb7, hbn7⟩ := hb7 zz
            rw [if_pos zz, zz]
            have hr7 := hr6.kept k7 (fun h => hdw h.symm)
            simp -implicitDefEqProofs (disch := first | exact nbf rfl | exact nbt rfl | (simp only [ne_eq, reduceCtorEq, not_false_eq_true]; done) | omega | (simp -implicitDefEqProofs only [zN.down] <;> omega) | fail) only [e3, e4, e5, e6, e7, e8, e10, e32, e33, e34, hcell.1, hcell.2, XOp.kind, reduceCtorEq, V.bool, V.i64, aUn, aBox, aLoad, aArrAddr, aFold, aEqV, chkAdd, effAdd, AOp.kind, chkAll, chkSee, zP.down, zQ.down, zR.down, simprocAttr]
            repeat (first | refine w_fin ?_ | refine w_seq ?_ | refine w_block ?_ | refine w_reg ?_ | refine w_op ?_ | refine w_dop ?_)
            refine (hropen σ7 w Mc hr7 _ hMc (by omega)).mono ?_
            rintro ⟨_, σ8⟩ ⟨y', rfl, hy8, hr8, k8⟩
            dsimp only at hy8 hr8 k8
            obtain ⟨hy8, hyn8⟩ := hy8 zz
            rw [if_pos zz, zz]
            have hd8 := hd7.kept k8 hdw
            have lb7 := St.get_lt hb7
            have ld6 := hd6.lt
            have lw6 := hr6.lt
            have kn7 := k7.n
            have hb8 : BR σ8 b' d (vopen Mc).2.1 := k8.get _ _ (by omega) hb7
            simp -implicitDefEqProofs (disch := first | exact nbf rfl | exact nbt rfl | (simp only [ne_eq, reduceCtorEq, not_false_eq_true]; done) | omega | (simp -implicitDefEqProofs only [zN.down] <;> omega) | fail) only [e3, e4, e5, e6, e7, e8, e10, e32, e33, e34, hcell.1, hcell.2, XOp.kind, reduceCtorEq, V.bool, V.i64, aUn, aBox, aLoad, aArrAddr, aFold, aEqV, chkAdd, effAdd, AOp.kind, chkAll, chkSee, zP.down, zQ.down, zR.down, simprocAttr]
            refine ⟨_, _, _, b', y', _, rfl, hd8, hr8, hb8, hy8, hMo.more (by omega), hxo, by omega, by omega, ?_, ?_, ?_, ?_, ?_, ?_, ?_, ?_, ?_⟩
            all_goals (simp -implicitDefEqProofs (disch := first | exact nbf rfl | exact nbt rfl | (simp only [ne_eq, reduceCtorEq, not_false_eq_true]; done) | omega | (simp -implicitDefEqProofs only [zN.down] <;> omega) | fail) only [e3, e4, e5, e6, e7, e8, e10, e32, e33, e34, XOp.kind, reduceCtorEq, V.bool, V.i64, aUn, aBox, aLoad, aArrAddr, aFold, aEqV, chkAdd, effAdd, AOp.kind, chkAll, chkSee, zP.down, zQ.down, zR.down, simprocAttr]; done)
        clear hd hr hb hy hM e3 e4 e5 e6 e7 e8 e10 e32 e33 e34 hz hby hne
        rintro _ ⟨ρ, σ, M, b, y, z, rfl, hd, hr, hb, hy, hM, hz, hby, hne, e3, e4, e5, e6, e7, e8, e32, e33, e34⟩
        have n1 := hnow σ b d z hb
        have o1 := hops σ d M hd
        have hy' := hy
        unfold BR vcells at hy'
        obtain ⟨cs, g, hc⟩ := hr
        have ho := hc.o
        have hne2 : ∀ a : Int, (a != a) = false := fun a => by simp
        have hq2 : (z.t == z.t && z.w == z.w) = true := by simp
        have kb : Kept noX σ σ.bump := (Kept.refl _ _).bump
        have lyc : (1 + 2 ≤ (vcells w z).length) = True := by simp [vcells]
        simp -implicitDefEqProofs (disch := first | exact nbf rfl | exact nbt rfl | (simp only [ne_eq, reduceCtorEq, not_false_eq_true]; done) | omega | (simp -implicitDefEqProofs only [zN.down] <;> omega) | fail) only [e3, e4, e5, e6, e7, e8, e32, e33, e34, n1, o1, hy', g, ho, hne2, eq2, hq2, eqb, dk.pnil, XOp.kind, reduceCtorEq, V.bool, V.i64, aUn, aBox, aLoad, aArrAddr, aFold, chkAdd, effAdd, AOp.kind, chkAll, chkSee, zP.down, zQ.down, zR.down, simprocAttr]
        repeat (first | refine w_fin ?_ | refine w_seq ?_ | refine w_block ?_ | refine w_reg ?_ | refine w_op ?_ | refine w_dop ?_)
        refine W.mono (Q := fun r => ∃ (ρ' : Env) (σ' : St), r = ((.exit 3 : Ex), ρ', σ') ∧ Kept noX σ σ' ∧ ρ' 3 = .ptr d 0 ∧ ρ' 4 = .ptr w 0 ∧ ρ' 5 = .ptr b 0 ∧ ρ' 6 = .sc (.int .i64 0) ∧ ρ' 7 = .ptr y 0 ∧ ρ' 8 = .sc (.int .i64 0) ∧ ρ' 32 = x ∧ ρ' 33 = .sc (.int .i64 l.length) ∧ ρ' 34 = .sc (.int .i64 i)) ?_ ?_
        · refine w_loop (fun m ρ' σ' => ∃ j : Nat, m = 2 - j ∧ j ≤ 2 ∧ Kept noX σ σ' ∧ ρ' 3 = .ptr d 0 ∧ ρ' 4 = .ptr w 0 ∧ ρ' 5 = .ptr b 0 ∧ ρ' 6 = .sc (.int .i64 0) ∧ ρ' 7 = .ptr y 0 ∧ ρ' 8 = .sc (.int .i64 0) ∧ ρ' 32 = x ∧ ρ' 33 = .sc (.int .i64 l.length) ∧ ρ' 34 = .sc (.int .i64 i) ∧ ρ' 141 = .sc (.int .i64 j)) 2 (by omega) ?_ ?_
          · refine ⟨0, rfl, by omega, by ((repeat (first | refine Kept.push ?_ _ | refine Kept.bump ?_ | refine Kept.put ?_ (.inr (by omega)) (by first | omega | (simp only [St.n_put, St.n_push]; omega)) _)); first | exact Kept.refl _ _ | assumption), ?_, ?_, ?_, ?_, ?_, ?_, ?_, ?_, ?_, ?_⟩
            all_goals first | (simp -implicitDefEqProofs (disch := first | exact nbf rfl | exact nbt rfl | (simp only [ne_eq, reduceCtorEq, not_false_eq_true]; done) | omega | (simp -implicitDefEqProofs only [zN.down] <;> omega) | fail) only [e3, e4, e5, e6, e7, e8, e32, e33, e34, XOp.kind, reduceCtorEq, V.bool, V.i64, aUn, aBox, aLoad, aArrAddr, aFold, aEqV, chkAdd, effAdd, AOp.kind, chkAll, chkSee, zP.down, zQ.down, zR.down, simprocAttr]; done) | (simp -implicitDefEqProofs (disch := first | exact nbf rfl | exact nbt rfl | (simp only [ne_eq, reduceCtorEq, not_false_eq_true]; done) | omega | (simp -implicitDefEqProofs only [zN.down] <;> omega) | fail) only [XOp.kind, reduceCtorEq, V.bool, V.i64, aUn, aBox, aLoad, aArrAddr, aFold, aEqV, chkAdd, effAdd, AOp.kind, chkAll, chkSee, zP.down, zQ.down, zR.down, simprocAttr]; rfl)
          · rintro m' ρ' σ' ⟨j, hm', hj, kp, f3, f4, f5, f6, f7, f8, f32, f33, f34, f141⟩
            by_cases hj2 : j < 2
            · have c9 : decide ((j : Int) < 2) = true := by simp; omega
              have w9 : IntKind.i64.wrap ((j : Int) + 1) = ((j + 1 : Nat) : Int) := wrap64 (by omega) (by omega)
              obtain ⟨u, hu⟩ := hc.f j (by omega)
              have u0 := hu.c0
              have u1 := hu.c1
              have u2 := hu.c2
              have ulen := hu.rv.len
              rw [List.length_map] at ulen
              have g' := kp.get _ _ (fun h => h) g
              have hd' := hd.kept kp (fun h => h)
              have s1 := hsure σ' d M (j : Int) hd'
              have s2 := hloose σ'.bump.bump d M (j : Int) (hd'.kept (Kept.refl noX σ').bump.bump (fun h => h))
              rw [file_in M (by omega)] at s1 s2
              have ha := arr_ok (o := w) (off := 0) (len := 32) (sz := 3) (i := j) (by omega)
              have bne : ∀ s : List UInt8, aBin .neq (.str s) (.str s) = some (.sc (.bool false)) := fun s => by simp [aBin, aStr]
              have bb : ∀ a : Bool, (a == a) = true := fun a => by simp
              simp -implicitDefEqProofs (disch := first | exact nbf rfl | exact nbt rfl | (simp only [ne_eq, reduceCtorEq, not_false_eq_true]; done) | omega | (simp -implicitDefEqProofs only [zN.down] <;> omega) | fail) only [c9, w9, f3, f4, f5, f6, f7, f8, f32, f33, f34, f141, s1, s2, g', ha, u0, u1, u2, ulen, hne2, eqb, bb, bne, XOp.kind, reduceCtorEq, V.bool, V.i64, aUn, aBox, aLoad, aFold, chkAdd, effAdd, AOp.kind, chkAll, chkSee, zP.down, zQ.down, zR.down, simprocAttr]
              exact ⟨2 - (j + 1), by omega, j + 1, rfl, by omega, by ((repeat (first | refine Kept.push ?_ _ | refine Kept.bump ?_ | refine Kept.put ?_ (.inr (by omega)) (by first | omega | (simp only [St.n_put, St.n_push]; omega)) _)); first | exact Kept.refl _ _ | assumption), rfl⟩
            · have c9 : decide ((j : Int) < 2) = false := by simp; omega
              simp -implicitDefEqProofs (disch := first | exact nbf rfl | exact nbt rfl | (simp only [ne_eq, reduceCtorEq, not_false_eq_true]; done) | omega | (simp -implicitDefEqProofs only [zN.down] <;> omega) | fail) only [c9, f141, XOp.kind, reduceCtorEq, V.bool, V.i64, aUn, aBox, aLoad, aArrAddr, aFold, aEqV, chkAdd, effAdd, AOp.kind, chkAll, chkSee, zP.down, zQ.down, zR.down, simprocAttr]
              refine ⟨_, _, rfl, kp, ?_, ?_, ?_, ?_, ?_, ?_, ?_, ?_, ?_⟩
              all_goals (simp -implicitDefEqProofs (disch := first | exact nbf rfl | exact nbt rfl | (simp only [ne_eq, reduceCtorEq, not_false_eq_true]; done) | omega | (simp -implicitDefEqProofs only [zN.down] <;> omega) | fail) only [f3, f4, f5, f6, f7, f8, f32, f33, f34, XOp.kind, reduceCtorEq, V.bool, V.i64, aUn, aBox, aLoad, aArrAddr, aFold, aEqV, chkAdd, effAdd, AOp.kind, chkAll, chkSee, zP.down, zQ.down, zR.down, simprocAttr]; done)
        · rintro _ ⟨ρ', σ', rfl, kp, f3, f4, f5, f6, f7, f8, f32, f33, f34⟩
          have hr : dk.RR σ w M := ⟨cs, g, hc⟩
          simp -implicitDefEqProofs (disch := first | exact nbf rfl | exact nbt rfl | (simp only [ne_eq, reduceCtorEq, not_false_eq_true]; done) | omega | (simp -implicitDefEqProofs only [zN.down] <;> omega) | fail) only [f3, f4, f5, f6, f7, f8, f32, f33, f34, w3, XOp.kind, reduceCtorEq, V.bool, V.i64, aUn, aBox, aLoad, aArrAddr, aFold, aEqV, chkAdd, effAdd, AOp.kind, chkAll, chkSee, zP.down, zQ.down, zR.down, simprocAttr]
          exact ⟨l.length - (i + 1), by omega, i + 1, b, y, M, z, rfl, hl, hd.kept kp (fun h => h), hr.kept kp (fun h => h), kp.get _ _ (fun h => h) hb, kp.get _ _ (fun h => h) hy, hM.more (by omega), hz, hby, hne, rfl, rfl, rfl⟩
      · have d1 : decide ((i : Int) < (l.length : Int)) = false := by simpa using hl
        simp -implicitDefEqProofs (disch := first | exact nbf rfl | exact nbt rfl | (simp only [ne_eq, reduceCtorEq, not_false_eq_true]; done) | omega | (simp -implicitDefEqProofs only [zN.down] <;> omega) | fail) only [d1, e33, e34, XOp.kind, reduceCtorEq, V.bool, V.i64, aUn, aBox, aLoad, aArrAddr, aFold, aEqV, chkAdd, effAdd, AOp.kind, chkAll, chkSee, zP.down, zQ.down, zR.down, simprocAttr]
        exact ⟨_, _, rfl⟩
  · rintro _ ⟨ρ, σ, rfl⟩
    simp -implicitDefEqProofs (disch := first | exact nbf rfl | exact nbt rfl | (simp only [ne_eq, reduceCtorEq, not_false_eq_true]; done) | omega | (simp -implicitDefEqProofs only [zN.down] <;> omega) | fail) only [XOp.kind, reduceCtorEq, V.bool, V.i64, aUn, aBox, aLoad, aArrAddr, aFold, aEqV, chkAdd, effAdd, AOp.kind, chkAll, chkSee, zP.down, zQ.down, zR.down, simprocAttr]
theorem plays_good (x : V) (w : ArgA (.sl stT) x) : good (callN Tab.tbl 9223372036854776000 6 [x] St.empty) = true := by
  obtain ⟨l, h⟩ := scr_of w
  obtain ⟨σ1, hw⟩ := works_ok
  exact call_turned Tab.turned (w_good (plays_run 9223372036854775992 St.empty x l h (by decide) σ1 hw))
end Go.Proofs.Ytllkidpebjgkeaa.vt
