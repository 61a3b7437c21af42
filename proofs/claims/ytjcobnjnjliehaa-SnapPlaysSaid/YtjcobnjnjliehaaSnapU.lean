/-
  SnapPlays: works.
  Snapshots: a piece.
  Snapshots: a file's bytes.
  Snapshots: what stands in a file.
  Snapshots: loaded.
  Snapshots: saved.
  Snapshots: what is there behind a crash (plain).
-/
import Derived.Test.YtjcobnjnjliehaaAbA
import Derived.Test.YtjcobnjnjliehaaAbB
import Derived.Test.YtjcobnjnjliehaaAbI
import Derived.Test.YtjcobnjnjliehaaAbC
import Derived.KernelRfl
import Derived.Test.YtjcobnjnjliehaaFrU
import Derived.Test.YtjcobnjnjliehaaDiskU
namespace Go.Proofs.Ytjcobnjnjliehaa.sn
open Go.Ab
set_option maxRecDepth 100000
set_option maxHeartbeats 8000000
set_option linter.unusedSimpArgs false
set_option linter.unusedVariables false

theorem works_run : (callY Tab.tb 9223372036854775999 noYl 8 [] St.empty).map (·.1) = some (.sc (.bool true)) := by kernel_rfl
theorem works_ok : ∃ σ1, callY Tab.tb (9223372036854775997 + 2) noYl 8 [] St.empty = some (.sc (.bool true), σ1) := by
  have h := works_run
  rw [Option.map_eq_some_iff] at h
  obtain ⟨⟨v, σ1⟩, h1, h2⟩ := h
  exact ⟨σ1, by rw [show (9223372036854775997 + 2 : Nat) = 9223372036854775999 from rfl, h1]; simp only at h2; rw [h2]⟩
end Go.Proofs.Ytjcobnjnjliehaa.sn
namespace Go.Proofs.Ytjcobnjnjliehaa.sn
open Go.Ab
set_option maxRecDepth 100000
set_option maxHeartbeats 8000000
set_option linter.unusedSimpArgs false
set_option linter.unusedVariables false

abbrev q2 : EqT := .struct [(0, none, .int .i64), (1, none, .int .i64)]
theorem eq2 (σ : St) (a b c d : Int) : aEqV σ q2 (.agg [.sc (.int .i64 a), .sc (.int .i64 b)]) (.agg [.sc (.int .i64 c), .sc (.int .i64 d)]) = some (a == c && b == d) := by
  simp [aEqV, aEqFs, aPart, aEqInt]

/-- A piece. -/
def pc (t : List UInt8) (i : Nat) : List UInt8 := (t.drop i).take (min (i + 2048) t.length - i)
theorem pcm {i n : Nat} : (if (n : Int) < (i : Int) + 2048 then (n : Int) else (i : Int) + 2048) = ((min (i + 2048) n : Nat) : Int) := by split <;> omega
theorem piece_ok (k : Nat) (ys : YlF) (σ : St) (t : List UInt8) (i : Nat) (h1 : i ≤ t.length) (ht : t.length ≤ 140737488355328) :
    callY Tab.tb (k + 1) ys 9 [.str t, .sc (.int .i64 i)] σ = some (.tup [.str (pc t i), .sc (.int .i64 0)], σ) := by
  rw [s_call (af := Tab.b9) rfl (Nat.le_of_ble_eq_true rfl)]
  generalize callY Tab.tb k = cy
  have d1 : decide ((i : Int) < 0) = false := by simp
  have d2 : decide ((i : Int) > (t.length : Int)) = false := by simp; omega
  have w1 : IntKind.i64.wrap ((i : Int) + 2048) = (i : Int) + 2048 := wrap64 (by omega) (by omega)
  have hs := str_sl (s := t) (l := i) (h := min (i + 2048) t.length) (by omega) (by omega)
  simp -implicitDefEqProofs (disch := first | exact nbf rfl | exact nbt rfl | (simp only [ne_eq, reduceCtorEq, not_false_eq_true]; done) | omega | (simp -implicitDefEqProofs only [zN.down] <;> omega) | fail) only [Tab.b9, d1, d2, w1, pcm, hs, pc, XOp.kind, reduceCtorEq, V.bool, V.i64, aUn, aBox, aLoad, aArrAddr, aFold, aEqV, chkAdd, effAdd, AOp.kind, chkAll, chkSee, zP.down, zQ.down, zR.down, simprocAttr]

theorem pc_len (t : List UInt8) (i : Nat) (h : i ≤ t.length) : (pc t i).length = min 2048 (t.length - i) := by
  unfold pc
  rw [List.length_take, List.length_drop]
  omega
theorem pc_add (t : List UInt8) (i : Nat) (h : i ≤ t.length) : t.take i ++ pc t i = t.take (i + (pc t i).length) := by
  have hl := pc_len t i h
  unfold pc at *
  rw [List.take_add, List.length_take, List.length_drop]
  congr 1
  rw [List.take_eq_take_iff, List.length_drop]
  omega
end Go.Proofs.Ytjcobnjnjliehaa.sn
namespace Go.Proofs.Ytjcobnjnjliehaa.sn
open Go.Ab fr
set_option maxRecDepth 100000
set_option maxHeartbeats 8000000
set_option linter.unusedSimpArgs false
set_option linter.unusedVariables false

def magic : List UInt8 := [115, 110, 97, 112, 115, 104, 111, 116]
def shead (i t n : Nat) : List UInt8 := magic ++ be 8 i ++ be 8 t ++ be 8 n
theorem shead_len (i t n : Nat) : (shead i t n).length = 32 := by simp [shead, be_len, magic]
def pcs (x : List UInt8) : List (List UInt8) := (List.range ((x.length + 2047) / 2048)).map fun i => pc x (2048 * i)
def fputs (l : List (List UInt8)) : List UInt8 := (l.map fput).flatten
def sfile (i t : Nat) (x : List UInt8) : List UInt8 := fput (shead i t x.length) ++ fputs (pcs x)
theorem fputs_append (a b : List (List UInt8)) : fputs (a ++ b) = fputs a ++ fputs b := by simp [fputs]
theorem fputs_len (l : List (List UInt8)) : (fputs l).length = flen l := by
  induction l with
  | nil => rfl
  | cons p l ih => simp only [fputs, List.map_cons, List.flatten_cons, List.length_append, flen, fput_len] at ih ⊢; rw [ih]
theorem pcs_len (x : List UInt8) : (pcs x).length = (x.length + 2047) / 2048 := by simp [pcs]
theorem pcs_at {x : List UInt8} {j : Nat} (h : j < (pcs x).length) : (pcs x)[j] = pc x (2048 * j) := by simp [pcs]
theorem pcs_take (x : List UInt8) : ∀ j, j ≤ (pcs x).length → ((pcs x).take j).flatten = x.take (2048 * j)
  | 0, _ => by simp
  | j + 1, h => by
    have hl := pcs_len x
    rw [List.take_add_one, List.getElem?_eq_getElem (by omega), List.flatten_append, pcs_take x j (by omega), pcs_at (by omega)]
    simp only [Option.toList_some, List.flatten_cons, List.flatten_nil, List.append_nil]
    rw [pc_add _ _ (by omega), pc_len _ _ (by omega)]
    rw [List.take_eq_take_iff]
    omega
theorem pcs_flat (x : List UInt8) : (pcs x).flatten = x := by
  have h := pcs_take x (pcs x).length (Nat.le_refl _)
  rw [List.take_length] at h
  rw [h]
  exact List.take_of_length_le (by rw [pcs_len]; omega)
theorem pcs_small {x p : List UInt8} (h : p ∈ pcs x) : p.length ≤ 2048 := by
  obtain ⟨j, hj, rfl⟩ := List.mem_map.1 h
  unfold pc
  rw [List.length_take]
  omega
theorem flen_pcs (x : List UInt8) : ∀ j, j ≤ (pcs x).length → flen ((pcs x).take j) ≤ 2048 * j + 12 * j
  | 0, _ => by simp [flen]
  | j + 1, h => by
    have := flen_pcs x j (by omega)
    rw [List.take_add_one, List.getElem?_eq_getElem (by omega), flen_append, pcs_at (by omega)]
    have hl := pcs_len x
    have h2 := pc_len x (2048 * j) (by omega)
    simp only [Option.toList_some, flen]
    omega

theorem file_ok (k : Nat) (ys : YlF) (σ : St) (i t : Nat) (x : List UInt8) (hi : i < 9223372036854775808) (ht : t < 9223372036854775808) (hx : x.length ≤ 2000000) (hk : 10000 ≤ k) :
    W (callY Tab.tb (k + 5) ys 35 [.agg [.sc (.int .i64 i), .sc (.int .i64 t)], .str x] σ) fun r => r.1 = .str (sfile i t x) ∧ Kept noX σ r.2 := by
  rw [s_call (af := Tab.b35) rfl (Nat.le_of_ble_eq_true rfl)]
  have hu := fun σ n hn => u64_ok (k + 2) ys σ n hn
  have hp := fun σ p hp => fr.put_ok k ys σ p hp (by omega)
  have hpc := fun σ i h => piece_ok (k + 3) ys σ x i h (by omega)
  generalize callY Tab.tb (k + 4) = cy at hu hp hpc ⊢
  have c1 : IntKind.u64.wrap (i : Int) = i := wrap_u64 (by omega)
  have c2 : IntKind.u64.wrap (t : Int) = t := wrap_u64 (by omega)
  have c3 : IntKind.u64.wrap (x.length : Int) = (x.length : Nat) := wrap_u64 (by omega)
  have u1 := fun σ => hu σ i (by omega)
  have u2 := fun σ => hu σ t (by omega)
  have u3 := fun σ => hu σ x.length (by omega)
  have a1 : aBin .add (.str [115, 110, 97, 112, 115, 104, 111, 116]) (.str (be 8 i)) = some (.str (magic ++ be 8 i)) := str_add (a := magic) (by rw [be_len]; decide)
  have a2 := str_add (a := magic ++ be 8 i) (b := be 8 t) (by simp [be_len, magic])
  have a3 : aBin .add (.str (magic ++ be 8 i ++ be 8 t)) (.str (be 8 x.length)) = some (.str (shead i t x.length)) := str_add (by simp [be_len, magic])
  simp -implicitDefEqProofs (disch := first | exact nbf rfl | exact nbt rfl | (simp only [ne_eq, reduceCtorEq, not_false_eq_true]; done) | omega | (simp -implicitDefEqProofs only [zN.down] <;> omega) | fail) only [Tab.b35, c1, c2, c3, u1, u2, u3, a1, a2, a3, XOp.kind, reduceCtorEq, V.bool, V.i64, aUn, aBox, aLoad, aArrAddr, aFold, aEqV, chkAdd, effAdd, AOp.kind, chkAll, chkSee, zP.down, zQ.down, zR.down, simprocAttr]
  repeat (first | refine w_fin ?_ | refine w_seq ?_ | refine w_block ?_ | refine w_reg ?_ | refine w_op ?_ | refine w_dop ?_)
  refine (hp _ (shead i t x.length) (by rw [shead_len]; decide)).mono ?_
  rintro ⟨_, σ1⟩ ⟨rfl, k1⟩
  dsimp only at k1
  simp -implicitDefEqProofs (disch := first | exact nbf rfl | exact nbt rfl | (simp only [ne_eq, reduceCtorEq, not_false_eq_true]; done) | omega | (simp -implicitDefEqProofs only [zN.down] <;> omega) | fail) only [XOp.kind, reduceCtorEq, V.bool, V.i64, aUn, aBox, aLoad, aArrAddr, aFold, aEqV, chkAdd, effAdd, AOp.kind, chkAll, chkSee, zP.down, zQ.down, zR.down, simprocAttr]
  repeat (first | refine w_fin ?_ | refine w_seq ?_ | refine w_block ?_ | refine w_reg ?_ | refine w_op ?_ | refine w_dop ?_)
  have hl := pcs_len x
  refine W.mono (Q := fun q => ∃ (ρ : Env) (σ' : St), q = ((.exit 0 : Ex), ρ, σ') ∧ ρ 5 = .str (sfile i t x) ∧ Kept noX σ σ') ?_ ?_
  · refine w_loop (fun m ρ σ' => ∃ j, m = (pcs x).length - j ∧ j ≤ (pcs x).length ∧ ρ 1 = .str x ∧ ρ 5 = .str (fput (shead i t x.length) ++ fputs ((pcs x).take j)) ∧ ρ 7 = .sc (.int .i64 ((2048 * j : Nat) : Int)) ∧ Kept noX σ σ') (pcs x).length (by omega) ?_ ?_
    · refine ⟨0, rfl, Nat.zero_le _, ?_, ?_, ?_, (Kept.refl _ _).bump.trans k1⟩
      all_goals first | rfl | (simp -implicitDefEqProofs (disch := first | exact nbf rfl | exact nbt rfl | (simp only [ne_eq, reduceCtorEq, not_false_eq_true]; done) | omega | (simp -implicitDefEqProofs only [zN.down] <;> omega) | fail) only [XOp.kind, reduceCtorEq, V.bool, V.i64, aUn, aBox, aLoad, aArrAddr, aFold, aEqV, chkAdd, effAdd, AOp.kind, chkAll, chkSee, zP.down, zQ.down, zR.down, simprocAttr]; done) | (simp -implicitDefEqProofs (disch := first | exact nbf rfl | exact nbt rfl | (simp only [ne_eq, reduceCtorEq, not_false_eq_true]; done) | omega | (simp -implicitDefEqProofs only [zN.down] <;> omega) | fail) only [fputs, XOp.kind, reduceCtorEq, V.bool, V.i64, aUn, aBox, aLoad, aArrAddr, aFold, aEqV, chkAdd, effAdd, AOp.kind, chkAll, chkSee, zP.down, zQ.down, zR.down, simprocAttr]; done)
    · rintro m ρ σ' ⟨j, hm, hj, e1, e5, e7, kp⟩
      by_cases hlt : 2048 * j < x.length
      · have d1 : decide (((2048 * j : Nat) : Int) < (x.length : Int)) = true := by simp only [decide_eq_true_eq]; omega
        have hjl : j < (pcs x).length := by omega
        have p1 := fun σ => hpc σ (2048 * j) (by omega)
        have hpl := pc_len x (2048 * j) (by omega)
        simp -implicitDefEqProofs (disch := first | exact nbf rfl | exact nbt rfl | (simp only [ne_eq, reduceCtorEq, not_false_eq_true]; done) | omega | (simp -implicitDefEqProofs only [zN.down] <;> omega) | fail) only [d1, e1, e5, e7, p1, XOp.kind, reduceCtorEq, V.bool, V.i64, aUn, aBox, aLoad, aArrAddr, aFold, aEqV, chkAdd, effAdd, AOp.kind, chkAll, chkSee, zP.down, zQ.down, zR.down, simprocAttr]
        repeat (first | refine w_fin ?_ | refine w_seq ?_ | refine w_block ?_ | refine w_reg ?_ | refine w_op ?_ | refine w_dop ?_)
        refine (hp σ' (pc x (2048 * j)) (by omega)).mono ?_
        rintro ⟨_, σ2⟩ ⟨rfl, k2⟩
        dsimp only at k2
        have hfl := flen_pcs x j (by omega)
        have a5 := str_add (a := fput (shead i t x.length) ++ fputs ((pcs x).take j)) (b := fput (pc x (2048 * j))) (by rw [List.length_append, fput_len, fput_len, shead_len, fputs_len]; omega)
        have hsn : fput (shead i t x.length) ++ fputs ((pcs x).take j) ++ fput (pc x (2048 * j)) = fput (shead i t x.length) ++ fputs ((pcs x).take (j + 1)) := by
          rw [List.append_assoc, List.take_add_one, List.getElem?_eq_getElem hjl, fputs_append, pcs_at hjl]
          simp [fputs]
        rw [hsn] at a5
        have w1 : IntKind.i64.wrap (((2048 * j : Nat) : Int) + 2048) = ((2048 * (j + 1) : Nat) : Int) := by rw [wrap64 (by omega) (by omega)]; omega
        simp -implicitDefEqProofs (disch := first | exact nbf rfl | exact nbt rfl | (simp only [ne_eq, reduceCtorEq, not_false_eq_true]; done) | omega | (simp -implicitDefEqProofs only [zN.down] <;> omega) | fail) only [e1, e5, e7, a5, w1, XOp.kind, reduceCtorEq, V.bool, V.i64, aUn, aBox, aLoad, aArrAddr, aFold, aEqV, chkAdd, effAdd, AOp.kind, chkAll, chkSee, zP.down, zQ.down, zR.down, simprocAttr]
        exact ⟨(pcs x).length - (j + 1), by omega, j + 1, rfl, hjl, rfl, rfl, kp.trans k2⟩
      · have d1 : decide (((2048 * j : Nat) : Int) < (x.length : Int)) = false := by simp only [decide_eq_false_iff_not]; omega
        have hjl : j = (pcs x).length := by omega
        subst hjl
        rw [List.take_length] at e5
        simp -implicitDefEqProofs (disch := first | exact nbf rfl | exact nbt rfl | (simp only [ne_eq, reduceCtorEq, not_false_eq_true]; done) | omega | (simp -implicitDefEqProofs only [zN.down] <;> omega) | fail) only [d1, e1, e5, e7, XOp.kind, reduceCtorEq, V.bool, V.i64, aUn, aBox, aLoad, aArrAddr, aFold, aEqV, chkAdd, effAdd, AOp.kind, chkAll, chkSee, zP.down, zQ.down, zR.down, simprocAttr]
        exact ⟨_, _, rfl, by simp -implicitDefEqProofs (disch := first | exact nbf rfl | exact nbt rfl | (simp only [ne_eq, reduceCtorEq, not_false_eq_true]; done) | omega | (simp -implicitDefEqProofs only [zN.down] <;> omega) | fail) only [e5, sfile, XOp.kind, reduceCtorEq, V.bool, V.i64, aUn, aBox, aLoad, aArrAddr, aFold, aEqV, chkAdd, effAdd, AOp.kind, chkAll, chkSee, zP.down, zQ.down, zR.down, simprocAttr], kp⟩
  · rintro _ ⟨ρ, σ', rfl, e5, kp⟩
    simp -implicitDefEqProofs (disch := first | exact nbf rfl | exact nbt rfl | (simp only [ne_eq, reduceCtorEq, not_false_eq_true]; done) | omega | (simp -implicitDefEqProofs only [zN.down] <;> omega) | fail) only [e5, XOp.kind, reduceCtorEq, V.bool, V.i64, aUn, aBox, aLoad, aArrAddr, aFold, aEqV, chkAdd, effAdd, AOp.kind, chkAll, chkSee, zP.down, zQ.down, zR.down, simprocAttr]
    exact kp
end Go.Proofs.Ytjcobnjnjliehaa.sn
namespace Go.Proofs.Ytjcobnjnjliehaa.sn
open Go.Ab fr
set_option maxRecDepth 100000
set_option maxHeartbeats 8000000
set_option linter.unusedSimpArgs false
set_option linter.unusedVariables false

/-- What is read: the mark, the text, whether it is one. -/
structure Sr where
  i : Nat
  t : Nat
  x : List UInt8
  ok : Bool
def bad0 : Sr := ⟨0, 0, [], false⟩
def sread (s : List UInt8) : Sr :=
  match scan s with
  | [] => bad0
  | p :: l =>
    if flen (p :: l) ≠ s.length ∨ p.length ≠ 32 ∨ p.take 8 ≠ magic then bad0
    else if val ((p.drop 8).take 8) < 1 ∨ val ((p.drop 8).take 8) > 1048576 ∨ val ((p.drop 16).take 8) > 1099511627776 ∨ val ((p.drop 24).take 8) > 262144 then bad0
    else ⟨val ((p.drop 8).take 8), val ((p.drop 16).take 8), l.flatten, decide (sfile (val ((p.drop 8).take 8)) (val ((p.drop 16).take 8)) l.flatten = s) && decide (l.flatten.length = val ((p.drop 24).take 8))⟩
def srt (r : Sr) : V := .tup [.agg [.sc (.int .i64 r.i), .sc (.int .i64 r.t)], .str r.x, .sc (.bool r.ok)]
theorem flat_flen (l : List (List UInt8)) : l.flatten.length ≤ flen l := by
  induction l with
  | nil => simp
  | cons p l ih => simp only [List.flatten_cons, List.length_append, flen]; omega
theorem flat_take (l : List (List UInt8)) (j : Nat) : (l.take j).flatten.length ≤ l.flatten.length := by
  have h := congrArg List.length (congrArg List.flatten (List.take_append_drop j l))
  rw [List.flatten_append, List.length_append] at h
  omega
theorem sc1_flat (l : List (List UInt8)) : (l.map sc1).flatten = l.map V.str := by
  induction l with
  | nil => rfl
  | cons p l ih => rw [List.map_cons, List.flatten_cons, ih]; rfl

theorem read_ok (k : Nat) (ys : YlF) (σ : St) (s : List UInt8) (hs : s.length ≤ 1048576) (hk : 1100000 ≤ k) :
    W (callY Tab.tb (k + 7) ys 33 [.str s] σ) fun r => r.1 = srt (sread s) ∧ Kept noX σ r.2 := by
  rw [s_call (af := Tab.b33) rfl (Nat.le_of_ble_eq_true rfl)]
  have hsc := fun σ => scan_ok k ys σ s (by omega) (by omega)
  have hnew := fun σ s => rnew_ok (k + 5) ys σ s
  have hr := fun σ o r h hl ha => ru64_ok (k + 3) ys σ o r h hl ha (by omega)
  have hfile := fun σ i t x hi ht hx => file_ok (k + 1) ys σ i t x hi ht hx (by omega)
  generalize callY Tab.tb (k + 6) = cy at hsc hnew hr hfile ⊢
  simp -implicitDefEqProofs (disch := first | exact nbf rfl | exact nbt rfl | (simp only [ne_eq, reduceCtorEq, not_false_eq_true]; done) | omega | (simp -implicitDefEqProofs only [zN.down] <;> omega) | fail) only [Tab.b33, XOp.kind, reduceCtorEq, V.bool, V.i64, aUn, aBox, aLoad, aArrAddr, aFold, aEqV, chkAdd, effAdd, AOp.kind, chkAll, chkSee, zP.down, zQ.down, zR.down, simprocAttr]
  repeat (first | refine w_fin ?_ | refine w_seq ?_ | refine w_block ?_ | refine w_reg ?_ | refine w_op ?_ | refine w_dop ?_)
  refine (hsc σ.bump).mono ?_
  rintro ⟨_, σ1⟩ ⟨v, rfl, how, k1⟩
  dsimp only at how k1
  have hfs := flen_scan _ s (Nat.le_refl _)
  have hrv := how.rv
  have kk : Kept noX σ σ1 := (Kept.refl _ _).bump.trans k1
  unfold sread
  clear how
  generalize scan s = L at *
  have hlen := hrv.len
  have hsize := hrv.size
  rw [List.length_map] at hlen
  cases L with
  | nil =>
    have z : ((([] : List (List UInt8)).length : Nat) : Int) = 0 := rfl
    rw [z] at hlen
    simp -implicitDefEqProofs (disch := first | exact nbf rfl | exact nbt rfl | (simp only [ne_eq, reduceCtorEq, not_false_eq_true]; done) | omega | (simp -implicitDefEqProofs only [zN.down] <;> omega) | fail) only [hlen, srt, bad0, XOp.kind, reduceCtorEq, V.bool, V.i64, aUn, aBox, aLoad, aArrAddr, aFold, aEqV, chkAdd, effAdd, AOp.kind, chkAll, chkSee, zP.down, zQ.down, zR.down, simprocAttr]
    exact kk
  | cons p l =>
    dsimp only
    have z : (((l.length + 1 : Nat) : Int) == 0) = false := by simp only [beq_eq_false_iff_ne, ne_eq]; omega
    have a0 : aSlAddr v (.sc (.int .i64 0)) = some (.elt ((p :: l).map sc1).flatten 0) := by
      have := (hrv.at (i := 0) (by simp)).1
      simpa using this
    have b0 : aLoad σ1 (.elt ((p :: l).map sc1).flatten 0) none = some (.str p) := by simp [aLoad, aPart, sc1]
    generalize ((p :: l).map sc1).flatten = C at a0 b0
    by_cases c1 : flen (p :: l) = s.length
    · have d1 : ((flen (p :: l) : Int) != (s.length : Int)) = false := by simp [c1]
      by_cases c2 : p.length = 32
      · have d2 : ((p.length : Int) != 32) = false := by simp; omega
        have s8 : aSlice (.str p) none (some (.sc (.int .i64 8))) none = some (.str (p.take 8)) := str_lo (h := 8) (by omega)
        by_cases c3 : p.take 8 = magic
        · have d3 : (!decide (p.take 8 = [115, 110, 97, 112, 115, 104, 111, 116])) = false := by
            rw [Bool.not_eq_false']; exact decide_eq_true c3
          have h8 : aSlice (.str p) (some (.sc (.int .i64 8))) none none = some (.str (p.drop 8)) := str_hi (l := 8) (by omega)
          rw [if_neg (by simp only [c1, c2, c3, ne_eq, not_true_eq_false, or_self, not_false_eq_true])]
          simp -implicitDefEqProofs (disch := first | exact nbf rfl | exact nbt rfl | (simp only [ne_eq, reduceCtorEq, not_false_eq_true]; done) | omega | (simp -implicitDefEqProofs only [zN.down] <;> omega) | fail) only [hlen, hsize, z, d1, d2, d3, a0, b0, s8, h8, hnew, str_ne, XOp.kind, reduceCtorEq, V.bool, V.i64, aUn, aBox, aArrAddr, aFold, aEqV, chkAdd, effAdd, AOp.kind, chkAll, chkSee, zP.down, zQ.down, zR.down, simprocAttr]
          repeat (first | refine w_fin ?_ | refine w_seq ?_ | refine w_block ?_ | refine w_reg ?_ | refine w_op ?_ | refine w_dop ?_)
          have r0 := RR.new σ1 (p.drop 8)
          generalize hσ2 : σ1.push (.cells [.str (p.drop 8), .sc (.int .i64 0), .sc (.int .i64 0), .sc (.int .i64 0)]) = σ2 at *
          have hd : (p.drop 8).length = 24 := by rw [List.length_drop]; omega
          have g1 : (Rd.mk (p.drop 8) 0 0 0).num 8 = val ((p.drop 8).take 8) := by unfold Rd.num; rw [if_neg (by simp only [hd]; omega)]; simp
          have g2 : (Rd.mk (p.drop 8) 0 0 0).go 8 = ⟨p.drop 8, 8, 0, 0⟩ := by unfold Rd.go; rw [if_neg (by simp), if_neg (by simp only [hd]; omega)]
          have g3 : (Rd.mk (p.drop 8) 8 0 0).num 8 = val ((p.drop 16).take 8) := by unfold Rd.num; rw [if_neg (by simp only [hd]; omega)]; simp
          have g4 : (Rd.mk (p.drop 8) 8 0 0).go 8 = ⟨p.drop 8, 16, 0, 0⟩ := by unfold Rd.go; rw [if_neg (by simp), if_neg (by simp only [hd]; omega)]
          have g5 : (Rd.mk (p.drop 8) 16 0 0).num 8 = val ((p.drop 24).take 8) := by unfold Rd.num; rw [if_neg (by simp only [hd]; omega)]; simp
          have g6 : (Rd.mk (p.drop 8) 16 0 0).go 8 = ⟨p.drop 8, 24, 0, 0⟩ := by unfold Rd.go; rw [if_neg (by simp), if_neg (by simp only [hd]; omega)]
          refine (hr σ2 σ1.n _ r0 (by simp only [hd]; decide) (Nat.zero_le _)).mono ?_
          rintro ⟨_, σ3⟩ ⟨rfl, r3, k3⟩
          dsimp only at r3 k3
          rw [g2] at r3
          rw [g1]
          simp -implicitDefEqProofs (disch := first | exact nbf rfl | exact nbt rfl | (simp only [ne_eq, reduceCtorEq, not_false_eq_true]; done) | omega | (simp -implicitDefEqProofs only [zN.down] <;> omega) | fail) only [XOp.kind, reduceCtorEq, V.bool, V.i64, aUn, aBox, aLoad, aArrAddr, aFold, aEqV, chkAdd, effAdd, AOp.kind, chkAll, chkSee, zP.down, zQ.down, zR.down, simprocAttr]
          repeat (first | refine w_fin ?_ | refine w_seq ?_ | refine w_block ?_ | refine w_reg ?_ | refine w_op ?_ | refine w_dop ?_)
          refine (hr σ3 σ1.n _ r3 (by simp only [hd]; decide) (by simp only [hd]; decide)).mono ?_
          rintro ⟨_, σ4⟩ ⟨rfl, r4, k4⟩
          dsimp only at r4 k4
          rw [g4] at r4
          rw [g3]
          simp -implicitDefEqProofs (disch := first | exact nbf rfl | exact nbt rfl | (simp only [ne_eq, reduceCtorEq, not_false_eq_true]; done) | omega | (simp -implicitDefEqProofs only [zN.down] <;> omega) | fail) only [XOp.kind, reduceCtorEq, V.bool, V.i64, aUn, aBox, aLoad, aArrAddr, aFold, aEqV, chkAdd, effAdd, AOp.kind, chkAll, chkSee, zP.down, zQ.down, zR.down, simprocAttr]
          repeat (first | refine w_fin ?_ | refine w_seq ?_ | refine w_block ?_ | refine w_reg ?_ | refine w_op ?_ | refine w_dop ?_)
          refine (hr σ4 σ1.n _ r4 (by simp only [hd]; decide) (by simp only [hd]; decide)).mono ?_
          rintro ⟨_, σ5⟩ ⟨rfl, r5, k5⟩
          dsimp only at r5 k5
          rw [g5]
          have kk5 : Kept noX σ σ5 := by
            have := (k3.trans k4).trans k5
            rw [← hσ2] at this
            exact kk.trans (Kept.new this)
          generalize val ((p.drop 8).take 8) = i at *
          generalize val ((p.drop 16).take 8) = t at *
          generalize val ((p.drop 24).take 8) = n at *
          by_cases e1 : i < 1
          · have f1 : decide ((i : Int) < 1) = true := by simp; omega
            rw [if_pos (.inl e1)]
            simp -implicitDefEqProofs (disch := first | exact nbf rfl | exact nbt rfl | (simp only [ne_eq, reduceCtorEq, not_false_eq_true]; done) | omega | (simp -implicitDefEqProofs only [zN.down] <;> omega) | fail) only [f1, srt, bad0, XOp.kind, reduceCtorEq, V.bool, V.i64, aUn, aBox, aLoad, aArrAddr, aFold, aEqV, chkAdd, effAdd, AOp.kind, chkAll, chkSee, zP.down, zQ.down, zR.down, simprocAttr]
            exact kk5
          have f1 : decide ((i : Int) < 1) = false := by simp; omega
          by_cases e2 : i > 1048576
          · have f2 : decide ((i : Int) > 1048576) = true := by simp; omega
            rw [if_pos (.inr (.inl e2))]
            simp -implicitDefEqProofs (disch := first | exact nbf rfl | exact nbt rfl | (simp only [ne_eq, reduceCtorEq, not_false_eq_true]; done) | omega | (simp -implicitDefEqProofs only [zN.down] <;> omega) | fail) only [f1, f2, srt, bad0, XOp.kind, reduceCtorEq, V.bool, V.i64, aUn, aBox, aLoad, aArrAddr, aFold, aEqV, chkAdd, effAdd, AOp.kind, chkAll, chkSee, zP.down, zQ.down, zR.down, simprocAttr]
            exact kk5
          have f2 : decide ((i : Int) > 1048576) = false := by simp; omega
          by_cases e3 : t > 1099511627776
          · have f3 : decide ((t : Int) > 1099511627776) = true := by simp; omega
            rw [if_pos (.inr (.inr (.inl e3)))]
            simp -implicitDefEqProofs (disch := first | exact nbf rfl | exact nbt rfl | (simp only [ne_eq, reduceCtorEq, not_false_eq_true]; done) | omega | (simp -implicitDefEqProofs only [zN.down] <;> omega) | fail) only [f1, f2, f3, srt, bad0, XOp.kind, reduceCtorEq, V.bool, V.i64, aUn, aBox, aLoad, aArrAddr, aFold, aEqV, chkAdd, effAdd, AOp.kind, chkAll, chkSee, zP.down, zQ.down, zR.down, simprocAttr]
            exact kk5
          have f3 : decide ((t : Int) > 1099511627776) = false := by simp; omega
          by_cases e4 : n > 262144
          · have f4 : decide ((n : Int) > 262144) = true := by simp; omega
            rw [if_pos (.inr (.inr (.inr e4)))]
            simp -implicitDefEqProofs (disch := first | exact nbf rfl | exact nbt rfl | (simp only [ne_eq, reduceCtorEq, not_false_eq_true]; done) | omega | (simp -implicitDefEqProofs only [zN.down] <;> omega) | fail) only [f1, f2, f3, f4, srt, bad0, XOp.kind, reduceCtorEq, V.bool, V.i64, aUn, aBox, aLoad, aArrAddr, aFold, aEqV, chkAdd, effAdd, AOp.kind, chkAll, chkSee, zP.down, zQ.down, zR.down, simprocAttr]
            exact kk5
          have f4 : decide ((n : Int) > 262144) = false := by simp; omega
          rw [if_neg (by omega)]
          have w1 : IntKind.i64.wrap (i : Int) = i := wrap64 (by omega) (by omega)
          have w2 : IntKind.i64.wrap (t : Int) = t := wrap64 (by omega) (by omega)
          obtain ⟨y, hy, hyv⟩ := hrv.drop (i := 1) (by simp)
          have hyl := hyv.len
          have hys := hyv.size
          simp only [List.map_cons, List.drop_succ_cons, List.drop_zero, List.length_map] at hyl hyv
          have hy1 : ∀ σ, aSliceR σ v (some (.sc (.int .i64 1))) none none = some y := hy
          simp -implicitDefEqProofs (disch := first | exact nbf rfl | exact nbt rfl | (simp only [ne_eq, reduceCtorEq, not_false_eq_true]; done) | omega | (simp -implicitDefEqProofs only [zN.down] <;> omega) | fail) only [f1, f2, f3, f4, w1, w2, hsize, hy1, hyl, XOp.kind, reduceCtorEq, V.bool, V.i64, aUn, aBox, aLoad, aArrAddr, aFold, aEqV, chkAdd, effAdd, AOp.kind, chkAll, chkSee, zP.down, zQ.down, zR.down, simprocAttr]
          repeat (first | refine w_fin ?_ | refine w_seq ?_ | refine w_block ?_ | refine w_reg ?_ | refine w_op ?_ | refine w_dop ?_)
          have hfl : l.flatten.length + 12 ≤ s.length := by
            have := flat_flen l
            simp only [flen] at c1
            omega
          refine W.mono (Q := fun q => ∃ (ρ : Env), q = ((.exit 0 : Ex), ρ, σ5.bump) ∧ ρ 0 = .str s ∧ ρ 10 = .sc (.int .u64 n) ∧ ρ 11 = .agg [.sc (.int .i64 i), .sc (.int .i64 t)] ∧ ρ 12 = .str l.flatten ∧ ρ 2 = .agg [.sc (.int .i64 0), .sc (.int .i64 0)]) ?_ ?_
          · have hll : l.length ≤ flen l := len_flen l
            have hll2 : flen l ≤ s.length := by simp only [flen] at c1; omega
            refine w_loop (fun m ρ σ' => ∃ j, m = l.length - j ∧ j ≤ l.length ∧ σ' = σ5.bump ∧ ρ 0 = .str s ∧ ρ 10 = .sc (.int .u64 n) ∧ ρ 11 = .agg [.sc (.int .i64 i), .sc (.int .i64 t)] ∧ ρ 12 = .str (l.take j).flatten ∧ ρ 2 = .agg [.sc (.int .i64 0), .sc (.int .i64 0)] ∧ ρ 76 = y ∧ ρ 77 = .sc (.int .i64 l.length) ∧ ρ 78 = .sc (.int .i64 j)) l.length (by simp only [flen] at c1; omega) ?_ ?_
            · refine ⟨0, rfl, Nat.zero_le _, rfl, ?_, ?_, ?_, ?_, ?_, ?_, ?_, ?_⟩
              all_goals first | rfl | (simp -implicitDefEqProofs (disch := first | exact nbf rfl | exact nbt rfl | (simp only [ne_eq, reduceCtorEq, not_false_eq_true]; done) | omega | (simp -implicitDefEqProofs only [zN.down] <;> omega) | fail) only [XOp.kind, reduceCtorEq, V.bool, V.i64, aUn, aBox, aLoad, aArrAddr, aFold, aEqV, chkAdd, effAdd, AOp.kind, chkAll, chkSee, zP.down, zQ.down, zR.down, simprocAttr]; done) | (simp -implicitDefEqProofs (disch := first | exact nbf rfl | exact nbt rfl | (simp only [ne_eq, reduceCtorEq, not_false_eq_true]; done) | omega | (simp -implicitDefEqProofs only [zN.down] <;> omega) | fail) only [XOp.kind, reduceCtorEq, V.bool, V.i64, aUn, aBox, aLoad, aArrAddr, aFold, aEqV, chkAdd, effAdd, AOp.kind, chkAll, chkSee, zP.down, zQ.down, zR.down, simprocAttr]; rfl)
            · rintro m ρ σ' ⟨j, hm, hj, rfl, e0, e10, e11, e12, e2', e76, e77, e78⟩
              by_cases hlt : j < l.length
              · have q1 : decide ((j : Int) < (l.length : Int)) = true := by simpa using hlt
                obtain ⟨a1, _, _⟩ := hyv.at (i := j) (by simpa using hlt)
                have a4 := hyv.cellAt (i := j) (j := 0) (by simpa using hlt) (by omega)
                simp only [List.getElem_map, Nat.add_zero, sc1, List.getElem?_cons_zero, Nat.mul_one] at a4
                rw [Nat.mul_one] at a1
                have a5 : aLoad σ5.bump (.elt (l.map sc1).flatten j) none = some (.str l[j]) := by
                  simp only [aLoad, aPart]; exact a4
                have hft := flat_take l (j + 1)
                have htk : (l.take j).flatten ++ l[j] = (l.take (j + 1)).flatten := by
                  rw [List.take_add_one, List.getElem?_eq_getElem hlt, List.flatten_append]; simp
                have a6 := str_add (a := (l.take j).flatten) (b := l[j]) (by rw [← htk, List.length_append] at hft; omega)
                rw [htk] at a6
                have w3 : IntKind.i64.wrap ((j : Int) + 1) = ((j + 1 : Nat) : Int) := wrap64 (by omega) (by omega)
                simp -implicitDefEqProofs (disch := first | exact nbf rfl | exact nbt rfl | (simp only [ne_eq, reduceCtorEq, not_false_eq_true]; done) | omega | (simp -implicitDefEqProofs only [zN.down] <;> omega) | fail) only [q1, e0, e10, e11, e12, e2', e76, e77, e78, a1, a5, a6, hys, w3, XOp.kind, reduceCtorEq, V.bool, V.i64, aUn, aBox, aArrAddr, aFold, aEqV, chkAdd, effAdd, AOp.kind, chkAll, chkSee, zP.down, zQ.down, zR.down, simprocAttr]
                exact ⟨l.length - (j + 1), by omega, j + 1, rfl, hlt, rfl, rfl⟩
              · have q1 : decide ((j : Int) < (l.length : Int)) = false := by simpa using hlt
                have : j = l.length := by omega
                subst this
                rw [List.take_length] at e12
                simp -implicitDefEqProofs (disch := first | exact nbf rfl | exact nbt rfl | (simp only [ne_eq, reduceCtorEq, not_false_eq_true]; done) | omega | (simp -implicitDefEqProofs only [zN.down] <;> omega) | fail) only [q1, e77, e78, XOp.kind, reduceCtorEq, V.bool, V.i64, aUn, aBox, aLoad, aArrAddr, aFold, aEqV, chkAdd, effAdd, AOp.kind, chkAll, chkSee, zP.down, zQ.down, zR.down, simprocAttr]
                refine ⟨_, rfl, ?_, ?_, ?_, ?_, ?_⟩
                all_goals (simp -implicitDefEqProofs (disch := first | exact nbf rfl | exact nbt rfl | (simp only [ne_eq, reduceCtorEq, not_false_eq_true]; done) | omega | (simp -implicitDefEqProofs only [zN.down] <;> omega) | fail) only [e0, e10, e11, e12, e2', XOp.kind, reduceCtorEq, V.bool, V.i64, aUn, aBox, aLoad, aArrAddr, aFold, aEqV, chkAdd, effAdd, AOp.kind, chkAll, chkSee, zP.down, zQ.down, zR.down, simprocAttr]; done)
          · rintro _ ⟨ρ, rfl, e0, e10, e11, e12, e2'⟩
            simp -implicitDefEqProofs (disch := first | exact nbf rfl | exact nbt rfl | (simp only [ne_eq, reduceCtorEq, not_false_eq_true]; done) | omega | (simp -implicitDefEqProofs only [zN.down] <;> omega) | fail) only [e0, e10, e11, e12, XOp.kind, reduceCtorEq, V.bool, V.i64, aUn, aBox, aLoad, aArrAddr, aFold, aEqV, chkAdd, effAdd, AOp.kind, chkAll, chkSee, zP.down, zQ.down, zR.down, simprocAttr]
            repeat (first | refine w_fin ?_ | refine w_seq ?_ | refine w_block ?_ | refine w_reg ?_ | refine w_op ?_ | refine w_dop ?_)
            refine (hfile σ5.bump i t l.flatten (by omega) (by omega) (by omega)).mono ?_
            rintro ⟨_, σ6⟩ ⟨rfl, k6⟩
            dsimp only at k6
            have w4 : IntKind.u64.wrap (l.flatten.length : Int) = (l.flatten.length : Nat) := wrap_u64 (by omega)
            have kk6 := (kk5.bump).trans k6
            by_cases u1 : sfile i t l.flatten = s
            · have v1 := decide_eq_true u1
              have v2 : ((l.flatten.length : Int) == (n : Int)) = decide (l.flatten.length = n) := by
                rw [Bool.eq_iff_iff]; simp only [beq_iff_eq, decide_eq_true_eq]; omega
              simp -implicitDefEqProofs (disch := first | exact nbf rfl | exact nbt rfl | (simp only [ne_eq, reduceCtorEq, not_false_eq_true]; done) | omega | (simp -implicitDefEqProofs only [zN.down] <;> omega) | fail) only [e0, e10, e11, e12, e2', str_eq, v1, v2, w4, srt, XOp.kind, reduceCtorEq, V.bool, V.i64, aUn, aBox, aLoad, aArrAddr, aFold, aEqV, chkAdd, effAdd, AOp.kind, chkAll, chkSee, zP.down, zQ.down, zR.down, simprocAttr]
              exact kk6
            · have v1 := decide_eq_false u1
              simp -implicitDefEqProofs (disch := first | exact nbf rfl | exact nbt rfl | (simp only [ne_eq, reduceCtorEq, not_false_eq_true]; done) | omega | (simp -implicitDefEqProofs only [zN.down] <;> omega) | fail) only [e0, e10, e11, e12, e2', str_eq, v1, w4, srt, Bool.false_and, XOp.kind, reduceCtorEq, V.bool, V.i64, aUn, aBox, aLoad, aArrAddr, aFold, aEqV, chkAdd, effAdd, AOp.kind, chkAll, chkSee, zP.down, zQ.down, zR.down, simprocAttr]
              exact kk6
        · have d3 : (!decide (p.take 8 = [115, 110, 97, 112, 115, 104, 111, 116])) = true := by
            rw [Bool.not_eq_true']; exact decide_eq_false c3
          rw [if_pos (.inr (.inr c3))]
          simp -implicitDefEqProofs (disch := first | exact nbf rfl | exact nbt rfl | (simp only [ne_eq, reduceCtorEq, not_false_eq_true]; done) | omega | (simp -implicitDefEqProofs only [zN.down] <;> omega) | fail) only [hlen, hsize, z, d1, d2, d3, a0, b0, s8, str_ne, srt, bad0, XOp.kind, reduceCtorEq, V.bool, V.i64, aUn, aBox, aArrAddr, aFold, aEqV, chkAdd, effAdd, AOp.kind, chkAll, chkSee, zP.down, zQ.down, zR.down, simprocAttr]
          exact kk
      · have d2 : ((p.length : Int) != 32) = true := by simp; omega
        rw [if_pos (.inr (.inl c2))]
        simp -implicitDefEqProofs (disch := first | exact nbf rfl | exact nbt rfl | (simp only [ne_eq, reduceCtorEq, not_false_eq_true]; done) | omega | (simp -implicitDefEqProofs only [zN.down] <;> omega) | fail) only [hlen, hsize, z, d1, d2, a0, b0, srt, bad0, XOp.kind, reduceCtorEq, V.bool, V.i64, aUn, aBox, aArrAddr, aFold, aEqV, chkAdd, effAdd, AOp.kind, chkAll, chkSee, zP.down, zQ.down, zR.down, simprocAttr]
        exact kk
    · have d1 : ((flen (p :: l) : Int) != (s.length : Int)) = true := by simp; omega
      rw [if_pos (.inl c1)]
      simp -implicitDefEqProofs (disch := first | exact nbf rfl | exact nbt rfl | (simp only [ne_eq, reduceCtorEq, not_false_eq_true]; done) | omega | (simp -implicitDefEqProofs only [zN.down] <;> omega) | fail) only [hlen, hsize, z, d1, srt, bad0, XOp.kind, reduceCtorEq, V.bool, V.i64, aUn, aBox, aLoad, aArrAddr, aFold, aEqV, chkAdd, effAdd, AOp.kind, chkAll, chkSee, zP.down, zQ.down, zR.down, simprocAttr]
      exact kk
end Go.Proofs.Ytjcobnjnjliehaa.sn
namespace Go.Proofs.Ytjcobnjnjliehaa.sn
open Go.Ab fr dk
set_option maxRecDepth 100000
set_option maxHeartbeats 8000000
set_option linter.unusedSimpArgs false
set_option linter.unusedVariables false

def mst (M : DM) (f : Nat) (a : Sr) : Sr :=
  if (M.read f).2 ≠ 0 then a else if (sread (M.read f).1).ok = true ∧ (sread (M.read f).1).i > a.i then { sread (M.read f).1 with ok := true } else a
def mac (M : DM) : Nat → Sr
  | 0 => bad0
  | n + 1 => mst M (n + 2) (mac M n)
/-- What Load tells. -/
def mld (M : DM) : Sr × Int := if M.power = 0 then (bad0, 40) else if (mac M 2).ok = true then (mac M 2, 0) else (bad0, 4)
def ldt (r : Sr × Int) : V := .tup [.agg [.sc (.int .i64 r.1.i), .sc (.int .i64 r.1.t)], .str r.1.x, .sc (.int .i64 r.2)]
theorem read_len {M : DM} {B : Nat} (hm : M.Ok B) (f : Int) : (M.read f).1.length ≤ 1048576 := by
  unfold DM.read
  repeat' split
  all_goals first | (simp; done) | skip
  rename_i h _
  have h0 : 0 ≤ f ∧ f < 32 := by omega
  rw [see_in h0.1 h0.2]
  exact (hm.f f.toNat (by omega)).1.seen

theorem load_ok (k : Nat) (ys : YlF) (σ : St) (d : Nat) (M : DM) (h : DR σ d M) {B : Nat} (hm : M.Ok B) (hk : 1100000 ≤ k) :
    W (callY Tab.tb (k + 8) ys 17 [.ptr d 0] σ) fun r => r.1 = ldt (mld M) ∧ Kept noX σ r.2 := by
  rw [s_call (af := Tab.b17) rfl (Nat.le_of_ble_eq_true rfl)]
  have hon := fun σ h => on_ok (k + 6) ys σ d M h
  have hrd := fun σ f h => dk.read_ok (k + 5) ys σ d M f h
  have hsr := fun σ s hs => sn.read_ok k ys σ s hs hk
  generalize callY Tab.tb (k + 7) = cy at hon hrd hsr ⊢
  have hb := h.kept ((Kept.refl noX σ).bump) (fun h => h)
  unfold mld
  by_cases hp : M.power = 0
  · have d1 : (M.power != 0) = false := by simp [hp]
    have ho := hon _ hb
    rw [if_pos hp]
    simp -implicitDefEqProofs (disch := first | exact nbf rfl | exact nbt rfl | (simp only [ne_eq, reduceCtorEq, not_false_eq_true]; done) | omega | (simp -implicitDefEqProofs only [zN.down] <;> omega) | fail) only [Tab.b17, dk.pnil, ho, d1, ldt, bad0, XOp.kind, reduceCtorEq, V.bool, V.i64, aUn, aBox, aLoad, aArrAddr, aFold, chkAdd, effAdd, AOp.kind, chkAll, chkSee, zP.down, zQ.down, zR.down, simprocAttr]
    exact (Kept.refl _ _).bump
  have d1 : (M.power != 0) = true := by simp [hp]
  rw [if_neg hp]
  have ho := hon _ hb
  simp -implicitDefEqProofs (disch := first | exact nbf rfl | exact nbt rfl | (simp only [ne_eq, reduceCtorEq, not_false_eq_true]; done) | omega | (simp -implicitDefEqProofs only [zN.down] <;> omega) | fail) only [Tab.b17, dk.pnil, ho, d1, XOp.kind, reduceCtorEq, V.bool, V.i64, aUn, aBox, aLoad, aArrAddr, aFold, chkAdd, effAdd, AOp.kind, chkAll, chkSee, zP.down, zQ.down, zR.down, simprocAttr]
  repeat (first | refine w_fin ?_ | refine w_seq ?_ | refine w_block ?_ | refine w_reg ?_ | refine w_op ?_ | refine w_dop ?_)
  refine W.mono (Q := fun q => ∃ (ρ : Env) (σ' : St), q = ((.exit 0 : Ex), ρ, σ') ∧ ρ 0 = .ptr d 0 ∧ ρ 2 = .agg [.sc (.int .i64 (mac M 2).i), .sc (.int .i64 (mac M 2).t)] ∧ ρ 3 = .str (mac M 2).x ∧ ρ 5 = .sc (.bool (mac M 2).ok) ∧ Kept noX σ σ') ?_ ?_
  · refine w_loop (fun m ρ σ' => ∃ n, m = 2 - n ∧ n ≤ 2 ∧ ρ 0 = .ptr d 0 ∧ ρ 2 = .agg [.sc (.int .i64 (mac M n).i), .sc (.int .i64 (mac M n).t)] ∧ ρ 3 = .str (mac M n).x ∧ ρ 5 = .sc (.bool (mac M n).ok) ∧ ρ 6 = .sc (.int .i64 ((n + 2 : Nat) : Int)) ∧ Kept noX σ σ') 2 (by omega) ?_ ?_
    · refine ⟨0, rfl, by omega, ?_, ?_, ?_, ?_, ?_, (Kept.refl _ _).bump⟩
      all_goals first | rfl | (simp -implicitDefEqProofs (disch := first | exact nbf rfl | exact nbt rfl | (simp only [ne_eq, reduceCtorEq, not_false_eq_true]; done) | omega | (simp -implicitDefEqProofs only [zN.down] <;> omega) | fail) only [XOp.kind, reduceCtorEq, V.bool, V.i64, aUn, aBox, aLoad, aArrAddr, aFold, aEqV, chkAdd, effAdd, AOp.kind, chkAll, chkSee, zP.down, zQ.down, zR.down, simprocAttr]; done) | (simp -implicitDefEqProofs (disch := first | exact nbf rfl | exact nbt rfl | (simp only [ne_eq, reduceCtorEq, not_false_eq_true]; done) | omega | (simp -implicitDefEqProofs only [zN.down] <;> omega) | fail) only [XOp.kind, reduceCtorEq, V.bool, V.i64, aUn, aBox, aLoad, aArrAddr, aFold, aEqV, chkAdd, effAdd, AOp.kind, chkAll, chkSee, zP.down, zQ.down, zR.down, simprocAttr]; rfl)
    · rintro m ρ σ' ⟨n, hm2, hn, e0, e2, e3, e5, e6, kp⟩
      by_cases hl : n < 2
      · have c1 : decide (((n + 2 : Nat) : Int) ≤ 3) = true := by simp only [decide_eq_true_eq]; omega
        have w1 : IntKind.i64.wrap (((n + 2 : Nat) : Int) + 1) = ((n + 1 + 2 : Nat) : Int) := by rw [wrap64 (by omega) (by omega)]; omega
        have h1 := hrd σ' ((n + 2 : Nat) : Int) (h.kept kp (fun h => h))
        have hrl := read_len hm ((n + 2 : Nat) : Int)
        have hst : mac M (n + 1) = mst M (n + 2) (mac M n) := rfl
        unfold mst at hst
        generalize M.read ((n + 2 : Nat) : Int) = rr at *
        by_cases c2 : rr.2 = 0
        · have d2 : (rr.2 != 0) = false := by simp [c2]
          rw [if_neg (by simp [c2])] at hst
          simp -implicitDefEqProofs (disch := first | exact nbf rfl | exact nbt rfl | (simp only [ne_eq, reduceCtorEq, not_false_eq_true]; done) | omega | (simp -implicitDefEqProofs only [zN.down] <;> omega) | fail) only [c1, e0, e2, e3, e5, e6, h1, d2, XOp.kind, reduceCtorEq, V.bool, V.i64, aUn, aBox, aLoad, aArrAddr, aFold, aEqV, chkAdd, effAdd, AOp.kind, chkAll, chkSee, zP.down, zQ.down, zR.down, simprocAttr]
          repeat (first | refine w_fin ?_ | refine w_seq ?_ | refine w_block ?_ | refine w_reg ?_ | refine w_op ?_ | refine w_dop ?_)
          refine (hsr _ _ hrl).mono ?_
          rintro ⟨_, σ2⟩ ⟨rfl, k2⟩
          dsimp only at k2
          have kk := kp.bump.bump.trans k2
          generalize sread rr.1 = q at *
          cases c3 : q.ok with
          | true =>
            by_cases c4 : q.i > (mac M n).i
            · have d4 : decide ((q.i : Int) > ((mac M n).i : Int)) = true := by simp; omega
              rw [if_pos ⟨c3, c4⟩] at hst
              simp -implicitDefEqProofs (disch := first | exact nbf rfl | exact nbt rfl | (simp only [ne_eq, reduceCtorEq, not_false_eq_true]; done) | omega | (simp -implicitDefEqProofs only [zN.down] <;> omega) | fail) only [srt, c3, d4, e0, e2, e3, e5, e6, w1, XOp.kind, reduceCtorEq, V.bool, V.i64, aUn, aBox, aLoad, aArrAddr, aFold, aEqV, chkAdd, effAdd, AOp.kind, chkAll, chkSee, zP.down, zQ.down, zR.down, simprocAttr]
              exact ⟨2 - (n + 1), by omega, n + 1, rfl, by omega, by rw [hst], by rw [hst], by rw [hst], rfl, kk.bump⟩
            · have d4 : decide ((q.i : Int) > ((mac M n).i : Int)) = false := by simp; omega
              rw [if_neg (by simp [c4])] at hst
              simp -implicitDefEqProofs (disch := first | exact nbf rfl | exact nbt rfl | (simp only [ne_eq, reduceCtorEq, not_false_eq_true]; done) | omega | (simp -implicitDefEqProofs only [zN.down] <;> omega) | fail) only [srt, c3, d4, e0, e2, e3, e5, e6, w1, XOp.kind, reduceCtorEq, V.bool, V.i64, aUn, aBox, aLoad, aArrAddr, aFold, aEqV, chkAdd, effAdd, AOp.kind, chkAll, chkSee, zP.down, zQ.down, zR.down, simprocAttr]
              exact ⟨2 - (n + 1), by omega, n + 1, rfl, by omega, by rw [hst], by rw [hst], by rw [hst], rfl, kk.bump⟩
          | false =>
            rw [if_neg (by simp [c3])] at hst
            simp -implicitDefEqProofs (disch := first | exact nbf rfl | exact nbt rfl | (simp only [ne_eq, reduceCtorEq, not_false_eq_true]; done) | omega | (simp -implicitDefEqProofs only [zN.down] <;> omega) | fail) only [srt, c3, e0, e2, e3, e5, e6, w1, XOp.kind, reduceCtorEq, V.bool, V.i64, aUn, aBox, aLoad, aArrAddr, aFold, aEqV, chkAdd, effAdd, AOp.kind, chkAll, chkSee, zP.down, zQ.down, zR.down, simprocAttr]
            exact ⟨2 - (n + 1), by omega, n + 1, rfl, by omega, by rw [hst], by rw [hst], by rw [hst], rfl, kk.bump⟩
        · have d2 : (rr.2 != 0) = true := by simp [c2]
          rw [if_pos c2] at hst
          simp -implicitDefEqProofs (disch := first | exact nbf rfl | exact nbt rfl | (simp only [ne_eq, reduceCtorEq, not_false_eq_true]; done) | omega | (simp -implicitDefEqProofs only [zN.down] <;> omega) | fail) only [c1, e0, e2, e3, e5, e6, h1, d2, w1, XOp.kind, reduceCtorEq, V.bool, V.i64, aUn, aBox, aLoad, aArrAddr, aFold, aEqV, chkAdd, effAdd, AOp.kind, chkAll, chkSee, zP.down, zQ.down, zR.down, simprocAttr]
          exact ⟨2 - (n + 1), by omega, n + 1, rfl, by omega, by rw [hst], by rw [hst], by rw [hst], rfl, kp.bump.bump⟩
      · have c1 : decide (((n + 2 : Nat) : Int) ≤ 3) = false := by simp only [decide_eq_false_iff_not]; omega
        have : n = 2 := by omega
        subst this
        simp -implicitDefEqProofs (disch := first | exact nbf rfl | exact nbt rfl | (simp only [ne_eq, reduceCtorEq, not_false_eq_true]; done) | omega | (simp -implicitDefEqProofs only [zN.down] <;> omega) | fail) only [c1, e6, XOp.kind, reduceCtorEq, V.bool, V.i64, aUn, aBox, aLoad, aArrAddr, aFold, aEqV, chkAdd, effAdd, AOp.kind, chkAll, chkSee, zP.down, zQ.down, zR.down, simprocAttr]
        refine ⟨_, _, rfl, ?_, ?_, ?_, ?_, kp⟩
        all_goals (simp -implicitDefEqProofs (disch := first | exact nbf rfl | exact nbt rfl | (simp only [ne_eq, reduceCtorEq, not_false_eq_true]; done) | omega | (simp -implicitDefEqProofs only [zN.down] <;> omega) | fail) only [e0, e2, e3, e5, XOp.kind, reduceCtorEq, V.bool, V.i64, aUn, aBox, aLoad, aArrAddr, aFold, aEqV, chkAdd, effAdd, AOp.kind, chkAll, chkSee, zP.down, zQ.down, zR.down, simprocAttr]; done)
  · rintro _ ⟨ρ, σ', rfl, e0, e2, e3, e5, kp⟩
    cases c3 : (mac M 2).ok with
    | true =>
      rw [c3] at e5
      rw [if_pos rfl]
      simp -implicitDefEqProofs (disch := first | exact nbf rfl | exact nbt rfl | (simp only [ne_eq, reduceCtorEq, not_false_eq_true]; done) | omega | (simp -implicitDefEqProofs only [zN.down] <;> omega) | fail) only [e0, e2, e3, e5, ldt, XOp.kind, reduceCtorEq, V.bool, V.i64, aUn, aBox, aLoad, aArrAddr, aFold, aEqV, chkAdd, effAdd, AOp.kind, chkAll, chkSee, zP.down, zQ.down, zR.down, simprocAttr]
      exact kp
    | false =>
      rw [c3] at e5
      rw [if_neg (by simp)]
      simp -implicitDefEqProofs (disch := first | exact nbf rfl | exact nbt rfl | (simp only [ne_eq, reduceCtorEq, not_false_eq_true]; done) | omega | (simp -implicitDefEqProofs only [zN.down] <;> omega) | fail) only [e0, e2, e3, e5, ldt, bad0, XOp.kind, reduceCtorEq, V.bool, V.i64, aUn, aBox, aLoad, aArrAddr, aFold, aEqV, chkAdd, effAdd, AOp.kind, chkAll, chkSee, zP.down, zQ.down, zR.down, simprocAttr]
      exact kp
end Go.Proofs.Ytjcobnjnjliehaa.sn
namespace Go.Proofs.Ytjcobnjnjliehaa.sn
open Go.Ab fr dk
set_option maxRecDepth 100000
set_option maxHeartbeats 8000000
set_option linter.unusedSimpArgs false
set_option linter.unusedVariables false

def sfl (M : DM) : Nat := if (M.read 2).2 = 0 ∧ (sread (M.read 2).1).ok = true ∧ (sread (M.read 2).1).i = (mld M).1.i ∧ (sread (M.read 2).1).t = (mld M).1.t then 3 else 2
def msw (M : DM) (f : Int) (s : List UInt8) : DM × Int :=
  let r := M.change f ⟨3, [], 0⟩
  if r.2 ≠ 0 ∧ r.2 ≠ 4 then r
  else
    let q := r.1.change f ⟨1, s, 0⟩
    if q.2 ≠ 0 then q else q.1.sync f
def msave (M : DM) (i t : Int) (x : List UInt8) : DM × Int :=
  if M.power = 0 then (M, 40)
  else if i < 1 ∨ i > 1048576 ∨ t < 0 ∨ t > 1099511627776 then (M, 2)
  else if x.length > 262144 then (M, 3)
  else if (mld M).2 = 0 ∧ i ≤ (mld M).1.i then (M, 5)
  else msw M (sfl M) (sfile i.toNat t.toNat x)

theorem save_ok (k : Nat) (ys : YlF) (σ : St) (d : Nat) (M : DM) (i t : Int) (x : List UInt8) (h : DR σ d M) {B : Nat} (hm : M.Ok B) (hB : B ≤ 999990) (hk : 1100000 ≤ k) :
    W (callY Tab.tb (k + 9) ys 15 [.ptr d 0, .agg [.sc (.int .i64 i), .sc (.int .i64 t)], .str x] σ) fun r => r.1 = .sc (.int .i64 (msave M i t x).2) ∧ DR r.2 d (msave M i t x).1 ∧ Kept (· = d) σ r.2 := by
  rw [s_call (af := Tab.b15) rfl (Nat.le_of_ble_eq_true rfl)]
  have hon := fun σ h => on_ok (k + 7) ys σ d M h
  have hld := fun σ h => sn.load_ok k ys σ d M h hm hk
  have hrd := fun σ f h => dk.read_ok (k + 6) ys σ d M f h
  have hsr := fun σ s hs => sn.read_ok (k + 1) ys σ s hs (by omega)
  have hfl := fun σ i t x hi ht hx => file_ok (k + 3) ys σ i t x hi ht hx (by omega)
  have hrm := fun σ f h => remove_ok (B := B) (k + 5) ys σ d M f h hm (by omega)
  have hap := fun σ f s M' h hm' => append_ok (B := B + 1) (k + 5) ys σ d M' f s h hm' (by omega)
  have hsy := fun σ f M' h hm' => sync_ok (B := B + 2) (k + 6) ys σ d M' f h hm' (by omega)
  generalize callY Tab.tb (k + 8) = cy at hon hld hrd hsr hfl hrm hap hsy ⊢
  have hb := h.kept ((Kept.refl noX σ).bump) (fun h => h)
  have hd := h.lt
  unfold msave
  by_cases hp : M.power = 0
  · have d1 : (M.power != 0) = false := by simp [hp]
    have ho := hon _ hb
    rw [if_pos hp]
    simp -implicitDefEqProofs (disch := first | exact nbf rfl | exact nbt rfl | (simp only [ne_eq, reduceCtorEq, not_false_eq_true]; done) | omega | (simp -implicitDefEqProofs only [zN.down] <;> omega) | fail) only [Tab.b15, dk.pnil, ho, d1, XOp.kind, reduceCtorEq, V.bool, V.i64, aUn, aBox, aLoad, aArrAddr, aFold, chkAdd, effAdd, AOp.kind, chkAll, chkSee, zP.down, zQ.down, zR.down, simprocAttr]
    exact ⟨hb, (Kept.refl _ _).bump⟩
  have d1 : (M.power != 0) = true := by simp [hp]
  rw [if_neg hp]
  have ho := hon _ hb
  by_cases e1 : i < 1
  · have f1 : decide (i < 1) = true := by simp; omega
    rw [if_pos (.inl e1)]
    simp -implicitDefEqProofs (disch := first | exact nbf rfl | exact nbt rfl | (simp only [ne_eq, reduceCtorEq, not_false_eq_true]; done) | omega | (simp -implicitDefEqProofs only [zN.down] <;> omega) | fail) only [Tab.b15, dk.pnil, ho, d1, f1, XOp.kind, reduceCtorEq, V.bool, V.i64, aUn, aBox, aLoad, aArrAddr, aFold, chkAdd, effAdd, AOp.kind, chkAll, chkSee, zP.down, zQ.down, zR.down, simprocAttr]
    exact ⟨hb, (Kept.refl _ _).bump⟩
  have f1 : decide (i < 1) = false := by simp; omega
  by_cases e2 : i > 1048576
  · have f2 : decide (i > 1048576) = true := by simp; omega
    rw [if_pos (.inr (.inl e2))]
    simp -implicitDefEqProofs (disch := first | exact nbf rfl | exact nbt rfl | (simp only [ne_eq, reduceCtorEq, not_false_eq_true]; done) | omega | (simp -implicitDefEqProofs only [zN.down] <;> omega) | fail) only [Tab.b15, dk.pnil, ho, d1, f1, f2, XOp.kind, reduceCtorEq, V.bool, V.i64, aUn, aBox, aLoad, aArrAddr, aFold, chkAdd, effAdd, AOp.kind, chkAll, chkSee, zP.down, zQ.down, zR.down, simprocAttr]
    exact ⟨hb, (Kept.refl _ _).bump⟩
  have f2 : decide (i > 1048576) = false := by simp; omega
  by_cases e3 : t < 0
  · have f3 : decide (t < 0) = true := by simp; omega
    rw [if_pos (.inr (.inr (.inl e3)))]
    simp -implicitDefEqProofs (disch := first | exact nbf rfl | exact nbt rfl | (simp only [ne_eq, reduceCtorEq, not_false_eq_true]; done) | omega | (simp -implicitDefEqProofs only [zN.down] <;> omega) | fail) only [Tab.b15, dk.pnil, ho, d1, f1, f2, f3, XOp.kind, reduceCtorEq, V.bool, V.i64, aUn, aBox, aLoad, aArrAddr, aFold, chkAdd, effAdd, AOp.kind, chkAll, chkSee, zP.down, zQ.down, zR.down, simprocAttr]
    exact ⟨hb, (Kept.refl _ _).bump⟩
  have f3 : decide (t < 0) = false := by simp; omega
  by_cases e4 : t > 1099511627776
  · have f4 : decide (t > 1099511627776) = true := by simp; omega
    rw [if_pos (.inr (.inr (.inr e4)))]
    simp -implicitDefEqProofs (disch := first | exact nbf rfl | exact nbt rfl | (simp only [ne_eq, reduceCtorEq, not_false_eq_true]; done) | omega | (simp -implicitDefEqProofs only [zN.down] <;> omega) | fail) only [Tab.b15, dk.pnil, ho, d1, f1, f2, f3, f4, XOp.kind, reduceCtorEq, V.bool, V.i64, aUn, aBox, aLoad, aArrAddr, aFold, chkAdd, effAdd, AOp.kind, chkAll, chkSee, zP.down, zQ.down, zR.down, simprocAttr]
    exact ⟨hb, (Kept.refl _ _).bump⟩
  have f4 : decide (t > 1099511627776) = false := by simp; omega
  rw [if_neg (by omega)]
  by_cases e5 : x.length > 262144
  · have f5 : decide ((x.length : Int) > 262144) = true := by simp; omega
    rw [if_pos e5]
    simp -implicitDefEqProofs (disch := first | exact nbf rfl | exact nbt rfl | (simp only [ne_eq, reduceCtorEq, not_false_eq_true]; done) | omega | (simp -implicitDefEqProofs only [zN.down] <;> omega) | fail) only [Tab.b15, dk.pnil, ho, d1, f1, f2, f3, f4, f5, XOp.kind, reduceCtorEq, V.bool, V.i64, aUn, aBox, aLoad, aArrAddr, aFold, chkAdd, effAdd, AOp.kind, chkAll, chkSee, zP.down, zQ.down, zR.down, simprocAttr]
    exact ⟨hb, (Kept.refl _ _).bump⟩
  have f5 : decide ((x.length : Int) > 262144) = false := by simp; omega
  rw [if_neg e5]
  obtain ⟨i, rfl⟩ : ∃ n : Nat, i = n := ⟨i.toNat, by omega⟩
  obtain ⟨t, rfl⟩ : ∃ n : Nat, t = n := ⟨t.toNat, by omega⟩
  rw [Int.toNat_natCast, Int.toNat_natCast]
  simp -implicitDefEqProofs (disch := first | exact nbf rfl | exact nbt rfl | (simp only [ne_eq, reduceCtorEq, not_false_eq_true]; done) | omega | (simp -implicitDefEqProofs only [zN.down] <;> omega) | fail) only [Tab.b15, dk.pnil, ho, d1, f1, f2, f3, f4, f5, XOp.kind, reduceCtorEq, V.bool, V.i64, aUn, aBox, aLoad, aArrAddr, aFold, chkAdd, effAdd, AOp.kind, chkAll, chkSee, zP.down, zQ.down, zR.down, simprocAttr]
  repeat (first | refine w_fin ?_ | refine w_seq ?_ | refine w_block ?_ | refine w_reg ?_ | refine w_op ?_ | refine w_dop ?_)
  refine (hld _ hb).mono ?_
  rintro ⟨_, σ1⟩ ⟨rfl, k1⟩
  dsimp only at k1
  have kk1 : Kept noX σ σ1 := (Kept.refl _ _).bump.trans k1
  unfold sfl
  generalize mld M = old at *
  -- where it goes
  have rest : ∀ (f : Int) (σ2 : St), Kept noX σ σ2 → DR σ2 d M := fun f σ2 k => h.kept k (fun h => h)
  by_cases g0 : old.2 = 0 ∧ (i : Int) ≤ old.1.i
  · have d2 : (old.2 == 0) = true := by simp [g0.1]
    have d3 : decide ((i : Int) ≤ (old.1.i : Int)) = true := by simp; omega
    rw [if_pos g0]
    simp -implicitDefEqProofs (disch := first | exact nbf rfl | exact nbt rfl | (simp only [ne_eq, reduceCtorEq, not_false_eq_true]; done) | omega | (simp -implicitDefEqProofs only [zN.down] <;> omega) | fail) only [ldt, d2, d3, XOp.kind, reduceCtorEq, V.bool, V.i64, aUn, aBox, aLoad, aArrAddr, aFold, aEqV, chkAdd, effAdd, AOp.kind, chkAll, chkSee, zP.down, zQ.down, zR.down, simprocAttr]
    exact ⟨h.kept kk1.bump (fun h => h), kk1.bump.any⟩
  rw [if_neg g0]
  -- the old one is not newer
  have cond0 : ∃ b, (old.2 == 0) = b ∧ (b = true → decide ((i : Int) ≤ (old.1.i : Int)) = false) := by
    refine ⟨_, rfl, fun hb => ?_⟩
    simp only [beq_iff_eq] at hb
    simp only [decide_eq_false_iff_not]
    exact fun h => g0 ⟨hb, h⟩
  obtain ⟨b, hb1, hb2⟩ := cond0
  simp -implicitDefEqProofs (disch := first | exact nbf rfl | exact nbt rfl | (simp only [ne_eq, reduceCtorEq, not_false_eq_true]; done) | omega | (simp -implicitDefEqProofs only [zN.down] <;> omega) | fail) only [ldt, XOp.kind, reduceCtorEq, V.bool, V.i64, aUn, aBox, aLoad, aArrAddr, aFold, aEqV, chkAdd, effAdd, AOp.kind, chkAll, chkSee, zP.down, zQ.down, zR.down, simprocAttr]
  refine w_seq ?_
  refine W.mono (Q := fun q => ∃ (ρ : Env), q = ((.normal : Ex), ρ, σ1.bump) ∧ ρ 0 = .ptr d 0 ∧ ρ 2 = .str x ∧ ρ 4 = .agg [.sc (.int .i64 i), .sc (.int .i64 t)] ∧ ρ 7 = .agg [.sc (.int .i64 old.1.i), .sc (.int .i64 old.1.t)]) ?_ ?_
  · cases b with
    | true =>
      have hb3 := hb2 rfl
      simp -implicitDefEqProofs (disch := first | exact nbf rfl | exact nbt rfl | (simp only [ne_eq, reduceCtorEq, not_false_eq_true]; done) | omega | (simp -implicitDefEqProofs only [zN.down] <;> omega) | fail) only [hb1, hb3, XOp.kind, reduceCtorEq, V.bool, V.i64, aUn, aBox, aLoad, aArrAddr, aFold, aEqV, chkAdd, effAdd, AOp.kind, chkAll, chkSee, zP.down, zQ.down, zR.down, simprocAttr]
      refine ⟨_, rfl, ?_, ?_, ?_, ?_⟩
      all_goals (simp -implicitDefEqProofs (disch := first | exact nbf rfl | exact nbt rfl | (simp only [ne_eq, reduceCtorEq, not_false_eq_true]; done) | omega | (simp -implicitDefEqProofs only [zN.down] <;> omega) | fail) only [XOp.kind, reduceCtorEq, V.bool, V.i64, aUn, aBox, aLoad, aArrAddr, aFold, aEqV, chkAdd, effAdd, AOp.kind, chkAll, chkSee, zP.down, zQ.down, zR.down, simprocAttr]; done)
    | false =>
      simp -implicitDefEqProofs (disch := first | exact nbf rfl | exact nbt rfl | (simp only [ne_eq, reduceCtorEq, not_false_eq_true]; done) | omega | (simp -implicitDefEqProofs only [zN.down] <;> omega) | fail) only [hb1, XOp.kind, reduceCtorEq, V.bool, V.i64, aUn, aBox, aLoad, aArrAddr, aFold, aEqV, chkAdd, effAdd, AOp.kind, chkAll, chkSee, zP.down, zQ.down, zR.down, simprocAttr]
      refine ⟨_, rfl, ?_, ?_, ?_, ?_⟩
      all_goals (simp -implicitDefEqProofs (disch := first | exact nbf rfl | exact nbt rfl | (simp only [ne_eq, reduceCtorEq, not_false_eq_true]; done) | omega | (simp -implicitDefEqProofs only [zN.down] <;> omega) | fail) only [XOp.kind, reduceCtorEq, V.bool, V.i64, aUn, aBox, aLoad, aArrAddr, aFold, aEqV, chkAdd, effAdd, AOp.kind, chkAll, chkSee, zP.down, zQ.down, zR.down, simprocAttr]; done)
  · rintro _ ⟨ρ, rfl, e0, e2', e4', e7⟩
    have kb : Kept noX σ σ1.bump := kk1.bump
    have r2 := hrd σ1.bump 2 (rest 0 _ kb)
    have hrl := read_len hm 2
    generalize M.read 2 = rr at *
    simp -implicitDefEqProofs (disch := first | exact nbf rfl | exact nbt rfl | (simp only [ne_eq, reduceCtorEq, not_false_eq_true]; done) | omega | (simp -implicitDefEqProofs only [zN.down] <;> omega) | fail) only [e0, r2, XOp.kind, reduceCtorEq, V.bool, V.i64, aUn, aBox, aLoad, aArrAddr, aFold, aEqV, chkAdd, effAdd, AOp.kind, chkAll, chkSee, zP.down, zQ.down, zR.down, simprocAttr]
    refine w_seq ?_
    refine W.mono (Q := fun q => ∃ (ρ : Env) (σ2 : St), q = ((.normal : Ex), ρ, σ2) ∧ ρ 0 = .ptr d 0 ∧ ρ 2 = .str x ∧ ρ 4 = .agg [.sc (.int .i64 i), .sc (.int .i64 t)] ∧ ρ 10 = .sc (.int .i64 ((if rr.2 = 0 ∧ (sread rr.1).ok = true ∧ (sread rr.1).i = old.1.i ∧ (sread rr.1).t = old.1.t then 3 else 2 : Nat) : Int)) ∧ Kept noX σ σ2) ?_ ?_
    · by_cases c2 : rr.2 = 0
      · have d2 : (rr.2 == 0) = true := by simp [c2]
        simp -implicitDefEqProofs (disch := first | exact nbf rfl | exact nbt rfl | (simp only [ne_eq, reduceCtorEq, not_false_eq_true]; done) | omega | (simp -implicitDefEqProofs only [zN.down] <;> omega) | fail) only [d2, XOp.kind, reduceCtorEq, V.bool, V.i64, aUn, aBox, aLoad, aArrAddr, aFold, aEqV, chkAdd, effAdd, AOp.kind, chkAll, chkSee, zP.down, zQ.down, zR.down, simprocAttr]
        repeat (first | refine w_fin ?_ | refine w_seq ?_ | refine w_block ?_ | refine w_reg ?_ | refine w_op ?_ | refine w_dop ?_)
        refine (hsr _ _ hrl).mono ?_
        rintro ⟨_, σ3⟩ ⟨rfl, k3⟩
        dsimp only at k3
        have kk3 : Kept noX σ σ3 := kb.bump.bump.trans k3
        generalize sread rr.1 = q at *
        cases c3 : q.ok with
        | true =>
          by_cases c4 : q.i = old.1.i ∧ q.t = old.1.t
          · have d4 : aEqV σ3.bump (.struct [(0, none, .int .i64), (1, none, .int .i64)]) (.agg [.sc (.int .i64 q.i), .sc (.int .i64 q.t)]) (.agg [.sc (.int .i64 old.1.i), .sc (.int .i64 old.1.t)]) = some true := by
              rw [sn.eq2]; simp [c4.1, c4.2]
            rw [if_pos ⟨c2, rfl, c4⟩]
            simp -implicitDefEqProofs (disch := first | exact nbf rfl | exact nbt rfl | (simp only [ne_eq, reduceCtorEq, not_false_eq_true]; done) | omega | (simp -implicitDefEqProofs only [zN.down] <;> omega) | fail) only [srt, c3, e7, d4, XOp.kind, reduceCtorEq, V.bool, V.i64, aUn, aBox, aLoad, aArrAddr, aFold, chkAdd, effAdd, AOp.kind, chkAll, chkSee, zP.down, zQ.down, zR.down, simprocAttr]
            refine ⟨_, _, rfl, ?_, ?_, ?_, ?_, kk3.bump⟩
            all_goals (simp -implicitDefEqProofs (disch := first | exact nbf rfl | exact nbt rfl | (simp only [ne_eq, reduceCtorEq, not_false_eq_true]; done) | omega | (simp -implicitDefEqProofs only [zN.down] <;> omega) | fail) only [e0, e2', e4', XOp.kind, reduceCtorEq, V.bool, V.i64, aUn, aBox, aLoad, aArrAddr, aFold, aEqV, chkAdd, effAdd, AOp.kind, chkAll, chkSee, zP.down, zQ.down, zR.down, simprocAttr]; done)
          · have d4 : aEqV σ3.bump (.struct [(0, none, .int .i64), (1, none, .int .i64)]) (.agg [.sc (.int .i64 q.i), .sc (.int .i64 q.t)]) (.agg [.sc (.int .i64 old.1.i), .sc (.int .i64 old.1.t)]) = some false := by
              rw [sn.eq2]
              simp only [Option.some.injEq, Bool.and_eq_false_iff, beq_eq_false_iff_ne, ne_eq]
              omega
            rw [if_neg (fun h => c4 h.2.2)]
            simp -implicitDefEqProofs (disch := first | exact nbf rfl | exact nbt rfl | (simp only [ne_eq, reduceCtorEq, not_false_eq_true]; done) | omega | (simp -implicitDefEqProofs only [zN.down] <;> omega) | fail) only [srt, c3, e7, d4, XOp.kind, reduceCtorEq, V.bool, V.i64, aUn, aBox, aLoad, aArrAddr, aFold, chkAdd, effAdd, AOp.kind, chkAll, chkSee, zP.down, zQ.down, zR.down, simprocAttr]
            refine ⟨_, _, rfl, ?_, ?_, ?_, ?_, kk3.bump⟩
            all_goals (simp -implicitDefEqProofs (disch := first | exact nbf rfl | exact nbt rfl | (simp only [ne_eq, reduceCtorEq, not_false_eq_true]; done) | omega | (simp -implicitDefEqProofs only [zN.down] <;> omega) | fail) only [e0, e2', e4', XOp.kind, reduceCtorEq, V.bool, V.i64, aUn, aBox, aLoad, aArrAddr, aFold, aEqV, chkAdd, effAdd, AOp.kind, chkAll, chkSee, zP.down, zQ.down, zR.down, simprocAttr]; done)
        | false =>
          rw [if_neg (by simp)]
          simp -implicitDefEqProofs (disch := first | exact nbf rfl | exact nbt rfl | (simp only [ne_eq, reduceCtorEq, not_false_eq_true]; done) | omega | (simp -implicitDefEqProofs only [zN.down] <;> omega) | fail) only [srt, c3, e7, XOp.kind, reduceCtorEq, V.bool, V.i64, aUn, aBox, aLoad, aArrAddr, aFold, aEqV, chkAdd, effAdd, AOp.kind, chkAll, chkSee, zP.down, zQ.down, zR.down, simprocAttr]
          refine ⟨_, _, rfl, ?_, ?_, ?_, ?_, kk3.bump⟩
          all_goals (simp -implicitDefEqProofs (disch := first | exact nbf rfl | exact nbt rfl | (simp only [ne_eq, reduceCtorEq, not_false_eq_true]; done) | omega | (simp -implicitDefEqProofs only [zN.down] <;> omega) | fail) only [e0, e2', e4', XOp.kind, reduceCtorEq, V.bool, V.i64, aUn, aBox, aLoad, aArrAddr, aFold, aEqV, chkAdd, effAdd, AOp.kind, chkAll, chkSee, zP.down, zQ.down, zR.down, simprocAttr]; done)
      · have d2 : (rr.2 == 0) = false := by simp [c2]
        rw [if_neg (fun h => c2 h.1)]
        simp -implicitDefEqProofs (disch := first | exact nbf rfl | exact nbt rfl | (simp only [ne_eq, reduceCtorEq, not_false_eq_true]; done) | omega | (simp -implicitDefEqProofs only [zN.down] <;> omega) | fail) only [d2, XOp.kind, reduceCtorEq, V.bool, V.i64, aUn, aBox, aLoad, aArrAddr, aFold, aEqV, chkAdd, effAdd, AOp.kind, chkAll, chkSee, zP.down, zQ.down, zR.down, simprocAttr]
        refine ⟨_, _, rfl, ?_, ?_, ?_, ?_, kb.bump.bump⟩
        all_goals (simp -implicitDefEqProofs (disch := first | exact nbf rfl | exact nbt rfl | (simp only [ne_eq, reduceCtorEq, not_false_eq_true]; done) | omega | (simp -implicitDefEqProofs only [zN.down] <;> omega) | fail) only [e0, e2', e4', XOp.kind, reduceCtorEq, V.bool, V.i64, aUn, aBox, aLoad, aArrAddr, aFold, aEqV, chkAdd, effAdd, AOp.kind, chkAll, chkSee, zP.down, zQ.down, zR.down, simprocAttr]; done)
    · rintro _ ⟨ρ, σ2, rfl, e0, e2', e4', e10, k2⟩
      generalize (if rr.2 = 0 ∧ (sread rr.1).ok = true ∧ (sread rr.1).i = old.1.i ∧ (sread rr.1).t = old.1.t then 3 else 2 : Nat) = f at *
      unfold msw
      simp -implicitDefEqProofs (disch := first | exact nbf rfl | exact nbt rfl | (simp only [ne_eq, reduceCtorEq, not_false_eq_true]; done) | omega | (simp -implicitDefEqProofs only [zN.down] <;> omega) | fail) only [e0, e10, XOp.kind, reduceCtorEq, V.bool, V.i64, aUn, aBox, aLoad, aArrAddr, aFold, aEqV, chkAdd, effAdd, AOp.kind, chkAll, chkSee, zP.down, zQ.down, zR.down, simprocAttr]
      repeat (first | refine w_fin ?_ | refine w_seq ?_ | refine w_block ?_ | refine w_reg ?_ | refine w_op ?_ | refine w_dop ?_)
      refine (hrm σ2 f (rest 0 _ k2)).mono ?_
      rintro ⟨_, σ3⟩ ⟨rfl, h3, k3⟩
      dsimp only at h3 k3
      have hm1 := hm.change (f := f) (c := ⟨3, [], 0⟩) (.inr (.inr rfl))
      have kk3 : Kept (· = d) σ σ3 := k2.any.trans k3
      generalize M.change f ⟨3, [], 0⟩ = r at *
      have go : r.2 = 0 ∨ r.2 = 4 → True := fun _ => trivial
      by_cases c1 : r.2 ≠ 0 ∧ r.2 ≠ 4
      · have d3 : (r.2 != 0) = true := by simp [c1.1]
        have d4 : (r.2 != 4) = true := by simp [c1.2]
        rw [if_pos c1]
        simp -implicitDefEqProofs (disch := first | exact nbf rfl | exact nbt rfl | (simp only [ne_eq, reduceCtorEq, not_false_eq_true]; done) | omega | (simp -implicitDefEqProofs only [zN.down] <;> omega) | fail) only [d3, d4, XOp.kind, reduceCtorEq, V.bool, V.i64, aUn, aBox, aLoad, aArrAddr, aFold, aEqV, chkAdd, effAdd, AOp.kind, chkAll, chkSee, zP.down, zQ.down, zR.down, simprocAttr]
        exact ⟨h3, kk3⟩
      · rw [if_neg c1]
        have cnd : ∃ b, (r.2 != 0) = b ∧ (b = true → (r.2 != 4) = false) := by
          refine ⟨_, rfl, fun hb => ?_⟩
          simp only [bne_iff_ne, ne_eq] at hb
          by_cases h4 : r.2 = 4
          · simp [h4]
          · exact absurd ⟨hb, h4⟩ c1
        obtain ⟨b2, hc1, hc2⟩ := cnd
        simp -implicitDefEqProofs (disch := first | exact nbf rfl | exact nbt rfl | (simp only [ne_eq, reduceCtorEq, not_false_eq_true]; done) | omega | (simp -implicitDefEqProofs only [zN.down] <;> omega) | fail) only [hc1, XOp.kind, reduceCtorEq, V.bool, V.i64, aUn, aBox, aLoad, aArrAddr, aFold, aEqV, chkAdd, effAdd, AOp.kind, chkAll, chkSee, zP.down, zQ.down, zR.down, simprocAttr]
        refine W.mono (Q := fun q => ∃ (ρ : Env), q = ((.normal : Ex), ρ, σ3) ∧ ρ 0 = .ptr d 0 ∧ ρ 2 = .str x ∧ ρ 4 = .agg [.sc (.int .i64 i), .sc (.int .i64 t)] ∧ ρ 10 = .sc (.int .i64 f)) ?_ ?_
        · cases b2 with
          | true =>
            have hc3 := hc2 rfl
            simp -implicitDefEqProofs (disch := first | exact nbf rfl | exact nbt rfl | (simp only [ne_eq, reduceCtorEq, not_false_eq_true]; done) | omega | (simp -implicitDefEqProofs only [zN.down] <;> omega) | fail) only [hc3, e0, e2', e4', e10, XOp.kind, reduceCtorEq, V.bool, V.i64, aUn, aBox, aLoad, aArrAddr, aFold, aEqV, chkAdd, effAdd, AOp.kind, chkAll, chkSee, zP.down, zQ.down, zR.down, simprocAttr]
            refine ⟨_, rfl, ?_, ?_, ?_, ?_⟩
            all_goals (simp -implicitDefEqProofs (disch := first | exact nbf rfl | exact nbt rfl | (simp only [ne_eq, reduceCtorEq, not_false_eq_true]; done) | omega | (simp -implicitDefEqProofs only [zN.down] <;> omega) | fail) only [e0, e2', e4', e10, XOp.kind, reduceCtorEq, V.bool, V.i64, aUn, aBox, aLoad, aArrAddr, aFold, aEqV, chkAdd, effAdd, AOp.kind, chkAll, chkSee, zP.down, zQ.down, zR.down, simprocAttr]; done)
          | false =>
            simp -implicitDefEqProofs (disch := first | exact nbf rfl | exact nbt rfl | (simp only [ne_eq, reduceCtorEq, not_false_eq_true]; done) | omega | (simp -implicitDefEqProofs only [zN.down] <;> omega) | fail) only [e0, e2', e4', e10, XOp.kind, reduceCtorEq, V.bool, V.i64, aUn, aBox, aLoad, aArrAddr, aFold, aEqV, chkAdd, effAdd, AOp.kind, chkAll, chkSee, zP.down, zQ.down, zR.down, simprocAttr]
            refine ⟨_, rfl, ?_, ?_, ?_, ?_⟩
            all_goals (simp -implicitDefEqProofs (disch := first | exact nbf rfl | exact nbt rfl | (simp only [ne_eq, reduceCtorEq, not_false_eq_true]; done) | omega | (simp -implicitDefEqProofs only [zN.down] <;> omega) | fail) only [e0, e2', e4', e10, XOp.kind, reduceCtorEq, V.bool, V.i64, aUn, aBox, aLoad, aArrAddr, aFold, aEqV, chkAdd, effAdd, AOp.kind, chkAll, chkSee, zP.down, zQ.down, zR.down, simprocAttr]; done)
        · rintro _ ⟨ρ, rfl, e0, e2', e4', e10⟩
          simp -implicitDefEqProofs (disch := first | exact nbf rfl | exact nbt rfl | (simp only [ne_eq, reduceCtorEq, not_false_eq_true]; done) | omega | (simp -implicitDefEqProofs only [zN.down] <;> omega) | fail) only [e0, e2', e4', e10, XOp.kind, reduceCtorEq, V.bool, V.i64, aUn, aBox, aLoad, aArrAddr, aFold, aEqV, chkAdd, effAdd, AOp.kind, chkAll, chkSee, zP.down, zQ.down, zR.down, simprocAttr]
          repeat (first | refine w_fin ?_ | refine w_seq ?_ | refine w_block ?_ | refine w_reg ?_ | refine w_op ?_ | refine w_dop ?_)
          refine (hfl σ3 i t x (by omega) (by omega) (by omega)).mono ?_
          rintro ⟨_, σ4⟩ ⟨rfl, k4⟩
          dsimp only at k4
          have h4 := h3.kept k4 (fun h => h)
          simp -implicitDefEqProofs (disch := first | exact nbf rfl | exact nbt rfl | (simp only [ne_eq, reduceCtorEq, not_false_eq_true]; done) | omega | (simp -implicitDefEqProofs only [zN.down] <;> omega) | fail) only [e0, e10, XOp.kind, reduceCtorEq, V.bool, V.i64, aUn, aBox, aLoad, aArrAddr, aFold, aEqV, chkAdd, effAdd, AOp.kind, chkAll, chkSee, zP.down, zQ.down, zR.down, simprocAttr]
          repeat (first | refine w_fin ?_ | refine w_seq ?_ | refine w_block ?_ | refine w_reg ?_ | refine w_op ?_ | refine w_dop ?_)
          refine (hap σ4 f (sfile i t x) r.1 h4 hm1).mono ?_
          rintro ⟨_, σ5⟩ ⟨rfl, h5, k5⟩
          dsimp only at h5 k5
          have hm2 := hm1.change (f := f) (c := ⟨1, sfile i t x, 0⟩) (.inl rfl)
          have kk5 : Kept (· = d) σ σ5 := (kk3.trans k4.any).trans k5
          generalize r.1.change f ⟨1, sfile i t x, 0⟩ = q at *
          by_cases c5 : q.2 = 0
          · have d5 : (q.2 != 0) = false := by simp [c5]
            rw [if_neg (by simp [c5])]
            simp -implicitDefEqProofs (disch := first | exact nbf rfl | exact nbt rfl | (simp only [ne_eq, reduceCtorEq, not_false_eq_true]; done) | omega | (simp -implicitDefEqProofs only [zN.down] <;> omega) | fail) only [e0, e10, d5, XOp.kind, reduceCtorEq, V.bool, V.i64, aUn, aBox, aLoad, aArrAddr, aFold, aEqV, chkAdd, effAdd, AOp.kind, chkAll, chkSee, zP.down, zQ.down, zR.down, simprocAttr]
            repeat (first | refine w_fin ?_ | refine w_seq ?_ | refine w_block ?_ | refine w_reg ?_ | refine w_op ?_ | refine w_dop ?_)
            refine (hsy σ5 f q.1 h5 hm2).mono ?_
            rintro ⟨_, σ6⟩ ⟨rfl, h6, k6⟩
            simp -implicitDefEqProofs (disch := first | exact nbf rfl | exact nbt rfl | (simp only [ne_eq, reduceCtorEq, not_false_eq_true]; done) | omega | (simp -implicitDefEqProofs only [zN.down] <;> omega) | fail) only [XOp.kind, reduceCtorEq, V.bool, V.i64, aUn, aBox, aLoad, aArrAddr, aFold, aEqV, chkAdd, effAdd, AOp.kind, chkAll, chkSee, zP.down, zQ.down, zR.down, simprocAttr]
            exact ⟨h6, kk5.trans k6⟩
          · have d5 : (q.2 != 0) = true := by simp [c5]
            rw [if_pos c5]
            simp -implicitDefEqProofs (disch := first | exact nbf rfl | exact nbt rfl | (simp only [ne_eq, reduceCtorEq, not_false_eq_true]; done) | omega | (simp -implicitDefEqProofs only [zN.down] <;> omega) | fail) only [d5, XOp.kind, reduceCtorEq, V.bool, V.i64, aUn, aBox, aLoad, aArrAddr, aFold, aEqV, chkAdd, effAdd, AOp.kind, chkAll, chkSee, zP.down, zQ.down, zR.down, simprocAttr]
            exact ⟨h5, kk5⟩
end Go.Proofs.Ytjcobnjnjliehaa.sn
namespace Go.Proofs.Ytjcobnjnjliehaa.sn
open Go.Ab fr dk
set_option maxRecDepth 100000
set_option maxHeartbeats 8000000
set_option linter.unusedSimpArgs false
set_option linter.unusedVariables false

theorem sfile_eq (i t : Nat) (x : List UInt8) : sfile i t x = ((shead i t x.length :: pcs x).map fput).flatten := by simp [sfile, fputs]
theorem sfile_scan (i t : Nat) (x : List UInt8) : scan (sfile i t x) = shead i t x.length :: pcs x := by
  rw [sfile_eq]
  refine scan_fputs _ fun p hp => ?_
  rcases List.mem_cons.1 hp with rfl | hp
  · rw [shead_len]; decide
  · have := pcs_small hp; omega
theorem flen_flat (l : List (List UInt8)) : flen l = l.flatten.length + 12 * l.length := by
  induction l with
  | nil => rfl
  | cons p l ih => simp only [flen, ih, List.flatten_cons, List.length_append, List.length_cons]; omega
theorem sfile_len (i t : Nat) (x : List UInt8) : (sfile i t x).length = 44 + (x.length + 12 * ((x.length + 2047) / 2048)) := by
  unfold sfile
  rw [List.length_append, fput_len, shead_len, fputs_len, flen_flat, pcs_flat, pcs_len]
theorem shead_i (i t n : Nat) (hi : i < 18446744073709551616) : val (((shead i t n).drop 8).take 8) = i := by
  have : ((shead i t n).drop 8).take 8 = be 8 i := by
    unfold shead
    rw [List.append_assoc, List.append_assoc, List.drop_append_of_le_length (by decide), List.drop_of_length_le (by decide), List.nil_append, List.take_append_of_le_length (by rw [be_len]; decide), List.take_of_length_le (by rw [be_len]; decide)]
  rw [this]; exact val_be 8 i hi
theorem shead_t (i t n : Nat) (ht : t < 18446744073709551616) : val (((shead i t n).drop 16).take 8) = t := by
  have : ((shead i t n).drop 16).take 8 = be 8 t := by
    unfold shead
    rw [List.append_assoc, List.drop_append_of_le_length (by simp [be_len, magic]), List.drop_of_length_le (by simp [be_len, magic]), List.nil_append, List.take_append_of_le_length (by rw [be_len]; decide), List.take_of_length_le (by rw [be_len]; decide)]
  rw [this]; exact val_be 8 t ht
theorem shead_n (i t n : Nat) (hn : n < 18446744073709551616) : val (((shead i t n).drop 24).take 8) = n := by
  have : ((shead i t n).drop 24).take 8 = be 8 n := by
    unfold shead
    rw [List.drop_append_of_le_length (by simp [be_len, magic]), List.drop_of_length_le (by simp [be_len, magic]), List.nil_append, List.take_of_length_le (by rw [be_len]; decide)]
  rw [this]; exact val_be 8 n hn
theorem shead_m (i t n : Nat) : (shead i t n).take 8 = magic := by
  unfold shead
  rw [List.append_assoc, List.append_assoc, List.take_append_of_le_length (by decide), List.take_of_length_le (by decide)]
/-- What was written is read. -/
theorem sread_file {i t : Nat} {x : List UInt8} (h1 : 1 ≤ i) (h2 : i ≤ 1048576) (h3 : t ≤ 1099511627776) (h4 : x.length ≤ 262144) : sread (sfile i t x) = ⟨i, t, x, true⟩ := by
  unfold sread
  rw [sfile_scan]
  dsimp only
  have hl : flen (shead i t x.length :: pcs x) = (sfile i t x).length := by
    rw [sfile_len]
    simp only [flen, shead_len, flen_flat, pcs_flat, pcs_len]
  rw [shead_i _ _ _ (by omega), shead_t _ _ _ (by omega), shead_n _ _ _ (by omega), shead_m, if_neg (by simp [hl, shead_len]), if_neg (by omega), pcs_flat]
  simp
/-- What is read as one was written so. -/
theorem sread_ok {s : List UInt8} (h : (sread s).ok = true) : ∃ i t x, s = sfile i t x ∧ sread s = ⟨i, t, x, true⟩ ∧ x.length < 18446744073709551616 := by
  unfold sread at h ⊢
  cases hs : scan s with
  | nil => rw [hs] at h; cases h
  | cons p l =>
    rw [hs] at h
    dsimp only at h ⊢
    split at h
    · cases h
    · rename_i c1
      rw [if_neg c1]
      split at h
      · cases h
      · rename_i c2
        rw [if_neg c2]
        dsimp only at h
        simp only [Bool.and_eq_true, decide_eq_true_eq] at h
        refine ⟨_, _, _, h.1.symm, ?_, by omega⟩
        simp [h.1, h.2]
/-- A beginning of one is none. -/
theorem sread_pre {i t m : Nat} {x : List UInt8} (h4 : x.length < 18446744073709551616) (h : (sread ((sfile i t x).take m)).ok = true) : (sfile i t x).take m = sfile i t x := by
  obtain ⟨i', t', x', e, _, hx'⟩ := sread_ok h
  have hl := sfile_len i t x
  have hl' := sfile_len i' t' x'
  have ht : ((sfile i t x).take m).length = (sfile i' t' x').length := by rw [e]
  rw [List.length_take] at ht
  have hm : 44 ≤ m := by omega
  -- the heads
  have h1 : ((sfile i t x).drop 8).take 32 = shead i t x.length := by
    have := fput_mid (shead i t x.length) (fputs (pcs x))
    rw [shead_len] at this
    exact this
  have h2 : ((sfile i' t' x').drop 8).take 32 = shead i' t' x'.length := by
    have := fput_mid (shead i' t' x'.length) (fputs (pcs x'))
    rw [shead_len] at this
    exact this
  rw [← e, List.drop_take, List.take_take, Nat.min_eq_left (by omega), h1] at h2
  have h3 := congrArg (fun s => val ((s.drop 24).take 8)) h2
  rw [shead_n _ _ _ h4, shead_n _ _ _ hx'] at h3
  rw [← h3] at hl'
  exact List.take_of_length_le (by omega)
end Go.Proofs.Ytjcobnjnjliehaa.sn
