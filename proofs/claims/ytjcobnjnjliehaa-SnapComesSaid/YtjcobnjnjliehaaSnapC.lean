/-
  SnapComes: its run.
-/
import Derived.Test.YtjcobnjnjliehaaSnapP
namespace Go.Proofs.Ytjcobnjnjliehaa.sn
open Go.Ab
set_option maxRecDepth 100000
set_option maxHeartbeats 8000000
set_option linter.unusedSimpArgs false
set_option linter.unusedVariables false

/-- A message with a piece. -/
def pm (i t : Int) (text : List UInt8) (f : Nat) : Ms := ⟨0, 0, 0, 0, i, t, 0, 0, false, .sc .nilS, f, text.length, pc text f, 0, 0, 0, 0, 0, 0, 0, 0, 0⟩
theorem pc_len (t : List UInt8) (i : Nat) (h : i ≤ t.length) : (pc t i).length = min 2048 (t.length - i) := by
  unfold pc
  rw [List.length_take, List.length_drop]
  omega
theorem pc_add (t : List UInt8) (i : Nat) (h : i ≤ t.length) : t.take i ++ pc t i = t.take (i + (pc t i).length) := by
  have hl := pc_len t i h
  unfold pc at *
  rw [List.take_add, List.length_take, List.length_drop]
  congr 1
  rw [List.take_eq_take_iff, List.length_drop]
  omega
/-- What the inbox holds behind so many bytes. -/
def hold (i t : Int) (text : List UInt8) (at' : Nat) : IB := ⟨i, t, text.length, text.take at'⟩
theorem hold_ok (i t : Int) (text : List UInt8) (a : Nat) (h : text.length ≤ 65536) : (hold i t text a).Ok := ⟨by simp [hold]; omega, by simp [hold]; omega⟩
/-- A step: where it stands behind it. -/
def nx (text : List UInt8) (at' f : Nat) : Nat := if f = at' then at' + (pc text at').length else at'
theorem nx_le {text : List UInt8} {at' f : Nat} (h : at' ≤ text.length) : at' ≤ nx text at' f ∧ nx text at' f ≤ text.length := by
  unfold nx
  have := pc_len text at' h
  split <;> omega
theorem put_pm {i t : Int} (hi : 1 ≤ i) {text : List UInt8} (hl : text.length ≤ 65536) {at' f : Nat} (ha : at' ≤ text.length) (hf : f ≤ text.length) {x : IB} (hx : x = hold i t text at' ∨ (x = I0 ∧ at' = 0)) :
    iput x (pm i t text f) = hold i t text (nx text at' f) := by
  have hb : ¬ ibad (pm i t text f) := by unfold ibad pm; simp only; omega
  have hn : inew x (pm i t text f) = hold i t text at' := by
    rcases hx with rfl | ⟨rfl, rfl⟩
    · unfold inew
      rw [if_pos ⟨rfl, rfl, rfl⟩]
    · unfold inew
      rw [if_neg (by simp [I0, pm]; omega)]
      simp [hold, pm]
  unfold iput
  rw [if_neg hb, hn]
  unfold iadd nx
  have h0 : (hold i t text at').tx.length = at' := by simp [hold]; omega
  by_cases c : f = at'
  · subst c
    have hp := pc_len text f ha
    rw [if_pos rfl, if_pos ⟨by rw [h0]; rfl, by rw [h0]; show ((pc text f).length : Int) ≤ (text.length : Int) - f; omega⟩]
    show IB.mk i t text.length (text.take f ++ pc text f) = _
    rw [pc_add _ _ ha]; rfl
  · rw [if_neg c, if_neg (by rw [h0]; show ¬ ((f : Int) = at' ∧ _); omega)]
theorem out_pm {i t : Int} (hi : 1 ≤ i) {text : List UInt8} (hl : text.length ≤ 65536) {at' f : Nat} (ha : at' ≤ text.length) (hf : f ≤ text.length) {x : IB} (hx : x = hold i t text at' ∨ (x = I0 ∧ at' = 0)) :
    iout x (pm i t text f) = if nx text at' f < text.length then ((nx text at' f : Int), [], false) else ((text.length : Int), text, true) := by
  have hb : ¬ ibad (pm i t text f) := by unfold ibad pm; simp only; omega
  unfold iout
  rw [if_neg hb, put_pm hi hl ha hf hx]
  have hle := (nx_le (f := f) ha).2
  unfold itell hold
  simp only
  have e : (text.take (nx text at' f)).length = nx text at' f := by simp; omega
  rw [e]
  by_cases c : nx text at' f < text.length
  · rw [if_pos c, if_pos (by omega)]
  · rw [if_neg c, if_neg (by omega), List.take_of_length_le (by omega)]
end Go.Proofs.Ytjcobnjnjliehaa.sn
