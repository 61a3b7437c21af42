/-
  Several networks side by side.
-/
import Derived.Test.YthnfafphaopnkaaNetV
namespace Go.Proofs.Ythnfafphaopnkaa.netR
open Go.Ab
set_option maxRecDepth 100000
set_option maxHeartbeats 8000000
set_option linter.unusedSimpArgs false
set_option linter.unusedVariables false

structure Hd where
  n : Nat
  mo : Nat
  fo : Option Nat
def Hd.X (h : Hd) : Nat → Prop := NX h.n h.mo h.fo
def NH (σ : St) (h : Hd) (N : NS) : Prop := NR σ h.n h.mo h.fo N
def Dj (a b : Hd) : Prop := ∀ x, a.X x → ¬ b.X x
theorem Dj.symm {a b : Hd} (h : Dj a b) : Dj b a := fun x hb ha => h x ha hb
theorem NH.lt {σ : St} {h : Hd} {N : NS} (hn : NH σ h N) {x : Nat} (hx : h.X x) : x < σ.n := NX.lt hn hx
theorem Dj.n {a b : Hd} (h : Dj a b) : a.n ≠ b.n := fun he => h a.n (.inl rfl) (.inl he)
/-- What another one's call leaves. -/
theorem Dj.mv {σ σ' : St} {a b b' : Hd} {N : NS} (hd : Dj a b) (hn : NH σ a N) (m : Mv b.X σ b'.X σ') : NH σ' a N ∧ Dj a b' :=
  ⟨hn.kept m.kept fun x hx hb => hd x hx hb, fun x hx hb => by
    rcases m.own x hb with h | h
    · exact hd x hx h
    · have := hn.lt hx; omega⟩
theorem NH.kept0 {σ σ' : St} {a : Hd} {N : NS} (h : NH σ a N) (k : Kept noX σ σ') : NH σ' a N := NR.kept0 h k

theorem playh (k : Nat) (ys : YlF) (σ : St) (h : Hd) (N : NS) (o : Op) (hn : NH σ h N) (hv : Iv N) (hs : N.sent ≤ 1000) (hk : 257 ≤ k) (ha : I64 o.a) :
    W (callY Tab.tbl (k + 6) ys 17 [.ptr h.n 0, .agg (oc o)] σ) fun r => ∃ h' : Hd, r.1 = .tup [.ptr h'.n 0, .agg (tc (nplay N o).2)] ∧ NH r.2 h' (nplay N o).1 ∧ Mv h.X σ h'.X r.2 :=
  (play_ok k ys σ h.n h.mo h.fo N o hn hv hs hk ha).mono fun r ⟨n', mo', fo', h1, h2, h3⟩ => ⟨⟨n', mo', fo'⟩, h1, h2, h3⟩
theorem newh (σ : St) : NH ((σ.push (.map [] 0)).push (.cells [.sc .nilS, .mp σ.n, .sc (.int .i64 0)])) ⟨σ.n + 1, σ.n, none⟩ N0 := new_R σ
theorem copyh (k : Nat) (ys : YlF) (σ : St) (h : Hd) (N : NS) (hn : NH σ h N) (hl : N.ls.length ≤ 256) :
    W (callY Tab.tbl (k + 2) ys 21 [.ptr h.n 0] σ) fun o => ∃ h' : Hd, o.1 = .ptr h'.n 0 ∧ NH o.2 h' N ∧ Kept noX σ o.2 ∧ ∀ x, h'.X x → σ.n ≤ x :=
  (copy_ok k ys σ h.n h.mo h.fo N hn hl).mono fun r ⟨n', mo', fo', h1, h2, h3, h4⟩ => ⟨⟨n', mo', fo'⟩, h1, h2, h3, h4⟩
theorem flighth (k : Nat) (ys : YlF) (σ : St) (h : Hd) (N : NS) (hn : NH σ h N) (hl : N.ls.length ≤ 256) :
    W (callY Tab.tbl (k + 2) ys 15 [.ptr h.n 0] σ) fun o => ∃ fo', Fl o.2 fo' o.1 N.ls ∧ Kept noX σ o.2 ∧ ∀ p, fo' = some p → σ.n ≤ p := flight_ok k ys σ h.n h.mo h.fo N hn hl
theorem newX {σ : St} {x : Nat} (h : (Hd.mk (σ.n + 1) σ.n none).X x) : σ.n ≤ x ∧ x < σ.n + 2 := by
  rcases h with h | h | h
  · dsimp only at h; omega
  · dsimp only at h; omega
  · cases h
end Go.Proofs.Ythnfafphaopnkaa.netR
