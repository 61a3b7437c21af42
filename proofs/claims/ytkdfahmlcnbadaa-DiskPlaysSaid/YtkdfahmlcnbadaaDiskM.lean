/-
  Files: the model.
-/
import Derived.Test.YtkdfahmlcnbadaaAbB
import Derived.Test.YtkdfahmlcnbadaaAbV
namespace Go.Proofs.Ytkdfahmlcnbadaa.dk
open Go.Ab
set_option maxRecDepth 100000
set_option maxHeartbeats 8000000
set_option linter.unusedSimpArgs false
set_option linter.unusedVariables false

structure S2 where
  there : Bool
  s : List UInt8
structure Ch where
  k : Int
  s : List UInt8
  n : Int
def done (x : S2) (c : Ch) : S2 := if c.k = 1 then ⟨true, x.s ++ c.s⟩ else if c.k = 2 then ⟨true, x.s.take c.n.toNat⟩ else ⟨false, []⟩
def seenOf (x : S2) (l : List Ch) : S2 := l.foldl done x
/-- Changes that may be done, one behind the other. -/
def Okc (x : S2) (c : Ch) : Prop := (c.k = 1 ∧ x.s.length + c.s.length ≤ 1048576) ∨ (c.k = 2 ∧ x.there = true ∧ 0 ≤ c.n ∧ c.n ≤ x.s.length) ∨ c.k = 3
def Okl : S2 → List Ch → Prop
  | _, [] => True
  | x, c :: l => Okc x c ∧ Okl (done x c) l
structure FM where
  sure : S2
  loose : List Ch
def FM.seen (F : FM) : S2 := seenOf F.sure F.loose
structure FM.Ok (F : FM) : Prop where
  ok : Okl F.sure F.loose
  len : F.sure.s.length ≤ 1048576
structure DM where
  f : Nat → FM
  power : Int
  ops : Int

theorem seenOf_append (x : S2) (l : List Ch) (c : Ch) : seenOf x (l ++ [c]) = done (seenOf x l) c := by simp [seenOf]
theorem okl_append {l : List Ch} {c : Ch} : ∀ {x : S2}, Okl x l → Okc (seenOf x l) c → Okl x (l ++ [c]) := by
  induction l with
  | nil => intro x _ h; exact ⟨h, trivial⟩
  | cons d l ih => intro x h1 h2; exact ⟨h1.1, ih h1.2 h2⟩
theorem okl_take {l : List Ch} : ∀ {x : S2} (n : Nat), Okl x l → Okl x (l.take n) := by
  induction l with
  | nil => intro x n _; simp [Okl]
  | cons d l ih =>
    intro x n h
    cases n with
    | zero => simp [Okl]
    | succ n => exact ⟨h.1, ih n h.2⟩
theorem done_len {x : S2} {c : Ch} (h : x.s.length ≤ 1048576) (hc : Okc x c) : (done x c).s.length ≤ 1048576 := by
  unfold done
  rcases hc with ⟨h1, h2⟩ | ⟨h1, h2, h3, h4⟩ | h1
  · rw [if_pos h1]; simpa using h2
  · rw [if_neg (by omega), if_pos h1, List.length_take]; omega
  · rw [if_neg (by omega), if_neg (by omega)]; simp
theorem seen_len {l : List Ch} : ∀ {x : S2}, Okl x l → x.s.length ≤ 1048576 → (seenOf x l).s.length ≤ 1048576 := by
  induction l with
  | nil => intro x _ h; exact h
  | cons d l ih => intro x h1 h2; exact ih h1.2 (done_len h2 h1.1)
theorem FM.Ok.seen {F : FM} (h : F.Ok) : F.seen.s.length ≤ 1048576 := seen_len h.ok h.len

def F0 : FM := ⟨⟨false, []⟩, []⟩
def D0 : DM := ⟨fun _ => F0, -1, 0⟩
def DM.see (M : DM) (f : Int) : S2 := if 0 ≤ f ∧ f < 32 then (M.f f.toNat).seen else ⟨false, []⟩
def DM.upd (M : DM) (f : Int) (F : FM) : DM := { M with f := fun i => if i = f.toNat then F else M.f i }
def DM.step (M : DM) (f e : Int) : DM × Int :=
  if M.power = 0 then (M, 40) else if f < 0 ∨ 32 ≤ f then (M, 2) else if e ≠ 0 then (M, e) else ({ M with power := if 0 < M.power then M.power - 1 else M.power, ops := M.ops + 1 }, 0)
def FM.add (F : FM) (c : Ch) : FM := ⟨F.sure, F.loose ++ [c]⟩
def DM.may (M : DM) (f : Int) (c : Ch) : Int :=
  if c.k = 1 then (if 1048576 - ((M.see f).s.length : Int) < c.s.length then 8 else 0) else if (M.see f).there = false then 4 else if c.k = 2 ∧ (c.n < 0 ∨ ((M.see f).s.length : Int) < c.n) then 5 else 0
def DM.change (M : DM) (f : Int) (c : Ch) : DM × Int :=
  let r := M.step f (M.may f c)
  if r.2 = 0 then (r.1.upd f ((M.f f.toNat).add c), 0) else r
def DM.sync (M : DM) (f : Int) : DM × Int :=
  let r := M.step f 0
  if r.2 = 0 then (r.1.upd f ⟨(M.f f.toNat).seen, []⟩, 0) else r
def DM.read (M : DM) (f : Int) : List UInt8 × Int :=
  if M.power = 0 then ([], 40) else if f < 0 ∨ 32 ≤ f then ([], 2) else if (M.see f).there = false then ([], 4) else ((M.see f).s, 0)
/-- What is left of a file: so many changes, and a part of the next one. -/
def FM.crashN (F : FM) (n : Nat) (torn : Int) : FM :=
  let x := seenOf F.sure (F.loose.take n)
  match F.loose[n]? with
  | some c => if c.k = 1 ∧ 0 < c.s.length ∧ 0 < torn then ⟨done x ⟨1, c.s.take (min torn (c.s.length - 1)).toNat, 0⟩, []⟩ else ⟨x, []⟩
  | none => ⟨x, []⟩
def FM.crash (F : FM) (keep torn : Int) : FM := F.crashN (min (max keep 0) F.loose.length).toNat torn
def DM.crash (M : DM) (keep : List Int) (torn : Int) : DM := ⟨fun i => (M.f i).crash ((keep[i]?).getD 0) torn, -1, M.ops⟩

structure DM.Ok (M : DM) (B : Nat) : Prop where
  f : ∀ i, i < 32 → (M.f i).Ok ∧ (M.f i).loose.length ≤ B
  p0 : -1 ≤ M.power
  p1 : M.power ≤ 9223372036854775807
  o0 : 0 ≤ M.ops
  o1 : M.ops ≤ B
theorem DM.Ok.zero (B : Nat) : D0.Ok B := ⟨fun i _ => ⟨⟨trivial, by simp [D0, F0]⟩, by simp [D0, F0]⟩, by simp [D0], by simp [D0], by simp [D0], by simp [D0]⟩
theorem DM.Ok.more {M : DM} {B C : Nat} (h : M.Ok B) (hc : B ≤ C) : M.Ok C := ⟨fun i hi => ⟨(h.f i hi).1, Nat.le_trans (h.f i hi).2 hc⟩, h.p0, h.p1, h.o0, by have := h.o1; omega⟩
theorem DM.Ok.step {M : DM} {B : Nat} (h : M.Ok B) (f e : Int) : (M.step f e).1.Ok (B + 1) := by
  have h' := h.more (Nat.le_succ B)
  unfold DM.step
  split
  · exact h'
  · split
    · exact h'
    · split
      · exact h'
      · refine ⟨h'.f, ?_, ?_, by have := h.o0; dsimp only; omega, by have := h.o1; dsimp only; omega⟩
        · dsimp only; split <;> have := h.p0 <;> omega
        · dsimp only; split <;> have := h.p1 <;> omega
theorem step_f (M : DM) (f e : Int) : (M.step f e).1.f = M.f := by
  unfold DM.step
  repeat' split
  all_goals rfl
theorem step_0 {M : DM} {f e : Int} (h : (M.step f e).2 = 0) : M.power ≠ 0 ∧ 0 ≤ f ∧ f < 32 ∧ e = 0 := by
  unfold DM.step at h
  split at h
  · simp at h
  · split at h
    · simp at h
    · split at h
      · rename_i he; simp at h; exact absurd h he
      · rename_i h1 h2 h3; refine ⟨h1, ?_⟩; omega
theorem DM.Ok.upd {M : DM} {B : Nat} (h : M.Ok B) {f : Int} {F : FM} (hF : F.Ok) (hl : F.loose.length ≤ B) : (M.upd f F).Ok B := by
  refine ⟨fun i hi => ?_, h.p0, h.p1, h.o0, h.o1⟩
  simp only [DM.upd]
  split
  · exact ⟨hF, hl⟩
  · exact h.f i hi
theorem see_in {M : DM} {f : Int} (h0 : 0 ≤ f) (h1 : f < 32) : M.see f = (M.f f.toNat).seen := by unfold DM.see; rw [if_pos ⟨h0, h1⟩]
theorem may_ok {M : DM} {f : Int} {c : Ch} (h0 : 0 ≤ f) (h1 : f < 32) (hc : c.k = 1 ∨ c.k = 2 ∨ c.k = 3) (h : M.may f c = 0) : Okc (M.f f.toNat).seen c := by
  unfold DM.may at h
  rw [see_in h0 h1] at h
  unfold Okc
  rcases hc with hc | hc | hc
  · rw [if_pos hc] at h
    split at h
    · simp at h
    · left; refine ⟨hc, ?_⟩; omega
  · rw [if_neg (by omega)] at h
    split at h
    · simp at h
    · rename_i ht
      split at h
      · simp at h
      · rename_i hn
        right; left
        refine ⟨hc, by simpa using ht, ?_⟩
        omega
  · right; right; exact hc
theorem DM.Ok.change {M : DM} {B : Nat} (h : M.Ok B) {f : Int} {c : Ch} (hc : c.k = 1 ∨ c.k = 2 ∨ c.k = 3) : (M.change f c).1.Ok (B + 1) := by
  unfold DM.change
  dsimp only
  have hs := h.step f (M.may f c)
  split
  · rename_i h0
    obtain ⟨_, h1, h2, h3⟩ := step_0 h0
    obtain ⟨h4, h5⟩ := h.f f.toNat (by omega)
    exact hs.upd ⟨okl_append h4.ok (may_ok h1 h2 hc h3), h4.len⟩ (by simp [FM.add]; omega)
  · exact hs
theorem DM.Ok.sync {M : DM} {B : Nat} (h : M.Ok B) (f : Int) : (M.sync f).1.Ok (B + 1) := by
  unfold DM.sync
  dsimp only
  have hs := h.step f 0
  split
  · rename_i h0
    obtain ⟨_, h1, h2, h3⟩ := step_0 h0
    exact hs.upd ⟨trivial, (h.f f.toNat (by omega)).1.seen⟩ (by simp)
  · exact hs
theorem FM.Ok.crash {F : FM} (h : F.Ok) (keep torn : Int) : (F.crash keep torn).Ok ∧ (F.crash keep torn).loose = [] := by
  have hx : ∀ n, (seenOf F.sure (F.loose.take n)).s.length ≤ 1048576 := fun n => seen_len (okl_take n h.ok) h.len
  have key : ∀ (l : List Ch) (x : S2) (n : Nat) (c : Ch), Okl x l → l[n]? = some c → Okc (seenOf x (l.take n)) c := by
    intro l
    induction l with
    | nil => intro x n c _ hn; simp at hn
    | cons d l ih =>
      intro x n c hl hn
      cases n with
      | zero => simp at hn; subst hn; exact hl.1
      | succ n => exact ih _ n c hl.2 (by simpa using hn)
  unfold FM.crash FM.crashN
  dsimp only
  split
  · rename_i c hc
    split
    · rename_i hk
      have h1 := key _ _ _ _ h.ok hc
      refine ⟨⟨trivial, done_len (hx _) (.inl ⟨rfl, ?_⟩)⟩, rfl⟩
      rcases h1 with ⟨_, h1⟩ | ⟨h1, _⟩ | h1
      · dsimp only
        rw [List.length_take]
        omega
      · omega
      · omega
    · exact ⟨⟨trivial, hx _⟩, rfl⟩
  · exact ⟨⟨trivial, hx _⟩, rfl⟩
theorem DM.Ok.crash {M : DM} {B : Nat} (h : M.Ok B) (keep : List Int) (torn : Int) : (M.crash keep torn).Ok B := by
  refine ⟨fun i hi => ?_, by simp [DM.crash], by simp [DM.crash], h.o0, h.o1⟩
  obtain ⟨h1, h2⟩ := (h.f i hi).1.crash ((keep[i]?).getD 0) torn
  exact ⟨h1, by simp only [DM.crash, h2]; simp⟩
theorem DM.Ok.power {M : DM} {B : Nat} (h : M.Ok B) {n : Int} (hn : n ≤ 9223372036854775807) : DM.Ok { M with power := max n (-1) } B := ⟨h.f, by dsimp only; omega, by dsimp only; omega, h.o0, h.o1⟩
theorem take_succ' {α : Type} {l : List α} {j : Nat} (h : j < l.length) : l.take (j + 1) = l.take j ++ [l[j]] := by
  rw [List.take_add_one, List.getElem?_eq_getElem h]; rfl

theorem okl_at {l : List Ch} : ∀ {x : S2} {n : Nat} (hn : n < l.length), Okl x l → Okc (seenOf x (l.take n)) l[n] := by
  induction l with
  | nil => intro x n hn; simp at hn
  | cons d l ih =>
    intro x n hn h
    cases n with
    | zero => exact h.1
    | succ n => exact ih (by simpa using hn) h.2

end Go.Proofs.Ytkdfahmlcnbadaa.dk
