/- Files: the model. Files: the program's functions. Files: the program's functions, on. Files: the program's calls. Files: the program's calls, on. Files: a crash. -/
import Derived.Test.YtehdjkikcfeiaaaGreatAbB
import Derived.Test.YtehdjkikcfeiaaaGreatAbV
namespace Go.Proofs.YtehdjkikcfeiaaaGreat.dk
open Go.Ab
set_option maxRecDepth 100000
set_option maxHeartbeats 8000000
set_option linter.unusedSimpArgs false
set_option linter.unusedVariables false
structure S2 where
 there : Bool
 s : List UInt8
structure Ch where
 k : Int
 s : List UInt8
 n : Int
def done (x : S2) (c : Ch) : S2 := if c.k = 1 then ⟨true, x.s ++ c.s⟩ else if c.k = 2 then ⟨true, x.s.take c.n.toNat⟩ else ⟨false, []⟩
def seenOf (x : S2) (l : List Ch) : S2 := l.foldl done x
def Okc (x : S2) (c : Ch) : Prop := (c.k = 1 ∧ x.s.length + c.s.length ≤ 1048576) ∨ (c.k = 2 ∧ x.there = true ∧ 0 ≤ c.n ∧ c.n ≤ x.s.length) ∨ c.k = 3
def Okl : S2 → List Ch → Prop
 | _, [] => True
 | x, c :: l => Okc x c ∧ Okl (done x c) l
structure FM where
 sure : S2
 loose : List Ch
def FM.seen (F : FM) : S2 := seenOf F.sure F.loose
structure FM.Ok (F : FM) : Prop where
 ok : Okl F.sure F.loose
 len : F.sure.s.length ≤ 1048576
structure DM where
 f : Nat → FM
 power : Int
 ops : Int
theorem seenOf_append (x : S2) (l : List Ch) (c : Ch) : seenOf x (l ++ [c]) = done (seenOf x l) c := by simp [seenOf]
theorem okl_append {l : List Ch} {c : Ch} : ∀ {x : S2}, Okl x l → Okc (seenOf x l) c → Okl x (l ++ [c]) := by
 induction l with
 | nil => intro x _ h; exact ⟨h, trivial⟩
 | cons d l ih => intro x h1 h2; exact ⟨h1.1, ih h1.2 h2⟩
theorem okl_take {l : List Ch} : ∀ {x : S2} (n : Nat), Okl x l → Okl x (l.take n) := by
 induction l with
 | nil => intro x n _; simp [Okl]
 | cons d l ih =>
  intro x n h
  cases n with
  | zero => simp [Okl]
  | succ n => exact ⟨h.1, ih n h.2⟩
theorem done_len {x : S2} {c : Ch} (h : x.s.length ≤ 1048576) (hc : Okc x c) : (done x c).s.length ≤ 1048576 := by
 unfold done
 rcases hc with ⟨h1, h2⟩ | ⟨h1, h2, h3, h4⟩ | h1
 · rw [if_pos h1]; simpa using h2
 · rw [if_neg (by omega), if_pos h1, List.length_take]; omega
 · rw [if_neg (by omega), if_neg (by omega)]; simp
theorem seen_len {l : List Ch} : ∀ {x : S2}, Okl x l → x.s.length ≤ 1048576 → (seenOf x l).s.length ≤ 1048576 := by
 induction l with
 | nil => intro x _ h; exact h
 | cons d l ih => intro x h1 h2; exact ih h1.2 (done_len h2 h1.1)
theorem FM.Ok.seen {F : FM} (h : F.Ok) : F.seen.s.length ≤ 1048576 := seen_len h.ok h.len
def F0 : FM := ⟨⟨false, []⟩, []⟩
def D0 : DM := ⟨fun _ => F0, -1, 0⟩
def DM.see (M : DM) (f : Int) : S2 := if 0 ≤ f ∧ f < 32 then (M.f f.toNat).seen else ⟨false, []⟩
def DM.upd (M : DM) (f : Int) (F : FM) : DM := { M with f := fun i => if i = f.toNat then F else M.f i }
def DM.step (M : DM) (f e : Int) : DM × Int :=
 if M.power = 0 then (M, 40) else if f < 0 ∨ 32 ≤ f then (M, 2) else if e ≠ 0 then (M, e) else ({ M with power := if 0 < M.power then M.power - 1 else M.power, ops := M.ops + 1 }, 0)
def FM.add (F : FM) (c : Ch) : FM := ⟨F.sure, F.loose ++ [c]⟩
def DM.may (M : DM) (f : Int) (c : Ch) : Int :=
 if c.k = 1 then (if 1048576 - ((M.see f).s.length : Int) < c.s.length then 8 else 0) else if (M.see f).there = false then 4 else if c.k = 2 ∧ (c.n < 0 ∨ ((M.see f).s.length : Int) < c.n) then 5 else 0
def DM.change (M : DM) (f : Int) (c : Ch) : DM × Int :=
 let r := M.step f (M.may f c)
 if r.2 = 0 then (r.1.upd f ((M.f f.toNat).add c), 0) else r
def DM.sync (M : DM) (f : Int) : DM × Int :=
 let r := M.step f 0
 if r.2 = 0 then (r.1.upd f ⟨(M.f f.toNat).seen, []⟩, 0) else r
def DM.read (M : DM) (f : Int) : List UInt8 × Int :=
 if M.power = 0 then ([], 40) else if f < 0 ∨ 32 ≤ f then ([], 2) else if (M.see f).there = false then ([], 4) else ((M.see f).s, 0)
def FM.crashN (F : FM) (n : Nat) (torn : Int) : FM :=
 let x := seenOf F.sure (F.loose.take n)
 match F.loose[n]? with
 | some c => if c.k = 1 ∧ 0 < c.s.length ∧ 0 < torn then ⟨done x ⟨1, c.s.take (min torn (c.s.length - 1)).toNat, 0⟩, []⟩ else ⟨x, []⟩
 | none => ⟨x, []⟩
def FM.crash (F : FM) (keep torn : Int) : FM := F.crashN (min (max keep 0) F.loose.length).toNat torn
def DM.crash (M : DM) (keep : List Int) (torn : Int) : DM := ⟨fun i => (M.f i).crash ((keep[i]?).getD 0) torn, -1, M.ops⟩
structure DM.Ok (M : DM) (B : Nat) : Prop where
 f : ∀ i, i < 32 → (M.f i).Ok ∧ (M.f i).loose.length ≤ B
 p0 : -1 ≤ M.power
 p1 : M.power ≤ 9223372036854775807
 o0 : 0 ≤ M.ops
 o1 : M.ops ≤ B
theorem DM.Ok.zero (B : Nat) : D0.Ok B := ⟨fun i _ => ⟨⟨trivial, by simp [D0, F0]⟩, by simp [D0, F0]⟩, by simp [D0], by simp [D0], by simp [D0], by simp [D0]⟩
theorem DM.Ok.more {M : DM} {B C : Nat} (h : M.Ok B) (hc : B ≤ C) : M.Ok C := ⟨fun i hi => ⟨(h.f i hi).1, Nat.le_trans (h.f i hi).2 hc⟩, h.p0, h.p1, h.o0, by have := h.o1; omega⟩
theorem DM.Ok.step {M : DM} {B : Nat} (h : M.Ok B) (f e : Int) : (M.step f e).1.Ok (B + 1) := by
 have h' := h.more (Nat.le_succ B)
 unfold DM.step
 split
 · exact h'
 · split
   · exact h'
   · split
     · exact h'
     · refine ⟨h'.f, ?_, ?_, by have := h.o0; dsimp only; omega, by have := h.o1; dsimp only; omega⟩
       · dsimp only; split <;> have := h.p0 <;> omega
       · dsimp only; split <;> have := h.p1 <;> omega
theorem step_f (M : DM) (f e : Int) : (M.step f e).1.f = M.f := by
 unfold DM.step
 repeat' split
 all_goals rfl
theorem step_0 {M : DM} {f e : Int} (h : (M.step f e).2 = 0) : M.power ≠ 0 ∧ 0 ≤ f ∧ f < 32 ∧ e = 0 := by
 unfold DM.step at h
 split at h
 · simp at h
 · split at h
   · simp at h
   · split at h
     · rename_i he; simp at h; exact absurd h he
     · rename_i h1 h2 h3; refine ⟨h1, ?_⟩; omega
theorem DM.Ok.upd {M : DM} {B : Nat} (h : M.Ok B) {f : Int} {F : FM} (hF : F.Ok) (hl : F.loose.length ≤ B) : (M.upd f F).Ok B := by
 refine ⟨fun i hi => ?_, h.p0, h.p1, h.o0, h.o1⟩
 simp only [DM.upd]
 split
 · exact ⟨hF, hl⟩
 · exact h.f i hi
theorem see_in {M : DM} {f : Int} (h0 : 0 ≤ f) (h1 : f < 32) : M.see f = (M.f f.toNat).seen := by unfold DM.see; rw [if_pos ⟨h0, h1⟩]
theorem may_ok {M : DM} {f : Int} {c : Ch} (h0 : 0 ≤ f) (h1 : f < 32) (hc : c.k = 1 ∨ c.k = 2 ∨ c.k = 3) (h : M.may f c = 0) : Okc (M.f f.toNat).seen c := by
 unfold DM.may at h
 rw [see_in h0 h1] at h
 unfold Okc
 rcases hc with hc | hc | hc
 · rw [if_pos hc] at h
   split at h
   · simp at h
   · left; refine ⟨hc, ?_⟩; omega
 · rw [if_neg (by omega)] at h
   split at h
   · simp at h
   · rename_i ht
     split at h
     · simp at h
     · rename_i hn
       right; left
       refine ⟨hc, by simpa using ht, ?_⟩
       omega
 · right; right; exact hc
theorem DM.Ok.change {M : DM} {B : Nat} (h : M.Ok B) {f : Int} {c : Ch} (hc : c.k = 1 ∨ c.k = 2 ∨ c.k = 3) : (M.change f c).1.Ok (B + 1) := by
 unfold DM.change
 dsimp only
 have hs := h.step f (M.may f c)
 split
 · rename_i h0
   obtain ⟨_, h1, h2, h3⟩ := step_0 h0
   obtain ⟨h4, h5⟩ := h.f f.toNat (by omega)
   exact hs.upd ⟨okl_append h4.ok (may_ok h1 h2 hc h3), h4.len⟩ (by simp [FM.add]; omega)
 · exact hs
theorem DM.Ok.sync {M : DM} {B : Nat} (h : M.Ok B) (f : Int) : (M.sync f).1.Ok (B + 1) := by
 unfold DM.sync
 dsimp only
 have hs := h.step f 0
 split
 · rename_i h0
   obtain ⟨_, h1, h2, h3⟩ := step_0 h0
   exact hs.upd ⟨trivial, (h.f f.toNat (by omega)).1.seen⟩ (by simp)
 · exact hs
theorem FM.Ok.crash {F : FM} (h : F.Ok) (keep torn : Int) : (F.crash keep torn).Ok ∧ (F.crash keep torn).loose = [] := by
 have hx : ∀ n, (seenOf F.sure (F.loose.take n)).s.length ≤ 1048576 := fun n => seen_len (okl_take n h.ok) h.len
 have key : ∀ (l : List Ch) (x : S2) (n : Nat) (c : Ch), Okl x l → l[n]? = some c → Okc (seenOf x (l.take n)) c := by
  intro l
  induction l with
  | nil => intro x n c _ hn; simp at hn
  | cons d l ih =>
   intro x n c hl hn
   cases n with
   | zero => simp at hn; subst hn; exact hl.1
   | succ n => exact ih _ n c hl.2 (by simpa using hn)
 unfold FM.crash FM.crashN
 dsimp only
 split
 · rename_i c hc
   split
   · rename_i hk
     have h1 := key _ _ _ _ h.ok hc
     refine ⟨⟨trivial, done_len (hx _) (.inl ⟨rfl, ?_⟩)⟩, rfl⟩
     rcases h1 with ⟨_, h1⟩ | ⟨h1, _⟩ | h1
     · dsimp only
       rw [List.length_take]
       omega
     · omega
     · omega
   · exact ⟨⟨trivial, hx _⟩, rfl⟩
 · exact ⟨⟨trivial, hx _⟩, rfl⟩
theorem DM.Ok.crash {M : DM} {B : Nat} (h : M.Ok B) (keep : List Int) (torn : Int) : (M.crash keep torn).Ok B := by
 refine ⟨fun i hi => ?_, by simp [DM.crash], by simp [DM.crash], h.o0, h.o1⟩
 obtain ⟨h1, h2⟩ := (h.f i hi).1.crash ((keep[i]?).getD 0) torn
 exact ⟨h1, by simp only [DM.crash, h2]; simp⟩
theorem DM.Ok.power {M : DM} {B : Nat} (h : M.Ok B) {n : Int} (hn : n ≤ 9223372036854775807) : DM.Ok { M with power := max n (-1) } B := ⟨h.f, by dsimp only; omega, by dsimp only; omega, h.o0, h.o1⟩
theorem take_succ' {α : Type} {l : List α} {j : Nat} (h : j < l.length) : l.take (j + 1) = l.take j ++ [l[j]] := by
 rw [List.take_add_one, List.getElem?_eq_getElem h]; rfl
theorem okl_at {l : List Ch} : ∀ {x : S2} {n : Nat} (hn : n < l.length), Okl x l → Okc (seenOf x (l.take n)) l[n] := by
 induction l with
 | nil => intro x n hn; simp at hn
 | cons d l ih =>
  intro x n hn h
  cases n with
  | zero => exact h.1
  | succ n => exact ih (by simpa using hn) h.2
end Go.Proofs.YtehdjkikcfeiaaaGreat.dk
namespace Go.Proofs.YtehdjkikcfeiaaaGreat.dk
open Go.Ab
set_option maxRecDepth 100000
set_option maxHeartbeats 8000000
set_option linter.unusedSimpArgs false
set_option linter.unusedVariables false
def chc (c : Ch) : List V := [.sc (.int .i64 c.k), .str c.s, .sc (.int .i64 c.n)]
def fcell (F : FM) (v : V) : List V := [.str F.sure.s, .str F.seen.s, .sc (.bool F.sure.there), .sc (.bool F.seen.there), v]
structure FC (cs : List V) (off : Nat) (F : FM) (v : V) : Prop where
 rv : RV 3 v (F.loose.map chc)
 c0 : cs[off]? = some (.str F.sure.s)
 c1 : cs[off + 1]? = some (.str F.seen.s)
 c2 : cs[off + 2]? = some (.sc (.bool F.sure.there))
 c3 : cs[off + 3]? = some (.sc (.bool F.seen.there))
 c4 : cs[off + 4]? = some v
theorem FC.len {cs : List V} {off : Nat} {F : FM} {v : V} (h : FC cs off F v) : off + 5 ≤ cs.length := by
 have := (List.getElem?_eq_some_iff.1 h.c4).1; omega
theorem FC.take {cs : List V} {off : Nat} {F : FM} {v : V} (h : FC cs off F v) : (cs.drop off).take 5 = fcell F v := by
 have := take_cells (cs := cs) (es := fcell F v) (k := off) (fun i hi => by
  have hi : i < 5 := hi
  have : i = 0 ∨ i = 1 ∨ i = 2 ∨ i = 3 ∨ i = 4 := by omega
  rcases this with rfl | rfl | rfl | rfl | rfl
  · exact h.c0
  · exact h.c1
  · exact h.c2
  · exact h.c3
  · exact h.c4) (.inl h.len)
 exact this
structure DC (cs : List V) (M : DM) : Prop where
 len : cs.length = 162
 p : cs[160]? = some (.sc (.int .i64 M.power))
 o : cs[161]? = some (.sc (.int .i64 M.ops))
 f : ∀ i, i < 32 → ∃ v, FC cs (i * 5) (M.f i) v
def DR (σ : St) (d : Nat) (M : DM) : Prop := ∃ cs, σ.get d = some (.cells cs) ∧ DC cs M
theorem DR.kept {X : Nat → Prop} {σ σ' : St} {d : Nat} {M : DM} (h : DR σ d M) (k : Kept X σ σ') (hx : ¬ X d) : DR σ' d M := by
 obtain ⟨cs, h1, h2⟩ := h; exact ⟨cs, k.get _ _ hx h1, h2⟩
theorem DR.lt {σ : St} {d : Nat} {M : DM} (h : DR σ d M) : d < σ.n := by obtain ⟨cs, h1, _⟩ := h; exact St.get_lt h1
def DM.file (M : DM) (f : Int) : FM := if 0 ≤ f ∧ f < 32 then M.f f.toNat else F0
theorem file_seen (M : DM) (f : Int) : (M.file f).seen = M.see f := by
 unfold DM.file DM.see
 split <;> rfl
theorem file_in (M : DM) {i : Nat} (h : i < 32) : M.file i = M.f i := by
 have h2 : (0 : Int) ≤ i ∧ (i : Int) < 32 := by omega
 unfold DM.file
 rw [if_pos h2, Int.toNat_natCast]
theorem new_ok (k : Nat) (ys : YlF) (σ : St) : W (callY Tab.tb (k + 1) ys 6 [] σ) fun r => r.1 = .ptr σ.n 0 ∧ DR r.2 σ.n D0 ∧ Kept noX σ r.2 ∧ r.2.n = σ.n + 1 := by
 rw [s_call (af := Tab.b6) rfl (Nat.le_of_ble_eq_true rfl)]
 generalize callY Tab.tb k = cy
 simp -implicitDefEqProofs (disch := first | exact nbf rfl | exact nbt rfl | (simp only [zN.down, reduceCtorEq] <;> omega) | omega) only [Tab.b6, XOp.kind, AOp.kind, zU.down, simprocAttr]
 refine ⟨⟨_, get_push_self, ⟨rfl, rfl, rfl, fun i hi => ⟨.sc .nilS, .nil, ?_, ?_, ?_, ?_, ?_⟩⟩⟩, ?_⟩
 all_goals first
  | (((repeat (first | refine Kept.push ?_ _ | refine Kept.bump ?_ | refine Kept.put ?_ (.inr (by omega)) (by first | omega | (simp only [St.n_put, St.n_push]; omega)) _)); first | exact Kept.refl _ _ | assumption); done)
  | (have : i = 0 ∨ i = 1 ∨ i = 2 ∨ i = 3 ∨ i = 4 ∨ i = 5 ∨ i = 6 ∨ i = 7 ∨ i = 8 ∨ i = 9 ∨ i = 10 ∨ i = 11 ∨ i = 12 ∨ i = 13 ∨ i = 14 ∨ i = 15 ∨ i = 16 ∨ i = 17 ∨ i = 18 ∨ i = 19 ∨ i = 20 ∨ i = 21 ∨ i = 22 ∨ i = 23 ∨ i = 24 ∨ i = 25 ∨ i = 26 ∨ i = 27 ∨ i = 28 ∨ i = 29 ∨ i = 30 ∨ i = 31 := by omega
     rcases this with rfl | rfl | rfl | rfl | rfl | rfl | rfl | rfl | rfl | rfl | rfl | rfl | rfl | rfl | rfl | rfl | rfl | rfl | rfl | rfl | rfl | rfl | rfl | rfl | rfl | rfl | rfl | rfl | rfl | rfl | rfl | rfl <;> rfl)
theorem pnil (σ : St) (d : Nat) : aEqV σ .ptr (.ptr d 0) (.sc .nilP) = some false := rfl
theorem slnil (σ : St) {v : V} {es : List (List V)} (h : RV 3 v es) : ∃ b, aEqV σ .slice v (.sc .nilS) = some b ∧ (b = true → es = []) := by
 cases h with
 | nil => exact ⟨true, rfl, fun _ => rfl⟩
 | odd => exact ⟨false, by simp [aEqV, aNilness, isSl], fun h => by cases h⟩
 | vs => exact ⟨false, rfl, fun h => by cases h⟩
theorem seen_ok (k : Nat) (ys : YlF) (σ : St) (d : Nat) (M : DM) (f : Int) (h : DR σ d M) :
  ∃ v, RV 3 v ((M.file f).loose.map chc) ∧ callY Tab.tb (k + 1) ys 62 [.ptr d 0, .sc (.int .i64 f)] σ = some (.tup [.agg (fcell (M.file f) v), .sc (.bool (M.file f).seen.there)], σ.bump) := by
 obtain ⟨cs, g, hc⟩ := h
 rw [s_call (af := Tab.b62) rfl (Nat.le_of_ble_eq_true rfl)]
 generalize callY Tab.tb k = cy
 by_cases hf : 0 ≤ f ∧ f < 32
 · obtain ⟨i, rfl⟩ := Int.eq_ofNat_of_zero_le hf.1
   have hi : i < 32 := by omega
   obtain ⟨v, hv⟩ := hc.f i hi
   have e1 : M.file (i : Int) = M.f i := file_in M hi
   have c1 : decide ((i : Int) < 0) = false := by simp only [decide_eq_false_iff_not]; omega
   have c2 : decide ((i : Int) ≥ 32) = false := by simp only [decide_eq_false_iff_not]; omega
   have ha := arr_ok (o := d) (off := 0) (len := 32) (sz := 5) hi
   have l1 : (i * 5 + 5 ≤ cs.length) = True := by simp only [eq_iff_iff, iff_true]; exact hv.len
   have t1 := hv.take
   have c3 := hv.c3
   refine ⟨v, by rw [e1]; exact hv.rv, ?_⟩
   have hcell := hv.rv.cell
   rw [e1]
   simp -implicitDefEqProofs (disch := first | exact nbf rfl | exact nbt rfl | (simp only [zN.down, reduceCtorEq] <;> omega) | omega) only [Tab.b62, pnil, c1, c2, ha, g, l1, t1, c3, fcell, hcell.1, hcell.2, XOp.kind, AOp.kind, zP.down, zQ.down, zR.down, zS.down, simprocAttr]
 · have e1 : M.file f = F0 := by unfold DM.file; rw [if_neg hf]
   refine ⟨.sc .nilS, by rw [e1]; exact .nil, ?_⟩
   rw [e1]
   by_cases h0 : f < 0
   · have c1 : decide (f < 0) = true := by simpa using h0
     simp -implicitDefEqProofs (disch := first | exact nbf rfl | exact nbt rfl | (simp only [zN.down, reduceCtorEq] <;> omega) | omega) only [Tab.b62, pnil, c1, fcell, XOp.kind, aArrAddr, AOp.kind, zP.down, zQ.down, zR.down, zS.down, simprocAttr]
     rfl
   · have c1 : decide (f < 0) = false := by simpa using h0
     have c2 : decide (f ≥ 32) = true := by simp only [decide_eq_true_eq]; omega
     simp -implicitDefEqProofs (disch := first | exact nbf rfl | exact nbt rfl | (simp only [zN.down, reduceCtorEq] <;> omega) | omega) only [Tab.b62, pnil, c1, c2, fcell, XOp.kind, aArrAddr, AOp.kind, zP.down, zQ.down, zR.down, zS.down, simprocAttr]
     rfl
theorem DC.step {cs : List V} {M : DM} (h : DC cs M) (p o : Int) : DC ((cs.set 160 (.sc (.int .i64 p))).set 161 (.sc (.int .i64 o))) { M with power := p, ops := o } := by
 have hl := h.len
 refine ⟨by simp [hl], ?_, ?_, fun i hi => ?_⟩
 · rw [List.getElem?_set_ne (by omega), set_self (by omega)]
 · rw [set_self (by simp; omega)]
 · obtain ⟨v, hv⟩ := h.f i hi
   have key : ∀ j, j < 160 → ((cs.set 160 (.sc (.int .i64 p))).set 161 (.sc (.int .i64 o)))[j]? = cs[j]? := fun j hj => by
    rw [List.getElem?_set_ne (by omega), List.getElem?_set_ne (by omega)]
   exact ⟨v, hv.rv, by rw [key _ (by omega)]; exact hv.c0, by rw [key _ (by omega)]; exact hv.c1, by rw [key _ (by omega)]; exact hv.c2, by rw [key _ (by omega)]; exact hv.c3, by rw [key _ (by omega)]; exact hv.c4⟩
theorem set_same {cs : List V} {k : Nat} {x : V} (h : cs[k]? = some x) : cs.set k x = cs := by
 refine List.ext_getElem? fun i => ?_
 by_cases hk : i = k
 · subst hk; rw [set_self (List.getElem?_eq_some_iff.1 h).1, h]
 · rw [List.getElem?_set_ne (fun hq => hk hq.symm)]
theorem DC.ops {cs : List V} {M : DM} (h : DC cs M) (o : Int) : DC (cs.set 161 (.sc (.int .i64 o))) { M with ops := o } := by
 have := h.step M.power o
 rwa [set_same h.p] at this
theorem DC.power {cs : List V} {M : DM} (h : DC cs M) (p : Int) : DC (cs.set 160 (.sc (.int .i64 p))) { M with power := p } := by
 have := h.step p M.ops
 rwa [set_same (by rw [List.getElem?_set_ne (by omega)]; exact h.o)] at this
theorem step_ok (k : Nat) (ys : YlF) (σ : St) (d : Nat) (M : DM) (f e : Int) (h : DR σ d M) {B : Nat} (hm : M.Ok B) (hB : B ≤ 1000000) :
  W (callY Tab.tb (k + 1) ys 70 [.ptr d 0, .sc (.int .i64 f), .sc (.int .i64 e)] σ) fun r => r.1 = .sc (.int .i64 (M.step f e).2) ∧ DR r.2 d (M.step f e).1 ∧ Kept (· = d) σ r.2 ∧ r.2.n = σ.n := by
 obtain ⟨cs, g, hc⟩ := h
 rw [s_call (af := Tab.b70) rfl (Nat.le_of_ble_eq_true rfl)]
 generalize callY Tab.tb k = cy
 have hp := hc.p
 have ho := hc.o
 have hl := hc.len
 have hd := St.get_lt g
 unfold DM.step
 by_cases h0 : M.power = 0
 · have c1 : (M.power == 0) = true := by simpa using h0
   simp -implicitDefEqProofs (disch := first | exact nbf rfl | exact nbt rfl | (simp only [zN.down, reduceCtorEq] <;> omega) | omega) only [Tab.b70, pnil, g, hp, c1, h0, XOp.kind, aArrAddr, AOp.kind, zP.down, zQ.down, zR.down, zS.down, simprocAttr]
   exact ⟨⟨cs, g, hc⟩, Kept.refl _ _⟩
 have c1 : (M.power == 0) = false := by simpa using h0
 by_cases h1 : f < 0
 · have c2 : decide (f < 0) = true := by simpa using h1
   simp -implicitDefEqProofs (disch := first | exact nbf rfl | exact nbt rfl | (simp only [zN.down, reduceCtorEq] <;> omega) | omega) only [Tab.b70, pnil, g, hp, c1, h0, c2, h1, true_or, XOp.kind, aArrAddr, AOp.kind, zP.down, zQ.down, zR.down, zS.down, simprocAttr]
   exact ⟨⟨cs, g, hc⟩, Kept.refl _ _⟩
 have c2 : decide (f < 0) = false := by simpa using h1
 by_cases h2 : 32 ≤ f
 · have c3 : decide (f ≥ 32) = true := by simpa using h2
   simp -implicitDefEqProofs (disch := first | exact nbf rfl | exact nbt rfl | (simp only [zN.down, reduceCtorEq] <;> omega) | omega) only [Tab.b70, pnil, g, hp, c1, h0, c2, c3, h1, h2, or_true, XOp.kind, aArrAddr, AOp.kind, zP.down, zQ.down, zR.down, zS.down, simprocAttr]
   exact ⟨⟨cs, g, hc⟩, Kept.refl _ _⟩
 have c3 : decide (f ≥ 32) = false := by simpa using h2
 by_cases h3 : e = 0
 · subst h3
   have o0 := hm.o0
   have o1 := hm.o1
   have p1 := hm.p1
   have l0 : (160 + 1 ≤ cs.length) = True := by simp only [eq_iff_iff, iff_true]; omega
   have l1 : (161 + 1 ≤ cs.length) = True := by simp only [eq_iff_iff, iff_true]; omega
   have l2 : 160 < cs.length := by omega
   have l3 : 161 < cs.length := by omega
   have w1 : IntKind.i64.wrap (M.ops + 1) = M.ops + 1 := wrap64 (by omega) (by omega)
   by_cases h4 : 0 < M.power
   · have c4 : decide (M.power > 0) = true := by simpa using h4
     have w2 : IntKind.i64.wrap (M.power - 1) = M.power - 1 := wrap64 (by omega) (by omega)
     have ho' : (cs.set 160 (.sc (.int .i64 (M.power - 1))))[161]? = some (.sc (.int .i64 M.ops)) := by rw [List.getElem?_set_ne (by omega)]; exact ho
     simp -implicitDefEqProofs (disch := first | exact nbf rfl | exact nbt rfl | (simp only [zN.down, reduceCtorEq] <;> omega) | omega) only [Tab.b70, pnil, g, hp, ho, ho', c1, h0, c2, c3, c4, h1, h2, h4, or_self, l0, l1, w1, w2, XOp.kind, aArrAddr, AOp.kind, zP.down, zQ.down, zR.down, zS.down, simprocAttr]
     exact ⟨⟨_, get_put_self (get_put_self g), hc.step _ _⟩, ((Kept.refl (· = d) σ).put (.inl rfl) hd _).put (.inl rfl) hd _⟩
   · have c4 : decide (M.power > 0) = false := by simpa using h4
     simp -implicitDefEqProofs (disch := first | exact nbf rfl | exact nbt rfl | (simp only [zN.down, reduceCtorEq] <;> omega) | omega) only [Tab.b70, pnil, g, hp, ho, c1, h0, c2, c3, c4, h1, h2, h4, or_self, l0, l1, w1, XOp.kind, aArrAddr, AOp.kind, zP.down, zQ.down, zR.down, zS.down, simprocAttr]
     exact ⟨⟨_, get_put_self g, hc.ops _⟩, (Kept.refl (· = d) σ).put (.inl rfl) hd _⟩
 · have c4 : (e != 0) = true := by simpa using h3
   simp -implicitDefEqProofs (disch := first | exact nbf rfl | exact nbt rfl | (simp only [zN.down, reduceCtorEq] <;> omega) | omega) only [Tab.b70, pnil, g, hp, c1, h0, c2, c3, c4, h1, h2, h3, or_self, XOp.kind, aArrAddr, AOp.kind, zP.down, zQ.down, zR.down, zS.down, simprocAttr]
   exact ⟨⟨cs, g, hc⟩, Kept.refl _ _⟩
end Go.Proofs.YtehdjkikcfeiaaaGreat.dk
namespace Go.Proofs.YtehdjkikcfeiaaaGreat.dk
open Go.Ab
set_option maxRecDepth 100000
set_option maxHeartbeats 8000000
set_option linter.unusedSimpArgs false
set_option linter.unusedVariables false
theorem bsl0 : aBslice 3 0 [.sc (.int .i64 0), .str [], .sc (.int .i64 0)] [] = some (.vs .exact 3 0 []) := rfl
theorem bsl1 (a b c : V) : aBslice 3 1 [.sc (.int .i64 0), .str [], .sc (.int .i64 0)] [(0, 3, .agg [a, b, c])] = some (.vs .exact 3 1 [a, b, c]) := rfl
theorem clone_ok (k : Nat) (ys : YlF) (σ : St) (v : V) (es : List (List V)) (h : RV 3 v es) {lo : Nat} (hlo : lo ≤ σ.n) (hl : es.length ≤ 2000000) :
  W (callY Tab.tb (k + 1) ys 59 [v] σ) fun r => Ow lo r.2 3 r.1 es ∧ Grown lo σ r.2 := by
 rw [s_call (af := Tab.b59) rfl (Nat.le_of_ble_eq_true rfl)]
 generalize callY Tab.tb k = cy
 obtain ⟨b, hb, hbe⟩ := slnil σ h
 cases b with
 | true =>
  have := hbe rfl
  subst this
  simp -implicitDefEqProofs (disch := first | exact nbf rfl | exact nbt rfl | (simp only [zN.down, reduceCtorEq] <;> omega) | omega) only [Tab.b59, hb, XOp.kind, aArrAddr, AOp.kind, zP.down, zQ.down, zR.down, zS.down, simprocAttr]
  exact ⟨.nil, Grown.refl _ _⟩
 | false =>
  simp -implicitDefEqProofs (disch := first | exact nbf rfl | exact nbt rfl | (simp only [zN.down, reduceCtorEq] <;> omega) | omega) only [Tab.b59, hb, bsl0, XOp.kind, aArrAddr, AOp.kind, zP.down, zQ.down, zR.down, zS.down, simprocAttr]
  repeat first | apply w_fin | apply w_seq | apply w_block | apply w_reg | apply w_op | apply w_dop
  refine (grow_ok (lo := lo) (es := []) (ms := es) (.exact (by simp) (by simp)) h hlo (by unfold roomB; simp; omega) (by unfold roomB; simp; omega)).mono ?_
  rintro ⟨w, σ2⟩ ⟨h1, h2⟩
  simp -implicitDefEqProofs (disch := first | exact nbf rfl | exact nbt rfl | (simp only [zN.down, reduceCtorEq] <;> omega) | omega) only [XOp.kind, AOp.kind, zU.down, simprocAttr]
  exact ⟨by simpa using h1, h2⟩
structure FN (cs : List V) (off : Nat) (x : S2) (l : List Ch) (v : V) : Prop where
 len : off + 5 ≤ cs.length
 rv : RV 3 v (l.map chc)
 c1 : cs[off + 1]? = some (.str x.s)
 c3 : cs[off + 3]? = some (.sc (.bool x.there))
 c4 : cs[off + 4]? = some v
theorem FN.change {cs : List V} {off : Nat} {x : S2} {l : List Ch} {v : V} (h : FN cs off x l v) (c : Ch) {v' : V} (hv : RV 3 v' ((l ++ [c]).map chc)) {a b : V} (ha : a = .str (done x c).s) (hb : b = .sc (.bool (done x c).there)) :
  FN (((cs.set (off + 1) a).set (off + 3) b).set (off + 4) v') off (done x c) (l ++ [c]) v' := by
 have hl := h.len
 refine ⟨by simpa using hl, hv, ?_, ?_, ?_⟩
 · rw [List.getElem?_set_ne (by omega), List.getElem?_set_ne (by omega), set_self (by omega), ha]
 · rw [List.getElem?_set_ne (by omega), set_self (by simp; omega), hb]
 · rw [set_self (by simp; omega)]
theorem FC.fn {cs : List V} {off : Nat} {F : FM} {v : V} (h : FC cs off F v) : FN cs off F.seen F.loose v := ⟨h.len, h.rv, h.c1, h.c3, h.c4⟩
theorem does_ok (k : Nat) (ys : YlF) (σ : St) (o off : Nat) (cs : List V) (x : S2) (l : List Ch) (v : V) (c : Ch) (g : σ.get o = some (.cells cs)) (h : FN cs off x l v) (hc : Okc x c) (hsl : x.s.length ≤ 1048576) (hl : l.length ≤ 1000000) :
  W (callY Tab.tb (k + 2) ys 38 [.ptr o off, .agg (chc c)] σ) fun r => r.1 = .tup [] ∧ ∃ cs' v', r.2.get o = some (.cells cs') ∧ cs'.length = cs.length ∧ FN cs' off (done x c) (l ++ [c]) v' ∧ (∀ j, j ≠ off + 1 → j ≠ off + 3 → j ≠ off + 4 → cs'[j]? = cs[j]?) ∧ Kept (· = o) σ r.2 := by
 rw [s_call (af := Tab.b38) rfl (Nat.le_of_ble_eq_true rfl)]
 have hd := St.get_lt g
 have gb : σ.bump.get o = some (.cells cs) := by rw [St.get_bump]; exact g
 have hdb := St.get_lt gb
 have hle := h.len
 have l1 : (off + 1 + 1 ≤ cs.length) = True := by simp only [eq_iff_iff, iff_true]; omega
 have l3 : (off + 3 + 1 ≤ cs.length) = True := by simp only [eq_iff_iff, iff_true]; omega
 have l4 : (off + 4 + 1 ≤ cs.length) = True := by simp only [eq_iff_iff, iff_true]; omega
 have hcl := fun σ' => clone_ok (lo := σ.n) k ys σ' v _ h.rv
 generalize callY Tab.tb (k + 1) = cy at hcl ⊢
 -- the last step
 have fin : ∀ (a b : V) σ', a = .str (done x c).s → b = .sc (.bool (done x c).there) → σ.n ≤ σ'.n → Kept (· = o) σ σ' → σ'.get o = some (.cells ((cs.set (off + 1) a).set (off + 3) b)) →
   W (cy ys 59 [v] σ') fun r => ∃ w σ2, r = (w, σ2) ∧ σ2.get o = some (.cells ((cs.set (off + 1) a).set (off + 3) b)) ∧ W (aAppend false 3 32 σ2 w (.vs .exact 3 1 (chc c))) fun s => ∃ v' σ3, s = (v', σ3) ∧ Cell1 v' ∧ σ3.get o = some (.cells ((cs.set (off + 1) a).set (off + 3) b)) ∧ ∀ cs', cs' = (((cs.set (off + 1) a).set (off + 3) b).set (off + 4) v') → ∃ cs2 v2, (σ3.put o (some (.cells cs'))).get o = some (.cells cs2) ∧ cs2.length = cs.length ∧ FN cs2 off (done x c) (l ++ [c]) v2 ∧ (∀ j, j ≠ off + 1 → j ≠ off + 3 → j ≠ off + 4 → cs2[j]? = cs[j]?) ∧ Kept (· = o) σ (σ3.put o (some (.cells cs'))) := by
  intro a b σ' ha hb hn hk hg
  refine (hcl σ' (by omega) (by simp; omega)).mono ?_
  rintro ⟨w, σ2⟩ ⟨h1, h2⟩
  refine ⟨w, σ2, rfl, h2.cells hg, ?_⟩
  have hrv : RV 3 (.vs .exact 3 1 (chc c)) [chc c] := RV.vs (own := .exact) (es := [chc c]) (by simp [chc]) (by simp [chc, V.oneCell])
  refine (grow_ok h1 hrv (by show σ.n ≤ σ2.n; have h := h2.n; dsimp only at h; omega) (by unfold roomB; simp; omega) (by unfold roomB; simp; omega)).mono ?_
  rintro ⟨v', σ3⟩ ⟨h3, h4⟩
  have hv' : RV 3 v' ((l ++ [c]).map chc) := by have := h3.rv; simpa using this
  have g2 := h2.cells hg
  have g3 := h4.cells g2
  refine ⟨v', σ3, rfl, hv'.cell, g3, fun cs' hcs => ?_⟩
  subst hcs
  have hd3 := St.get_lt g3
  refine ⟨_, v', get_put_self g3, by simp, h.change c hv' ha hb, fun j q1 q2 q3 => ?_, ?_⟩
  · rw [List.getElem?_set_ne (by omega), List.getElem?_set_ne (by omega), List.getElem?_set_ne (by omega)]
  · refine Kept.put (X := (· = o)) ?_ (.inl rfl) hd3 _
    exact h4.keptX (h2.keptX hk (Nat.le_refl _)) (Nat.le_refl _)
 have h1' := h.c1
 have h3' := h.c3
 have h4' := h.c4
 rcases hc with ⟨hc, hc2⟩ | ⟨hc, ht, hn0, hn1⟩ | hc
 · have e1 : (c.k == 1) = true := by simpa using hc
   have s1 : done x c = ⟨true, x.s ++ c.s⟩ := by unfold done; rw [if_pos hc]
   rw [s1] at fin
   have f1 : ((cs.set (off + 1) (.str (x.s ++ c.s))).set (off + 3) (.sc (.bool true)))[off + 4]? = some v := by
    rw [List.getElem?_set_ne (by omega), List.getElem?_set_ne (by omega)]; exact h4'
   have f2 := fin _ _ ((σ.bump.put o (some (.cells (cs.set (off + 1) (.str (x.s ++ c.s)))))).put o (some (.cells ((cs.set (off + 1) (.str (x.s ++ c.s))).set (off + 3) (.sc (.bool true)))))) rfl rfl (Nat.le_succ _) (((Kept.refl (· = o) σ).bump.put (.inl rfl) hdb _).put (.inl rfl) hdb _) (get_put_self (get_put_self gb))
   have sa : aStr .add x.s c.s = some (.str (x.s ++ c.s)) := by simp only [aStr]; rw [if_neg (by omega)]
   simp only [chc] at f2
   simp -implicitDefEqProofs (disch := first | exact nbf rfl | exact nbt rfl | (simp only [zN.down, reduceCtorEq] <;> omega) | omega) only [Tab.b38, chc, e1, sa, g, h1', h4', f1, l1, l3, l4, aBin, XOp.kind, AOp.kind, zU.down, simprocAttr]
   repeat first | apply w_fin | apply w_seq | apply w_block | apply w_reg | apply w_op | apply w_dop
   refine f2.mono ?_
   rintro _ ⟨w, σ2, rfl, g2, hw⟩
   simp -implicitDefEqProofs (disch := first | exact nbf rfl | exact nbt rfl | (simp only [zN.down, reduceCtorEq] <;> omega) | omega) only [bsl1, XOp.kind, AOp.kind, zU.down, simprocAttr]
   repeat first | apply w_fin | apply w_seq | apply w_block | apply w_reg | apply w_op | apply w_dop
   refine hw.mono ?_
   rintro _ ⟨v', σ3, rfl, ⟨k1, k2⟩, g3, hfin⟩
   simp -implicitDefEqProofs (disch := first | exact nbf rfl | exact nbt rfl | (simp only [zN.down, reduceCtorEq] <;> omega) | omega) only [g3, l4, k1, k2, XOp.kind, AOp.kind, zU.down, simprocAttr]
   rw [s1]
   exact hfin _ rfl
 · have e1 : (c.k == 1) = false := by simp; omega
   have e2 : (c.k == 2) = true := by simpa using hc
   have s1 : done x c = ⟨true, x.s.take c.n.toNat⟩ := by unfold done; rw [if_neg (by omega), if_pos hc]
   rw [s1] at fin
   have q1 : (0 ≤ c.n ∧ c.n ≤ (x.s.length : Int)) = True := by simp; omega
   have f0 : (cs.set (off + 1) (.str (x.s.take c.n.toNat))).set (off + 3) (.sc (.bool true)) = cs.set (off + 1) (.str (x.s.take c.n.toNat)) := set_same (by rw [List.getElem?_set_ne (by omega), h3', ht])
   have f1 : (cs.set (off + 1) (.str (x.s.take c.n.toNat)))[off + 4]? = some v := by rw [List.getElem?_set_ne (by omega)]; exact h4'
   have f2 := fin (.str (x.s.take c.n.toNat)) (.sc (.bool true)) (σ.bump.put o (some (.cells (cs.set (off + 1) (.str (x.s.take c.n.toNat)))))) rfl rfl (Nat.le_succ _) ((Kept.refl (· = o) σ).bump.put (.inl rfl) hdb _) (by rw [f0]; exact get_put_self gb)
   rw [f0] at f2
   simp only [chc] at f2
   have sl : aSlice (.str x.s) none (some (.sc (.int .i64 c.n))) none = some (.str (x.s.take c.n.toNat)) := by simp [aSlice, aBounds, aBnd, hn0, hn1]
   simp -implicitDefEqProofs (disch := first | exact nbf rfl | exact nbt rfl | (simp only [zN.down, reduceCtorEq] <;> omega) | omega) only [Tab.b38, chc, e1, e2, g, h1', h4', f1, l1, l3, l4, aBin, sl, XOp.kind, AOp.kind, zU.down, simprocAttr]
   repeat first | apply w_fin | apply w_seq | apply w_block | apply w_reg | apply w_op | apply w_dop
   refine f2.mono ?_
   rintro _ ⟨w, σ2, rfl, g2, hw⟩
   simp -implicitDefEqProofs (disch := first | exact nbf rfl | exact nbt rfl | (simp only [zN.down, reduceCtorEq] <;> omega) | omega) only [bsl1, XOp.kind, AOp.kind, zU.down, simprocAttr]
   repeat first | apply w_fin | apply w_seq | apply w_block | apply w_reg | apply w_op | apply w_dop
   refine hw.mono ?_
   rintro _ ⟨v', σ3, rfl, ⟨k1, k2⟩, g3, hfin⟩
   simp -implicitDefEqProofs (disch := first | exact nbf rfl | exact nbt rfl | (simp only [zN.down, reduceCtorEq] <;> omega) | omega) only [g3, l4, k1, k2, XOp.kind, AOp.kind, zU.down, simprocAttr]
   rw [s1]
   exact hfin _ rfl
 · have e1 : (c.k == 1) = false := by simp; omega
   have e2 : (c.k == 2) = false := by simp; omega
   have e3 : (c.k == 3) = true := by simpa using hc
   have s1 : done x c = ⟨false, []⟩ := by unfold done; rw [if_neg (by omega), if_neg (by omega)]
   rw [s1] at fin
   have f1 : ((cs.set (off + 1) (.str [])).set (off + 3) (.sc (.bool false)))[off + 4]? = some v := by
    rw [List.getElem?_set_ne (by omega), List.getElem?_set_ne (by omega)]; exact h4'
   have f2 := fin _ _ ((σ.bump.put o (some (.cells (cs.set (off + 1) (.str []))))).put o (some (.cells ((cs.set (off + 1) (.str [])).set (off + 3) (.sc (.bool false)))))) rfl rfl (Nat.le_succ _) (((Kept.refl (· = o) σ).bump.put (.inl rfl) hdb _).put (.inl rfl) hdb _) (get_put_self (get_put_self gb))
   simp only [chc] at f2
   simp -implicitDefEqProofs (disch := first | exact nbf rfl | exact nbt rfl | (simp only [zN.down, reduceCtorEq] <;> omega) | omega) only [Tab.b38, chc, e1, e2, e3, g, h1', h4', f1, l1, l3, l4, aBin, XOp.kind, AOp.kind, zU.down, simprocAttr]
   repeat first | apply w_fin | apply w_seq | apply w_block | apply w_reg | apply w_op | apply w_dop
   refine f2.mono ?_
   rintro _ ⟨w, σ2, rfl, g2, hw⟩
   simp -implicitDefEqProofs (disch := first | exact nbf rfl | exact nbt rfl | (simp only [zN.down, reduceCtorEq] <;> omega) | omega) only [bsl1, XOp.kind, AOp.kind, zU.down, simprocAttr]
   repeat first | apply w_fin | apply w_seq | apply w_block | apply w_reg | apply w_op | apply w_dop
   refine hw.mono ?_
   rintro _ ⟨v', σ3, rfl, ⟨k1, k2⟩, g3, hfin⟩
   simp -implicitDefEqProofs (disch := first | exact nbf rfl | exact nbt rfl | (simp only [zN.down, reduceCtorEq] <;> omega) | omega) only [g3, l4, k1, k2, XOp.kind, AOp.kind, zU.down, simprocAttr]
   rw [s1]
   exact hfin _ rfl
end Go.Proofs.YtehdjkikcfeiaaaGreat.dk
namespace Go.Proofs.YtehdjkikcfeiaaaGreat.dk
open Go.Ab
set_option maxRecDepth 100000
set_option maxHeartbeats 8000000
set_option linter.unusedSimpArgs false
set_option linter.unusedVariables false
theorem DC.upd {cs cs' : List V} {M : DM} (h : DC cs M) {i : Nat} (hi : i < 32) {F : FM} {v : V} (hl : cs'.length = cs.length) (hf : FC cs' (i * 5) F v) (ho : ∀ j, j < i * 5 ∨ i * 5 + 5 ≤ j → cs'[j]? = cs[j]?) : DC cs' (M.upd i F) := by
 refine ⟨hl.trans h.len, (ho _ (by omega)).trans h.p, (ho _ (by omega)).trans h.o, fun j hj => ?_⟩
 simp only [DM.upd, Int.toNat_natCast]
 by_cases he : j = i
 · subst he; rw [if_pos rfl]; exact ⟨v, hf⟩
 · rw [if_neg he]
   obtain ⟨w, hw⟩ := h.f j hj
   exact ⟨w, hw.rv, (ho _ (by omega)).trans hw.c0, (ho _ (by omega)).trans hw.c1, (ho _ (by omega)).trans hw.c2, (ho _ (by omega)).trans hw.c3, (ho _ (by omega)).trans hw.c4⟩
theorem doesd_ok (k : Nat) (ys : YlF) (σ : St) (d : Nat) (M : DM) (i : Nat) (c : Ch) (h : DR σ d M) (hi : i < 32) (hc : Okc (M.f i).seen c) (hF : (M.f i).Ok) (hl : (M.f i).loose.length ≤ 1000000) :
  W (callY Tab.tb (k + 2) ys 38 [.ptr d (i * 5), .agg (chc c)] σ) fun r => r.1 = .tup [] ∧ DR r.2 d (M.upd i ((M.f i).add c)) ∧ Kept (· = d) σ r.2 := by
 obtain ⟨cs, g, hd⟩ := h
 obtain ⟨v, hv⟩ := hd.f i hi
 refine (does_ok k ys σ d (i * 5) cs _ _ v c g hv.fn hc hF.seen hl).mono ?_
 rintro ⟨_, σ2⟩ ⟨rfl, cs', v', h1, h2, h3, h4, h5⟩
 have e : ((M.f i).add c).seen = done (M.f i).seen c := seenOf_append _ _ _
 refine ⟨rfl, ⟨cs', h1, hd.upd hi h2 (F := (M.f i).add c) ⟨h3.rv, (h4 _ (by omega) (by omega) (by omega)).trans hv.c0, by rw [e]; exact h3.c1, (h4 _ (by omega) (by omega) (by omega)).trans hv.c2, by rw [e]; exact h3.c3, h3.c4⟩ fun j hj => h4 j (by omega) (by omega) (by omega)⟩, h5⟩
theorem chg_ok (k : Nat) (ys : YlF) (σ σ' : St) (d : Nat) (M : DM) (f : Int) (c : Ch) (e : Int) (h : DR σ d M) {B : Nat} (hm : M.Ok B) (hB : B ≤ 1000000) (hc : c.k = 1 ∨ c.k = 2 ∨ c.k = 3) (hk : Kept noX σ σ') (he : e = M.may f c) :
  W (callY Tab.tb (k + 2) ys 70 [.ptr d 0, .sc (.int .i64 f), .sc (.int .i64 e)] σ') fun r => ∃ x, r.1 = .sc (.int .i64 x) ∧ ((x = 0 ∧ ∃ i : Nat, f = i ∧ i < 32 ∧ W (callY Tab.tb (k + 2) ys 38 [.ptr d (i * 5), .agg [.sc (.int .i64 c.k), .str c.s, .sc (.int .i64 c.n)]] r.2) fun q => q.1 = .tup [] ∧ (M.change f c).2 = 0 ∧ DR q.2 d (M.change f c).1 ∧ Kept (· = d) σ q.2) ∨ (x ≠ 0 ∧ x = (M.change f c).2 ∧ DR r.2 d (M.change f c).1 ∧ Kept (· = d) σ r.2)) := by
 subst he
 refine (step_ok (k + 1) ys σ' d M f _ (h.kept hk fun h => h) hm hB).mono ?_
 rintro ⟨_, σ2⟩ ⟨rfl, h1, h2, h3⟩
 have hk2 : Kept (· = d) σ σ2 := hk.any.trans h2
 refine ⟨_, rfl, ?_⟩
 unfold DM.change
 dsimp only
 by_cases hz : (M.step f (M.may f c)).2 = 0
 · left
   obtain ⟨_, f0, f1, f2⟩ := step_0 hz
   obtain ⟨i, rfl⟩ := Int.eq_ofNat_of_zero_le f0
   have hi : i < 32 := by omega
   refine ⟨hz, i, rfl, hi, ?_⟩
   have hfi : (M.step (i : Int) (M.may i c)).1.f i = M.f i := by rw [step_f]
   have hfm := hm.f i hi
   have hok := may_ok f0 f1 hc f2
   rw [Int.toNat_natCast] at hok
   refine (doesd_ok k ys σ2 d _ i c h1 hi (by rw [hfi]; exact hok) (by rw [hfi]; exact hfm.1) (by rw [hfi]; omega)).mono ?_
   rintro ⟨_, σ3⟩ ⟨rfl, h4, h5⟩
   rw [hfi] at h4
   rw [if_pos hz, Int.toNat_natCast]
   exact ⟨rfl, rfl, h4, hk2.trans h5⟩
 · right
   rw [if_neg hz]
   exact ⟨hz, rfl, h1, hk2⟩
theorem file_len {M : DM} {B : Nat} (hm : M.Ok B) (f : Int) : (M.see f).s.length ≤ 1048576 := by
 rw [← file_seen]
 unfold DM.file
 split
 · rename_i hf; exact (hm.f f.toNat (by omega)).1.seen
 · simp [F0, FM.seen, seenOf]
theorem append_ok (k : Nat) (ys : YlF) (σ : St) (d : Nat) (M : DM) (f : Int) (s : List UInt8) (h : DR σ d M) {B : Nat} (hm : M.Ok B) (hB : B ≤ 1000000) :
  W (callY Tab.tb (k + 3) ys 80 [.ptr d 0, .sc (.int .i64 f), .str s] σ) fun r => r.1 = .sc (.int .i64 (M.change f ⟨1, s, 0⟩).2) ∧ DR r.2 d (M.change f ⟨1, s, 0⟩).1 ∧ Kept (· = d) σ r.2 := by
 rw [s_call (af := Tab.b80) rfl (Nat.le_of_ble_eq_true rfl)]
 obtain ⟨v, hrv, hseen⟩ := seen_ok (k + 1) ys σ d M f h
 have hchg := fun e he => chg_ok k ys σ σ.bump.bump d M f ⟨1, s, 0⟩ e h hm hB (.inl rfl) (Kept.refl _ σ).bump.bump he
 generalize callY Tab.tb (k + 2) = cy at hseen hchg ⊢
 have hcell := hrv.cell
 have hsl := file_len hm f
 have w1 : IntKind.i64.wrap (1048576 - ((M.see f).s.length : Int)) = 1048576 - ((M.see f).s.length : Int) := wrap64 (by omega) (by omega)
 have hmay : M.may f ⟨1, s, 0⟩ = if 1048576 - ((M.see f).s.length : Int) < s.length then 8 else 0 := by unfold DM.may; rw [if_pos rfl]
 rw [hmay] at hchg
 dsimp only at hchg
 by_cases hf : 1048576 - ((M.see f).s.length : Int) < s.length
 · have c1 : decide ((s.length : Int) > 1048576 - ((M.see f).s.length : Int)) = true := by simpa using hf
   have f2 := hchg 8 (by rw [if_pos hf])
   simp -implicitDefEqProofs (disch := first | exact nbf rfl | exact nbt rfl | (simp only [zN.down, reduceCtorEq] <;> omega) | omega) only [Tab.b80, hseen, fcell, hcell.1, hcell.2, file_seen, w1, c1, XOp.kind, AOp.kind, zU.down, simprocAttr]
   repeat first | apply w_fin | apply w_seq | apply w_block | apply w_reg | apply w_op | apply w_dop
   refine f2.mono ?_
   rintro ⟨_, σ2⟩ ⟨x, rfl, ⟨rfl, i, rfl, hi, hw⟩ | ⟨c0, rfl, h2, h3⟩⟩
   · have ha := arr_ok (o := d) (off := 0) (len := 32) (sz := 5) hi
     simp -implicitDefEqProofs (disch := first | exact nbf rfl | exact nbt rfl | (simp only [zN.down, reduceCtorEq] <;> omega) | omega) only [ha, XOp.kind, aEqV, AOp.kind, zP.down, zQ.down, zR.down, zS.down, simprocAttr]
     repeat first | apply w_fin | apply w_seq | apply w_block | apply w_reg | apply w_op | apply w_dop
     refine hw.mono ?_
     rintro ⟨_, σ3⟩ ⟨rfl, h2, h3, h4⟩
     simp -implicitDefEqProofs (disch := first | exact nbf rfl | exact nbt rfl | (simp only [zN.down, reduceCtorEq] <;> omega) | omega) only [h2, XOp.kind, AOp.kind, zU.down, simprocAttr]
     exact ⟨h3, h4⟩
   · have c2 := beq_eq_false_iff_ne.2 c0
     simp -implicitDefEqProofs (disch := first | exact nbf rfl | exact nbt rfl | (simp only [zN.down, reduceCtorEq] <;> omega) | omega) only [c2, XOp.kind, AOp.kind, zU.down, simprocAttr]
     exact ⟨h2, h3⟩
 · have c1 : decide ((s.length : Int) > 1048576 - ((M.see f).s.length : Int)) = false := by simpa using hf
   have f2 := hchg 0 (by rw [if_neg hf])
   simp -implicitDefEqProofs (disch := first | exact nbf rfl | exact nbt rfl | (simp only [zN.down, reduceCtorEq] <;> omega) | omega) only [Tab.b80, hseen, fcell, hcell.1, hcell.2, file_seen, w1, c1, XOp.kind, AOp.kind, zU.down, simprocAttr]
   repeat first | apply w_fin | apply w_seq | apply w_block | apply w_reg | apply w_op | apply w_dop
   refine f2.mono ?_
   rintro ⟨_, σ2⟩ ⟨x, rfl, ⟨rfl, i, rfl, hi, hw⟩ | ⟨c0, rfl, h2, h3⟩⟩
   · have ha := arr_ok (o := d) (off := 0) (len := 32) (sz := 5) hi
     simp -implicitDefEqProofs (disch := first | exact nbf rfl | exact nbt rfl | (simp only [zN.down, reduceCtorEq] <;> omega) | omega) only [ha, XOp.kind, aEqV, AOp.kind, zP.down, zQ.down, zR.down, zS.down, simprocAttr]
     repeat first | apply w_fin | apply w_seq | apply w_block | apply w_reg | apply w_op | apply w_dop
     refine hw.mono ?_
     rintro ⟨_, σ3⟩ ⟨rfl, h2, h3, h4⟩
     simp -implicitDefEqProofs (disch := first | exact nbf rfl | exact nbt rfl | (simp only [zN.down, reduceCtorEq] <;> omega) | omega) only [h2, XOp.kind, AOp.kind, zU.down, simprocAttr]
     exact ⟨h3, h4⟩
   · have c2 := beq_eq_false_iff_ne.2 c0
     simp -implicitDefEqProofs (disch := first | exact nbf rfl | exact nbt rfl | (simp only [zN.down, reduceCtorEq] <;> omega) | omega) only [c2, XOp.kind, AOp.kind, zU.down, simprocAttr]
     exact ⟨h2, h3⟩
theorem cut_ok (k : Nat) (ys : YlF) (σ : St) (d : Nat) (M : DM) (f n : Int) (h : DR σ d M) {B : Nat} (hm : M.Ok B) (hB : B ≤ 1000000) :
  W (callY Tab.tb (k + 3) ys 45 [.ptr d 0, .sc (.int .i64 f), .sc (.int .i64 n)] σ) fun r => r.1 = .sc (.int .i64 (M.change f ⟨2, [], n⟩).2) ∧ DR r.2 d (M.change f ⟨2, [], n⟩).1 ∧ Kept (· = d) σ r.2 := by
 rw [s_call (af := Tab.b45) rfl (Nat.le_of_ble_eq_true rfl)]
 obtain ⟨v, hrv, hseen⟩ := seen_ok (k + 1) ys σ d M f h
 have hchg := fun e he => chg_ok k ys σ σ.bump.bump d M f ⟨2, [], n⟩ e h hm hB (.inr (.inl rfl)) (Kept.refl _ σ).bump.bump he
 generalize callY Tab.tb (k + 2) = cy at hseen hchg ⊢
 have hcell := hrv.cell
 have hmay : M.may f ⟨2, [], n⟩ = if (M.see f).there = false then 4 else if n < 0 ∨ ((M.see f).s.length : Int) < n then 5 else 0 := by
  unfold DM.may; rw [if_neg (by simp)]; simp
 rw [hmay] at hchg
 dsimp only at hchg
 cases ht : (M.see f).there with
 | false =>
  rw [ht] at hchg
  have f2 := hchg 4 (by rw [if_pos rfl])
  simp -implicitDefEqProofs (disch := first | exact nbf rfl | exact nbt rfl | (simp only [zN.down, reduceCtorEq] <;> omega) | omega) only [Tab.b45, hseen, fcell, hcell.1, hcell.2, file_seen, ht, XOp.kind, AOp.kind, zU.down, simprocAttr]
  repeat first | apply w_fin | apply w_seq | apply w_block | apply w_reg | apply w_op | apply w_dop
  refine f2.mono ?_
  rintro ⟨_, σ2⟩ ⟨x, rfl, ⟨rfl, i, rfl, hi, hw⟩ | ⟨c0, rfl, h2, h3⟩⟩
  · have ha := arr_ok (o := d) (off := 0) (len := 32) (sz := 5) hi
    simp -implicitDefEqProofs (disch := first | exact nbf rfl | exact nbt rfl | (simp only [zN.down, reduceCtorEq] <;> omega) | omega) only [ha, XOp.kind, aEqV, AOp.kind, zP.down, zQ.down, zR.down, zS.down, simprocAttr]
    repeat first | apply w_fin | apply w_seq | apply w_block | apply w_reg | apply w_op | apply w_dop
    refine hw.mono ?_
    rintro ⟨_, σ3⟩ ⟨rfl, h2, h3, h4⟩
    simp -implicitDefEqProofs (disch := first | exact nbf rfl | exact nbt rfl | (simp only [zN.down, reduceCtorEq] <;> omega) | omega) only [h2, XOp.kind, AOp.kind, zU.down, simprocAttr]
    exact ⟨h3, h4⟩
  · have c2 := beq_eq_false_iff_ne.2 c0
    simp -implicitDefEqProofs (disch := first | exact nbf rfl | exact nbt rfl | (simp only [zN.down, reduceCtorEq] <;> omega) | omega) only [c2, XOp.kind, AOp.kind, zU.down, simprocAttr]
    exact ⟨h2, h3⟩
 | true =>
  rw [ht] at hchg
  by_cases h0 : n < 0
  · have c1 : decide (n < 0) = true := by simpa using h0
    have f2 := hchg 5 (by rw [if_neg (by decide), if_pos (.inl h0)])
    simp -implicitDefEqProofs (disch := first | exact nbf rfl | exact nbt rfl | (simp only [zN.down, reduceCtorEq] <;> omega) | omega) only [Tab.b45, hseen, fcell, hcell.1, hcell.2, file_seen, ht, c1, XOp.kind, AOp.kind, zU.down, simprocAttr]
    repeat first | apply w_fin | apply w_seq | apply w_block | apply w_reg | apply w_op | apply w_dop
    refine f2.mono ?_
    rintro ⟨_, σ2⟩ ⟨x, rfl, ⟨rfl, i, rfl, hi, hw⟩ | ⟨c0, rfl, h2, h3⟩⟩
    · have ha := arr_ok (o := d) (off := 0) (len := 32) (sz := 5) hi
      simp -implicitDefEqProofs (disch := first | exact nbf rfl | exact nbt rfl | (simp only [zN.down, reduceCtorEq] <;> omega) | omega) only [ha, XOp.kind, aEqV, AOp.kind, zP.down, zQ.down, zR.down, zS.down, simprocAttr]
      repeat first | apply w_fin | apply w_seq | apply w_block | apply w_reg | apply w_op | apply w_dop
      refine hw.mono ?_
      rintro ⟨_, σ3⟩ ⟨rfl, h2, h3, h4⟩
      simp -implicitDefEqProofs (disch := first | exact nbf rfl | exact nbt rfl | (simp only [zN.down, reduceCtorEq] <;> omega) | omega) only [h2, XOp.kind, AOp.kind, zU.down, simprocAttr]
      exact ⟨h3, h4⟩
    · have c2 := beq_eq_false_iff_ne.2 c0
      simp -implicitDefEqProofs (disch := first | exact nbf rfl | exact nbt rfl | (simp only [zN.down, reduceCtorEq] <;> omega) | omega) only [c2, XOp.kind, AOp.kind, zU.down, simprocAttr]
      exact ⟨h2, h3⟩
  have c1 : decide (n < 0) = false := by simpa using h0
  by_cases h1 : ((M.see f).s.length : Int) < n
  · have c2 : decide (n > ((M.see f).s.length : Int)) = true := by simpa using h1
    have f2 := hchg 5 (by rw [if_neg (by decide), if_pos (.inr h1)])
    simp -implicitDefEqProofs (disch := first | exact nbf rfl | exact nbt rfl | (simp only [zN.down, reduceCtorEq] <;> omega) | omega) only [Tab.b45, hseen, fcell, hcell.1, hcell.2, file_seen, ht, c1, c2, XOp.kind, AOp.kind, zU.down, simprocAttr]
    repeat first | apply w_fin | apply w_seq | apply w_block | apply w_reg | apply w_op | apply w_dop
    refine f2.mono ?_
    rintro ⟨_, σ2⟩ ⟨x, rfl, ⟨rfl, i, rfl, hi, hw⟩ | ⟨c0, rfl, h2, h3⟩⟩
    · have ha := arr_ok (o := d) (off := 0) (len := 32) (sz := 5) hi
      simp -implicitDefEqProofs (disch := first | exact nbf rfl | exact nbt rfl | (simp only [zN.down, reduceCtorEq] <;> omega) | omega) only [ha, XOp.kind, aEqV, AOp.kind, zP.down, zQ.down, zR.down, zS.down, simprocAttr]
      repeat first | apply w_fin | apply w_seq | apply w_block | apply w_reg | apply w_op | apply w_dop
      refine hw.mono ?_
      rintro ⟨_, σ3⟩ ⟨rfl, h2, h3, h4⟩
      simp -implicitDefEqProofs (disch := first | exact nbf rfl | exact nbt rfl | (simp only [zN.down, reduceCtorEq] <;> omega) | omega) only [h2, XOp.kind, AOp.kind, zU.down, simprocAttr]
      exact ⟨h3, h4⟩
    · have c2 := beq_eq_false_iff_ne.2 c0
      simp -implicitDefEqProofs (disch := first | exact nbf rfl | exact nbt rfl | (simp only [zN.down, reduceCtorEq] <;> omega) | omega) only [c2, XOp.kind, AOp.kind, zU.down, simprocAttr]
      exact ⟨h2, h3⟩
  · have c2 : decide (n > ((M.see f).s.length : Int)) = false := by simpa using h1
    have f2 := hchg 0 (by rw [if_neg (by decide), if_neg (by omega)])
    simp -implicitDefEqProofs (disch := first | exact nbf rfl | exact nbt rfl | (simp only [zN.down, reduceCtorEq] <;> omega) | omega) only [Tab.b45, hseen, fcell, hcell.1, hcell.2, file_seen, ht, c1, c2, XOp.kind, AOp.kind, zU.down, simprocAttr]
    repeat first | apply w_fin | apply w_seq | apply w_block | apply w_reg | apply w_op | apply w_dop
    refine f2.mono ?_
    rintro ⟨_, σ2⟩ ⟨x, rfl, ⟨rfl, i, rfl, hi, hw⟩ | ⟨c0, rfl, h2, h3⟩⟩
    · have ha := arr_ok (o := d) (off := 0) (len := 32) (sz := 5) hi
      simp -implicitDefEqProofs (disch := first | exact nbf rfl | exact nbt rfl | (simp only [zN.down, reduceCtorEq] <;> omega) | omega) only [ha, XOp.kind, aEqV, AOp.kind, zP.down, zQ.down, zR.down, zS.down, simprocAttr]
      repeat first | apply w_fin | apply w_seq | apply w_block | apply w_reg | apply w_op | apply w_dop
      refine hw.mono ?_
      rintro ⟨_, σ3⟩ ⟨rfl, h2, h3, h4⟩
      simp -implicitDefEqProofs (disch := first | exact nbf rfl | exact nbt rfl | (simp only [zN.down, reduceCtorEq] <;> omega) | omega) only [h2, XOp.kind, AOp.kind, zU.down, simprocAttr]
      exact ⟨h3, h4⟩
    · have c2 := beq_eq_false_iff_ne.2 c0
      simp -implicitDefEqProofs (disch := first | exact nbf rfl | exact nbt rfl | (simp only [zN.down, reduceCtorEq] <;> omega) | omega) only [c2, XOp.kind, AOp.kind, zU.down, simprocAttr]
      exact ⟨h2, h3⟩
end Go.Proofs.YtehdjkikcfeiaaaGreat.dk
namespace Go.Proofs.YtehdjkikcfeiaaaGreat.dk
open Go.Ab
set_option maxRecDepth 100000
set_option maxHeartbeats 8000000
set_option linter.unusedSimpArgs false
set_option linter.unusedVariables false
theorem sync_ok (k : Nat) (ys : YlF) (σ : St) (d : Nat) (M : DM) (f : Int) (h : DR σ d M) {B : Nat} (hm : M.Ok B) (hB : B ≤ 1000000) :
  W (callY Tab.tb (k + 2) ys 46 [.ptr d 0, .sc (.int .i64 f)] σ) fun r => r.1 = .sc (.int .i64 (M.sync f).2) ∧ DR r.2 d (M.sync f).1 ∧ Kept (· = d) σ r.2 := by
 rw [s_call (af := Tab.b46) rfl (Nat.le_of_ble_eq_true rfl)]
 have hstep := step_ok k ys σ d M f 0 h hm hB
 generalize callY Tab.tb (k + 1) = cy at hstep ⊢
 simp -implicitDefEqProofs (disch := first | exact nbf rfl | exact nbt rfl | (simp only [zN.down, reduceCtorEq] <;> omega) | omega) only [Tab.b46, XOp.kind, AOp.kind, zU.down, simprocAttr]
 repeat first | apply w_fin | apply w_seq | apply w_block | apply w_reg | apply w_op | apply w_dop
 refine hstep.mono ?_
 rintro ⟨_, σ2⟩ ⟨rfl, h1, h2, h3⟩
 unfold DM.sync
 dsimp only at h1 h2 h3 ⊢
 by_cases hz : (M.step f 0).2 = 0
 · have c1 := beq_iff_eq.2 hz
   rw [if_pos hz]
   obtain ⟨_, f0, f1, _⟩ := step_0 hz
   obtain ⟨i, rfl⟩ := Int.eq_ofNat_of_zero_le f0
   have hi : i < 32 := by omega
   obtain ⟨cs, g, hc⟩ := h1
   obtain ⟨v, hv⟩ := hc.f i hi
   have hfi : (M.step (i : Int) 0).1.f i = M.f i := by rw [step_f]
   rw [hfi] at hv
   have hlen := hc.len
   have ha := arr_ok (o := d) (off := 0) (len := 32) (sz := 5) hi
   have hd := St.get_lt g
   have k1 := hv.c1
   have k3 := hv.c3
   have l0 : (i * 5 + 1 ≤ cs.length) = True := by simp only [eq_iff_iff, iff_true]; omega
   have l2 : (i * 5 + 2 + 1 ≤ cs.length) = True := by simp only [eq_iff_iff, iff_true]; omega
   have l4 : (i * 5 + 4 + 1 ≤ cs.length) = True := by simp only [eq_iff_iff, iff_true]; omega
   simp -implicitDefEqProofs (disch := first | exact nbf rfl | exact nbt rfl | (simp only [zN.down, reduceCtorEq] <;> omega) | omega) only [c1, ha, g, k1, k3, l0, l2, l4, hz, XOp.kind, aEqV, AOp.kind, zP.down, zQ.down, zR.down, zS.down, simprocAttr]
   refine ⟨⟨_, get_put_self (get_put_self (get_put_self g)), hc.upd hi (F := ⟨(M.f i).seen, []⟩) (v := .sc .nilS) (by simp) ?_ ?_⟩, ?_⟩
   · refine ⟨.nil, ?_, ?_, ?_, ?_, ?_⟩
     · rw [List.getElem?_set_ne (by omega), List.getElem?_set_ne (by omega), set_self (by omega)]
     · rw [List.getElem?_set_ne (by omega), List.getElem?_set_ne (by omega), List.getElem?_set_ne (by omega), k1]; rfl
     · rw [List.getElem?_set_ne (by omega), set_self (by simp; omega)]
     · rw [List.getElem?_set_ne (by omega), List.getElem?_set_ne (by omega), List.getElem?_set_ne (by omega), k3]; rfl
     · rw [set_self (by simp; omega)]
   · intro j hj
     rw [List.getElem?_set_ne (by omega), List.getElem?_set_ne (by omega), List.getElem?_set_ne (by omega)]
   · exact ((h2.put (.inl rfl) hd _).put (.inl rfl) hd _).put (.inl rfl) hd _
 · have c1 := beq_eq_false_iff_ne.2 hz
   rw [if_neg hz]
   simp -implicitDefEqProofs (disch := first | exact nbf rfl | exact nbt rfl | (simp only [zN.down, reduceCtorEq] <;> omega) | omega) only [c1, XOp.kind, AOp.kind, zU.down, simprocAttr]
   exact ⟨h1, h2⟩
theorem read_ok (k : Nat) (ys : YlF) (σ : St) (d : Nat) (M : DM) (f : Int) (h : DR σ d M) :
  callY Tab.tb (k + 2) ys 41 [.ptr d 0, .sc (.int .i64 f)] σ = some (.tup [.str (M.read f).1, .sc (.int .i64 (M.read f).2)], σ.bump.bump) := by
 rw [s_call (af := Tab.b41) rfl (Nat.le_of_ble_eq_true rfl)]
 obtain ⟨v, hrv, hseen⟩ := seen_ok k ys σ d M f h
 obtain ⟨cs, g, hc⟩ := h
 generalize callY Tab.tb (k + 1) = cy at hseen ⊢
 have hcell := hrv.cell
 have hp := hc.p
 unfold DM.read
 by_cases h0 : M.power = 0
 · have c1 := beq_iff_eq.2 h0
   simp -implicitDefEqProofs (disch := first | exact nbf rfl | exact nbt rfl | (simp only [zN.down, reduceCtorEq] <;> omega) | omega) only [Tab.b41, hseen, fcell, hcell.1, hcell.2, file_seen, pnil, g, hp, c1, h0, XOp.kind, aArrAddr, AOp.kind, zP.down, zQ.down, zR.down, zS.down, simprocAttr]
 have c1 := beq_eq_false_iff_ne.2 h0
 by_cases h1 : f < 0
 · have c2 : decide (f < 0) = true := by simpa using h1
   simp -implicitDefEqProofs (disch := first | exact nbf rfl | exact nbt rfl | (simp only [zN.down, reduceCtorEq] <;> omega) | omega) only [Tab.b41, hseen, fcell, hcell.1, hcell.2, file_seen, pnil, g, hp, c1, h0, c2, h1, true_or, XOp.kind, aArrAddr, AOp.kind, zP.down, zQ.down, zR.down, zS.down, simprocAttr]
 have c2 : decide (f < 0) = false := by simpa using h1
 by_cases h2 : 32 ≤ f
 · have c3 : decide (f ≥ 32) = true := by simpa using h2
   simp -implicitDefEqProofs (disch := first | exact nbf rfl | exact nbt rfl | (simp only [zN.down, reduceCtorEq] <;> omega) | omega) only [Tab.b41, hseen, fcell, hcell.1, hcell.2, file_seen, pnil, g, hp, c1, h0, c2, c3, h1, h2, or_true, XOp.kind, aArrAddr, AOp.kind, zP.down, zQ.down, zR.down, zS.down, simprocAttr]
 have c3 : decide (f ≥ 32) = false := by simpa using h2
 cases ht : (M.see f).there with
 | false => simp -implicitDefEqProofs (disch := first | exact nbf rfl | exact nbt rfl | (simp only [zN.down, reduceCtorEq] <;> omega) | omega) only [Tab.b41, hseen, fcell, hcell.1, hcell.2, file_seen, pnil, g, hp, c1, h0, c2, c3, h1, h2, or_self, ht, XOp.kind, aArrAddr, AOp.kind, zP.down, zQ.down, zR.down, zS.down, simprocAttr]
 | true => simp -implicitDefEqProofs (disch := first | exact nbf rfl | exact nbt rfl | (simp only [zN.down, reduceCtorEq] <;> omega) | omega) only [Tab.b41, hseen, fcell, hcell.1, hcell.2, file_seen, pnil, g, hp, c1, h0, c2, c3, h1, h2, or_self, ht, XOp.kind, aArrAddr, AOp.kind, zP.down, zQ.down, zR.down, zS.down, simprocAttr]
theorem ops_ok (k : Nat) (ys : YlF) (σ : St) (d : Nat) (M : DM) (h : DR σ d M) :
  callY Tab.tb (k + 1) ys 18 [.ptr d 0] σ = some (.sc (.int .i64 M.ops), σ) := by
 rw [s_call (af := Tab.b18) rfl (Nat.le_of_ble_eq_true rfl)]
 obtain ⟨cs, g, hc⟩ := h
 generalize callY Tab.tb k = cy
 have ho := hc.o
 simp -implicitDefEqProofs (disch := first | exact nbf rfl | exact nbt rfl | (simp only [zN.down, reduceCtorEq] <;> omega) | omega) only [Tab.b18, pnil, g, ho, XOp.kind, aArrAddr, AOp.kind, zP.down, zQ.down, zR.down, zS.down, simprocAttr]
theorem max64 (a b : Int) : aFold true (.sc (.int .i64 a)) [.sc (.int .i64 b)] = some (.sc (.int .i64 (max a b))) := by
 simp only [aFold, aMinMax, Option.bind_some]
 by_cases h : a < b
 · rw [show max a b = b by omega]; simp [h]; try omega
 · rw [show max a b = a by omega]; simp; omega
theorem min64 (a b : Int) : aFold false (.sc (.int .i64 a)) [.sc (.int .i64 b)] = some (.sc (.int .i64 (min a b))) := by
 simp only [aFold, aMinMax, Option.bind_some]
 by_cases h : b < a
 · rw [show min a b = b by omega]; simp [h]; try omega
 · rw [show min a b = a by omega]; simp; omega
theorem power_ok (k : Nat) (ys : YlF) (σ : St) (d : Nat) (M : DM) (n : Int) (h : DR σ d M) :
  W (callY Tab.tb (k + 1) ys 15 [.ptr d 0, .sc (.int .i64 n)] σ) fun r => r.1 = .sc (.int .i64 0) ∧ DR r.2 d { M with power := max n (-1) } ∧ Kept (· = d) σ r.2 ∧ r.2.n = σ.n := by
 rw [s_call (af := Tab.b15) rfl (Nat.le_of_ble_eq_true rfl)]
 obtain ⟨cs, g, hc⟩ := h
 generalize callY Tab.tb k = cy
 have hl := hc.len
 have l0 : (160 + 1 ≤ cs.length) = True := by simp only [eq_iff_iff, iff_true]; omega
 have hm := max64 n (-1)
 simp -implicitDefEqProofs (disch := first | exact nbf rfl | exact nbt rfl | (simp only [zN.down, reduceCtorEq] <;> omega) | omega) only [Tab.b15, pnil, g, l0, hm, XOp.kind, V.bool, V.i64, aUn, aBox, aLoad, aArrAddr, chkAdd, effAdd, AOp.kind, chkAll, chkSee, zP.down, zQ.down, zR.down, AOper.o, AOper.p, simprocAttr]
 exact ⟨⟨_, get_put_self g, hc.power _⟩, (Kept.refl (· = d) σ).put (.inl rfl) (St.get_lt g) _⟩
theorem sl_to {u : List UInt8} {n : Nat} (h : n ≤ u.length) : aSlice (.str u) none (some (.sc (.int .i64 (n : Int)))) none = some (.str (u.take n)) := by
 have h1 : (0 : Int) ≤ n ∧ (n : Int) ≤ u.length := by omega
 simp [aSlice, aBounds, aBnd, h1]
end Go.Proofs.YtehdjkikcfeiaaaGreat.dk
namespace Go.Proofs.YtehdjkikcfeiaaaGreat.dk
open Go.Ab
set_option maxRecDepth 100000
set_option maxHeartbeats 8000000
set_option linter.unusedSimpArgs false
set_option linter.unusedVariables false
def kc (k : Int) : List V := [.sc (.int .i64 k)]
theorem DC.file {cs : List V} {M : DM} (h : DC cs M) {i : Nat} (hi : i < 32) (F : FM) (hF : F.loose = []) (hs : F.sure = F.seen) :
  DC (splice cs (i * 5) [.str F.seen.s, .str F.seen.s, .sc (.bool F.seen.there), .sc (.bool F.seen.there), .sc .nilS]) (M.upd i F) := by
 have hl := h.len
 have key : ∀ j, j < 5 → (splice cs (i * 5) [.str F.seen.s, .str F.seen.s, .sc (.bool F.seen.there), .sc (.bool F.seen.there), .sc .nilS])[i * 5 + j]? = ([.str F.seen.s, .str F.seen.s, .sc (.bool F.seen.there), .sc (.bool F.seen.there), .sc .nilS] : List V)[j]? := by
  intro j hj
  rw [splice_at (by simp; omega), if_pos (by simp; omega)]
  congr 1; omega
 refine h.upd hi (splice_len (by simp; omega)) (v := .sc .nilS) ⟨by rw [hF]; exact .nil, ?_, ?_, ?_, ?_, ?_⟩ fun j hj => ?_
 · rw [hs]; exact key 0 (by omega)
 · exact key 1 (by omega)
 · rw [hs]; exact key 2 (by omega)
 · exact key 3 (by omega)
 · exact key 4 (by omega)
 · rw [splice_at (by simp; omega), if_neg (by simp; omega)]
def DM.part (M : DM) (keep : List Int) (torn : Int) (i : Nat) : DM := { M with f := fun j => if j < i then (M.f j).crash ((keep[j]?).getD 0) torn else M.f j }
theorem part_succ (M : DM) (keep : List Int) (torn : Int) (i : Nat) : (M.part keep torn i).upd i ((M.f i).crash ((keep[i]?).getD 0) torn) = M.part keep torn (i + 1) := by
 unfold DM.part DM.upd
 congr 1
 funext j
 simp only [Int.toNat_natCast]
 by_cases h : j = i
 · subst h; simp
 · rw [if_neg h]
   by_cases h2 : j < i
   · rw [if_pos h2, if_pos (by omega)]
   · rw [if_neg h2, if_neg (by omega)]
theorem crash_sure (F : FM) (k t : Int) : (F.crash k t).loose = [] ∧ (F.crash k t).sure = (F.crash k t).seen := by
 unfold FM.crash FM.crashN
 dsimp only
 repeat' split
 all_goals exact ⟨rfl, rfl⟩
theorem crash_ok (k : Nat) (ys : YlF) (σ : St) (d : Nat) (M : DM) (kv : V) (keep : List Int) (torn : Int) (h : DR σ d M) (hkv : RV 1 kv (keep.map kc)) {B : Nat} (hm : M.Ok B) (hB : B ≤ 1000000) (hk : 2000000 ≤ k) :
  W (callY Tab.tb (k + 3) ys 17 [.ptr d 0, kv, .sc (.int .i64 torn)] σ) fun r => r.1 = .sc (.int .i64 0) ∧ DR r.2 d (M.crash keep torn) ∧ Kept (· = d) σ r.2 := by
 rw [s_call (af := Tab.b17) rfl (Nat.le_of_ble_eq_true rfl)]
 have hdoes := fun σ o cs x l v c g h hc hsl hl => does_ok k ys σ o 0 cs x l v c g h hc hsl hl
 generalize callY Tab.tb (k + 2) = cy at hdoes ⊢
 have klen := hkv.len
 have ksize := hkv.size
 rw [List.length_map] at klen
 simp -implicitDefEqProofs (disch := first | exact nbf rfl | exact nbt rfl | (simp only [zN.down, reduceCtorEq] <;> omega) | omega) only [Tab.b17, pnil, XOp.kind, aArrAddr, AOp.kind, zP.down, zQ.down, zR.down, zS.down, simprocAttr]
 repeat first | apply w_fin | apply w_seq | apply w_block | apply w_reg | apply w_op | apply w_dop
 refine W.mono (Q := fun r => ∃ (ρ : Env) (σ' : St), r = (.exit 0, ρ, σ') ∧ ρ 0 = .ptr d 0 ∧ DR σ' d (M.part keep torn 32) ∧ Kept (· = d) σ σ') ?_ ?_
 · refine w_loop (fun m ρ σ' => ∃ i : Nat, m = 32 - i ∧ i ≤ 32 ∧ ρ 0 = .ptr d 0 ∧ ρ 1 = kv ∧ ρ 2 = .sc (.int .i64 torn) ∧ ρ 15 = .sc (.int .i64 i) ∧ DR σ' d (M.part keep torn i) ∧ Kept (· = d) σ σ') 32 (by omega) ?_ ?_
   · refine ⟨0, rfl, by omega, ?_, ?_, ?_, ?_, ?_, Kept.refl _ _⟩
     · simp -implicitDefEqProofs (disch := first | exact nbf rfl | exact nbt rfl | (simp only [zN.down, reduceCtorEq] <;> omega) | omega) only [XOp.kind, AOp.kind, zU.down, simprocAttr]
     · simp -implicitDefEqProofs (disch := first | exact nbf rfl | exact nbt rfl | (simp only [zN.down, reduceCtorEq] <;> omega) | omega) only [XOp.kind, AOp.kind, zU.down, simprocAttr]
     · simp -implicitDefEqProofs (disch := first | exact nbf rfl | exact nbt rfl | (simp only [zN.down, reduceCtorEq] <;> omega) | omega) only [XOp.kind, AOp.kind, zU.down, simprocAttr]
     · simp -implicitDefEqProofs (disch := first | exact nbf rfl | exact nbt rfl | (simp only [zN.down, reduceCtorEq] <;> omega) | omega) only [XOp.kind, AOp.kind, zU.down, simprocAttr]
     · have : M.part keep torn 0 = M := by unfold DM.part; simp
       rw [this]; exact h
   · rintro m ρ σ' ⟨i, hm', hi, e0, e1, e2, e15, hd, hkept⟩
     by_cases hl : i < 32
     · have c1 : decide ((i : Int) < 32) = true := by simp; omega
       obtain ⟨cs, g, hc⟩ := hd
       obtain ⟨v, hv⟩ := hc.f i hl
       have hfi : (M.part keep torn i).f i = M.f i := by unfold DM.part; simp
       rw [hfi] at hv
       have hfm := hm.f i hl
       have ha := arr_ok (o := d) (off := 0) (len := 32) (sz := 5) hl
       have hlen := hc.len
       have l1 : (i * 5 + 5 ≤ cs.length) = True := by simp only [eq_iff_iff, iff_true]; omega
       have t1 := hv.take
       have hcell := hv.rv.cell
       have vlen := hv.rv.len
       have vsize := hv.rv.size
       rw [List.length_map] at vlen
       have hdl := St.get_lt g
       -- how many are kept
       have hn : ∃ n : Nat, (min (max ((keep[i]?).getD 0) 0) ((M.f i).loose.length : Int)) = n ∧ n ≤ (M.f i).loose.length := ⟨(min (max ((keep[i]?).getD 0) 0) ((M.f i).loose.length : Int)).toNat, by omega, by omega⟩
       obtain ⟨n, hn, hnl⟩ := hn
       have hcr : (M.f i).crash ((keep[i]?).getD 0) torn = (M.f i).crashN n torn := by unfold FM.crash; rw [hn, Int.toNat_natCast]
       obtain ⟨w, hw1, hw2⟩ := hv.rv.take (i := n) (by simpa using hnl)
       have wlen := hw2.len
       have wsize := hw2.size
       have hwl : (List.take n ((M.f i).loose.map chc)).length = n := by simp; omega
       rw [hwl] at wlen
       -- the file's copy
       have gy : ((σ'.bump.push (.cells [.str [], .str [], .sc (.bool false), .sc (.bool false), .sc .nilS])).put σ'.bump.n (some (.cells [.str [], .str (M.f i).sure.s, .sc (.bool false), .sc (.bool (M.f i).sure.there), .sc .nilS]))).get σ'.bump.n = some (.cells [.str [], .str (M.f i).sure.s, .sc (.bool false), .sc (.bool (M.f i).sure.there), .sc .nilS]) := get_put_self get_push_self
       have gd : ((σ'.bump.push (.cells [.str [], .str [], .sc (.bool false), .sc (.bool false), .sc .nilS])).put σ'.bump.n (some (.cells [.str [], .str (M.f i).sure.s, .sc (.bool false), .sc (.bool (M.f i).sure.there), .sc .nilS]))).get d = some (.cells cs) := by
        rw [get_put_ne (by simp; omega) (by simp), get_push_ne (by simp; omega), St.get_bump]; exact g
       have kb : Kept (· = d) σ ((σ'.bump.push (.cells [.str [], .str [], .sc (.bool false), .sc (.bool false), .sc .nilS])).put σ'.bump.n (some (.cells [.str [], .str (M.f i).sure.s, .sc (.bool false), .sc (.bool (M.f i).sure.there), .sc .nilS]))) := ((hkept.bump.push _).put (.inr (by have := hkept.n; simp; omega)) (by simp) _)
       generalize hσa : σ'.bump = σa at gy gd kb
       have hna : σa.n = σ'.n + 1 := by subst hσa; rfl
       have hold : ∀ q x, σ.get q = some x → q < σa.n := fun q x hx => by have := St.get_lt hx; have := hkept.n; omega
       have hlt : d < σa.n := by omega
       generalize hσb : (σa.push (.cells [.str [], .str [], .sc (.bool false), .sc (.bool false), .sc .nilS])).put σa.n (some (.cells [.str [], .str (M.f i).sure.s, .sc (.bool false), .sc (.bool (M.f i).sure.there), .sc .nilS])) = σb at gy gd kb
       by_cases hki : i < keep.length
       · have c2 : decide ((i : Int) < (keep.length : Int)) = true := by simpa using hki
         obtain ⟨k1, _, _⟩ := hkv.at (i := i) (by simpa using hki)
         have k2 := hkv.cellAt (i := i) (j := 0) (by simpa using hki) (by omega)
         simp only [List.getElem_map, kc, List.getElem?_cons_zero, Nat.mul_one, Nat.add_zero] at k2 k1
         have hkg : (keep[i]?).getD 0 = keep[i] := by rw [List.getElem?_eq_getElem hki]; rfl
         have m1 := max64 keep[i] 0
         have m2 := min64 (max keep[i] 0) ((M.f i).loose.length : Int)
         rw [← hkg, hn] at m2
         rw [← hkg] at m1 k2
         simp -implicitDefEqProofs (disch := first | exact nbf rfl | exact nbt rfl | (simp only [zN.down, reduceCtorEq] <;> omega) | omega) only [c1, c2, e0, e1, e2, e15, klen, ksize, ha, g, l1, t1, fcell, hcell.1, hcell.2, vlen, vsize, k1, k2, m1, m2, hσa, hσb, hw1, wlen, XOp.kind, V.bool, V.i64, aUn, aBox, aLoad, aEqV, chkAdd, effAdd, AOp.kind, chkAll, chkSee, zP.down, zQ.down, zR.down, AOper.o, AOper.p, simprocAttr]
         repeat first | apply w_fin | apply w_seq | apply w_block | apply w_reg | apply w_op | apply w_dop
         refine W.mono (Q := fun r => ∃ (ρ3 : Env) (σ3 : St) (zs : List V) (u : V), r = ((.exit 2 : Ex), ρ3, σ3) ∧ ρ3 0 = .ptr d 0 ∧ ρ3 1 = kv ∧ ρ3 2 = .sc (.int .i64 torn) ∧ ρ3 7 = .sc (.int .i64 i) ∧ ρ3 8 = .agg (fcell (M.f i) v) ∧ ρ3 9 = .sc (.int .i64 n) ∧ ρ3 10 = .ptr σa.n 0 ∧ ρ3 15 = .sc (.int .i64 i) ∧ σ3.get d = some (.cells cs) ∧ σ3.get σa.n = some (.cells zs) ∧ zs.length = 5 ∧ FN zs 0 (seenOf (M.f i).sure ((M.f i).loose.take n)) ((M.f i).loose.take n) u ∧ Kept (· = d) σ σ3) ?_ ?_
         · refine w_loop (fun m ρ3 σ3 => ∃ (j : Nat) (zs : List V) (u : V), m = n - j ∧ j ≤ n ∧ ρ3 0 = .ptr d 0 ∧ ρ3 1 = kv ∧ ρ3 2 = .sc (.int .i64 torn) ∧ ρ3 7 = .sc (.int .i64 i) ∧ ρ3 8 = .agg (fcell (M.f i) v) ∧ ρ3 9 = .sc (.int .i64 n) ∧ ρ3 10 = .ptr σa.n 0 ∧ ρ3 15 = .sc (.int .i64 i) ∧ ρ3 45 = w ∧ ρ3 46 = .sc (.int .i64 n) ∧ ρ3 47 = .sc (.int .i64 j) ∧ σ3.get d = some (.cells cs) ∧ σ3.get σa.n = some (.cells zs) ∧ zs.length = 5 ∧ FN zs 0 (seenOf (M.f i).sure ((M.f i).loose.take j)) ((M.f i).loose.take j) u ∧ Kept (· = d) σ σ3) n (by omega) ?_ ?_
           · refine ⟨0, _, .sc .nilS, rfl, Nat.zero_le _, ?_, ?_, ?_, ?_, ?_, ?_, ?_, ?_, ?_, ?_, ?_, gd, gy, rfl, ⟨by simp, .nil, rfl, rfl, rfl⟩, kb⟩
             all_goals first | rfl | (simp -implicitDefEqProofs (disch := first | exact nbf rfl | exact nbt rfl | (simp only [zN.down, reduceCtorEq] <;> omega) | omega) only [e0, e1, e2, e15, XOp.kind, AOp.kind, zU.down, simprocAttr]; done) | (simp -implicitDefEqProofs (disch := first | exact nbf rfl | exact nbt rfl | (simp only [zN.down, reduceCtorEq] <;> omega) | omega) only [e0, e1, e2, e15, fcell, XOp.kind, AOp.kind, zU.down, simprocAttr]; done) | (simp -implicitDefEqProofs (disch := first | exact nbf rfl | exact nbt rfl | (simp only [zN.down, reduceCtorEq] <;> omega) | omega) only [hn0, XOp.kind, AOp.kind, zU.down, simprocAttr]; done) | (simp -implicitDefEqProofs (disch := first | exact nbf rfl | exact nbt rfl | (simp only [zN.down, reduceCtorEq] <;> omega) | omega) only [hn0, XOp.kind, AOp.kind, zU.down, simprocAttr]; rfl)
           · rintro m3 ρ3 σ3 ⟨j, zs, u, hm3, hj, p0, p1, p2, p7, p8, p9, p10, p15, p45, p46, p47, gd3, gz, hz, hfn, hk3⟩
             by_cases hjn : j < n
             · have c3 : decide ((j : Int) < (n : Int)) = true := by simpa using hjn
               have hj2 : j < (M.f i).loose.length := by omega
               obtain ⟨a1, a2, a3⟩ := hw2.at (i := j) (by simp; omega)
               have a4 : (List.take n ((M.f i).loose.map chc))[j]'(by simp; omega) = chc (M.f i).loose[j] := by simp
               rw [a4] at a3
               have hd2 := hdoes σ3.bump σa.n zs _ _ u (M.f i).loose[j] (by rw [St.get_bump]; exact gz) hfn (okl_at hj2 hfm.1.ok) (seen_len (okl_take j hfm.1.ok) hfm.1.len) (by simp; omega)
               simp only [chc] at a3 hd2
               simp -implicitDefEqProofs (disch := first | exact nbf rfl | exact nbt rfl | (simp only [zN.down, reduceCtorEq] <;> omega) | omega) only [c3, p0, p1, p2, p7, p8, p9, p10, p15, p45, p46, p47, a1, a2, a3, wsize, XOp.kind, AOp.kind, zU.down, simprocAttr]
               repeat first | apply w_fin | apply w_seq | apply w_block | apply w_reg | apply w_op | apply w_dop
               refine hd2.mono ?_
               rintro ⟨_, σ4⟩ ⟨rfl, zs', u', g4, z4, f4, _, k4⟩
               dsimp only at g4 k4
               have hne : d ≠ σa.n := by omega
               have hsn : seenOf (M.f i).sure ((M.f i).loose.take (j + 1)) = done (seenOf (M.f i).sure ((M.f i).loose.take j)) (M.f i).loose[j] := by rw [take_succ' hj2, seenOf_append]
               have w3 : IntKind.i64.wrap ((j : Int) + 1) = (j : Int) + 1 := wrap64 (by omega) (by omega)
               simp -implicitDefEqProofs (disch := first | exact nbf rfl | exact nbt rfl | (simp only [zN.down, reduceCtorEq] <;> omega) | omega) only [p47, w3, XOp.kind, AOp.kind, zU.down, simprocAttr]
               refine ⟨n - (j + 1), by omega, j + 1, zs', u', rfl, hjn, ?_, ?_, ?_, ?_, ?_, ?_, ?_, ?_, ?_, ?_, ?_, k4.get _ _ hne (by rw [St.get_bump]; exact gd3), g4, z4.trans hz, ?_, ?_⟩
               all_goals first
                | assumption
                | (simp; done)
                | (rw [hsn, take_succ' hj2]; exact f4)
                | (refine ⟨Nat.le_trans hk3.n (Nat.le_trans (Nat.le_succ _) k4.n), fun q x hq hx => ?_⟩
                   have h1 := hk3.get q x hq hx
                   have h2 := hold q x hx
                   exact k4.get q x (by omega) (by rw [St.get_bump]; exact h1))
             · have c3 : decide ((j : Int) < (n : Int)) = false := by simpa using hjn
               have hjn : j = n := by omega
               subst hjn
               simp -implicitDefEqProofs (disch := first | exact nbf rfl | exact nbt rfl | (simp only [zN.down, reduceCtorEq] <;> omega) | omega) only [c3, p46, p47, XOp.kind, AOp.kind, zU.down, simprocAttr]
               refine ⟨_, _, zs, u, rfl, ?_, ?_, ?_, ?_, ?_, ?_, ?_, ?_, gd3, gz, hz, hfn, hk3⟩
               all_goals (simp -implicitDefEqProofs (disch := first | exact nbf rfl | exact nbt rfl | (simp only [zN.down, reduceCtorEq] <;> omega) | omega) only [p0, p1, p2, p7, p8, p9, p10, p15, XOp.kind, AOp.kind, zU.down, simprocAttr]; done)
         · rintro _ ⟨ρ3, σ3, zs, u, rfl, p0, p1, p2, p7, p8, p9, p10, p15, gd3, gz, hz, hfn, hk3⟩
           have hne : d ≠ σa.n := by omega
           -- what is written in the end
           have hend : ∀ (ρ4 : Env) (σ4 : St) (zs4 : List V), zs4[1]? = some (.str ((M.f i).crash ((keep[i]?).getD 0) torn).seen.s) → zs4[3]? = some (.sc (.bool ((M.f i).crash ((keep[i]?).getD 0) torn).seen.there)) → σ4.get d = some (.cells cs) → σ4.get σa.n = some (.cells zs4) → Kept (· = d) σ σ4 →
             DR (σ4.put d (some (.cells (splice cs (i * 5) [.str ((M.f i).crash ((keep[i]?).getD 0) torn).seen.s, .str ((M.f i).crash ((keep[i]?).getD 0) torn).seen.s, .sc (.bool ((M.f i).crash ((keep[i]?).getD 0) torn).seen.there), .sc (.bool ((M.f i).crash ((keep[i]?).getD 0) torn).seen.there), .sc .nilS])))) d (M.part keep torn (i + 1)) ∧ Kept (· = d) σ (σ4.put d (some (.cells (splice cs (i * 5) [.str ((M.f i).crash ((keep[i]?).getD 0) torn).seen.s, .str ((M.f i).crash ((keep[i]?).getD 0) torn).seen.s, .sc (.bool ((M.f i).crash ((keep[i]?).getD 0) torn).seen.there), .sc (.bool ((M.f i).crash ((keep[i]?).getD 0) torn).seen.there), .sc .nilS])))) := by
            intro ρ4 σ4 zs4 _ _ g1 _ k1
            obtain ⟨q1, q2⟩ := crash_sure (M.f i) ((keep[i]?).getD 0) torn
            refine ⟨⟨_, get_put_self g1, ?_⟩, k1.put (.inl rfl) (St.get_lt g1) _⟩
            rw [← part_succ]
            exact hc.file hl _ q1 q2
           have w4 : IntKind.i64.wrap ((i : Int) + 1) = (i : Int) + 1 := wrap64 (by omega) (by omega)
           have z1 := hfn.c1
           have z3 := hfn.c3
           have hnone : ∀ x, ((M.f i).crash ((keep[i]?).getD 0) torn) = ⟨x, []⟩ → ((M.f i).crash ((keep[i]?).getD 0) torn).seen = x := fun x hx => by rw [hx]; rfl
           have stop : (M.f i).crash ((keep[i]?).getD 0) torn = ⟨seenOf (M.f i).sure ((M.f i).loose.take n), []⟩ → ∀ Q : V × St → Prop, True := fun _ _ => trivial
           by_cases q1 : n < (M.f i).loose.length
           · have c3 : decide ((n : Int) < ((M.f i).loose.length : Int)) = true := by simpa using q1
             obtain ⟨a1, a2, a3⟩ := hv.rv.at (i := n) (by simpa using q1)
             have b0 := hv.rv.cellAt (i := n) (j := 0) (by simpa using q1) (by omega)
             have b1 := hv.rv.cellAt (i := n) (j := 1) (by simpa using q1) (by omega)
             simp only [List.getElem_map, chc, List.getElem?_cons_zero, List.getElem?_cons_succ, Nat.add_zero] at b0 b1
             have hcr2 := hcr
             unfold FM.crashN at hcr2
             rw [List.getElem?_eq_getElem q1] at hcr2
             dsimp only at hcr2
             have hokn := okl_at q1 hfm.1.ok
             by_cases q2 : (M.f i).loose[n].k = 1
             · have c4 := beq_iff_eq.2 q2
               by_cases q3 : 0 < torn
               · have c5 : decide (torn > 0) = true := by simpa using q3
                 by_cases q4 : 0 < (M.f i).loose[n].s.length
                 · have c6 : decide (((M.f i).loose[n].s.length : Int) > 0) = true := by simpa using q4
                   rw [if_pos ⟨q2, q4, q3⟩] at hcr2
                   have hsn := hnone _ hcr2
                   have hlen1 : (M.f i).loose[n].s.length ≤ 1048576 := by
                    rcases hokn with ⟨_, h⟩ | ⟨h, _⟩ | h
                    · omega
                    · omega
                    · omega
                   have w5 : IntKind.i64.wrap (((M.f i).loose[n].s.length : Int) - 1) = ((M.f i).loose[n].s.length : Int) - 1 := wrap64 (by omega) (by omega)
                   have hmin := min64 torn (((M.f i).loose[n].s.length : Int) - 1)
                   have sl : aSlice (.str (M.f i).loose[n].s) none (some (.sc (.int .i64 (min torn (((M.f i).loose[n].s.length : Int) - 1))))) none = some (.str ((M.f i).loose[n].s.take (min torn (((M.f i).loose[n].s.length : Int) - 1)).toNat)) := by
                    have h1 : (0 : Int) ≤ min torn (((M.f i).loose[n].s.length : Int) - 1) := by omega
                    have h2 : min torn (((M.f i).loose[n].s.length : Int) - 1) ≤ ((M.f i).loose[n].s.length : Int) := by omega
                    simp [aSlice, aBounds, aBnd, h1, h2]
                   have hd2 := hdoes σ3 σa.n zs _ _ u ⟨1, (M.f i).loose[n].s.take (min torn (((M.f i).loose[n].s.length : Int) - 1)).toNat, 0⟩ gz hfn (.inl ⟨rfl, by
                    rcases hokn with ⟨_, h⟩ | ⟨h, _⟩ | h
                    · dsimp only; rw [List.length_take]; omega
                    · omega
                    · omega⟩) (seen_len (okl_take n hfm.1.ok) hfm.1.len) (by simp; omega)
                   simp only [chc] at hd2
                   simp -implicitDefEqProofs (disch := first | exact nbf rfl | exact nbt rfl | (simp only [zN.down, reduceCtorEq] <;> omega) | omega) only [p0, p1, p2, p7, p8, p9, p10, p15, fcell, c3, c4, c5, c6, a1, b0, b1, vlen, vsize, w5, hmin, sl, XOp.kind, V.bool, V.i64, aUn, aBox, aLoad, chkAdd, effAdd, AOp.kind, chkAll, chkSee, zP.down, zQ.down, zR.down, zT.down, AOper.o, AOper.p, simprocAttr]
                   repeat first | apply w_fin | apply w_seq | apply w_block | apply w_reg | apply w_op | apply w_dop
                   refine hd2.mono ?_
                   rintro ⟨_, σ4⟩ ⟨rfl, zs', u', g4, z4, f4, _, k4⟩
                   dsimp only at g4 k4
                   have f1 := f4.c1
                   have f3 := f4.c3
                   rw [← hsn] at f1 f3
                   have gd4 := k4.get _ _ hne gd3
                   have k5 : Kept (· = d) σ σ4 := ⟨Nat.le_trans hk3.n k4.n, fun q x hq hx => by
                    have h1 := hk3.get q x hq hx
                    have h2 := hold q x hx
                    exact k4.get q x (by omega) h1⟩
                   obtain ⟨r1, r2⟩ := hend ρ3 σ4 zs' f1 f3 gd4 g4 k5
                   simp -implicitDefEqProofs (disch := first | exact nbf rfl | exact nbt rfl | (simp only [zN.down, reduceCtorEq] <;> omega) | omega) only [p0, p1, p2, p7, p8, p9, p10, p15, fcell, g4, f1, f3, gd4, ha, l1, w4, XOp.kind, aEqV, AOp.kind, zP.down, zQ.down, zR.down, zS.down, simprocAttr]
                   exact ⟨32 - (i + 1), by omega, i + 1, rfl, by omega, by simp, r1, r2⟩
                 · have c6 : decide (((M.f i).loose[n].s.length : Int) > 0) = false := by simpa using q4
                   rw [if_neg (fun h => q4 h.2.1)] at hcr2
                   have hsn := hnone _ hcr2
                   rw [← hsn] at z1 z3
                   obtain ⟨r1, r2⟩ := hend ρ3 σ3 zs z1 z3 gd3 gz hk3
                   simp -implicitDefEqProofs (disch := first | exact nbf rfl | exact nbt rfl | (simp only [zN.down, reduceCtorEq] <;> omega) | omega) only [p0, p1, p2, p7, p8, p9, p10, p15, fcell, c3, c4, c5, c6, a1, b0, b1, vlen, vsize, gz, z1, z3, gd3, ha, l1, w4, XOp.kind, aEqV, AOp.kind, zP.down, zQ.down, zR.down, zS.down, simprocAttr]
                   exact ⟨32 - (i + 1), by omega, i + 1, rfl, by omega, by simp, r1, r2⟩
               · have c5 : decide (torn > 0) = false := by simpa using q3
                 rw [if_neg (fun h => q3 h.2.2)] at hcr2
                 have hsn := hnone _ hcr2
                 rw [← hsn] at z1 z3
                 obtain ⟨r1, r2⟩ := hend ρ3 σ3 zs z1 z3 gd3 gz hk3
                 simp -implicitDefEqProofs (disch := first | exact nbf rfl | exact nbt rfl | (simp only [zN.down, reduceCtorEq] <;> omega) | omega) only [p0, p1, p2, p7, p8, p9, p10, p15, fcell, c3, c4, c5, a1, b0, b1, vlen, vsize, gz, z1, z3, gd3, ha, l1, w4, XOp.kind, aEqV, AOp.kind, zP.down, zQ.down, zR.down, zS.down, simprocAttr]
                 exact ⟨32 - (i + 1), by omega, i + 1, rfl, by omega, by simp, r1, r2⟩
             · have c4 := beq_eq_false_iff_ne.2 q2
               rw [if_neg (fun h => q2 h.1)] at hcr2
               have hsn := hnone _ hcr2
               rw [← hsn] at z1 z3
               obtain ⟨r1, r2⟩ := hend ρ3 σ3 zs z1 z3 gd3 gz hk3
               simp -implicitDefEqProofs (disch := first | exact nbf rfl | exact nbt rfl | (simp only [zN.down, reduceCtorEq] <;> omega) | omega) only [p0, p1, p2, p7, p8, p9, p10, p15, fcell, c3, c4, a1, b0, b1, vlen, vsize, gz, z1, z3, gd3, ha, l1, w4, XOp.kind, aEqV, AOp.kind, zP.down, zQ.down, zR.down, zS.down, simprocAttr]
               exact ⟨32 - (i + 1), by omega, i + 1, rfl, by omega, by simp, r1, r2⟩
           · have c3 : decide ((n : Int) < ((M.f i).loose.length : Int)) = false := by simpa using q1
             have hcr2 := hcr
             unfold FM.crashN at hcr2
             have hnn : (M.f i).loose[n]? = none := List.getElem?_eq_none (by omega)
             rw [hnn] at hcr2
             dsimp only at hcr2
             have hsn := hnone _ hcr2
             rw [← hsn] at z1 z3
             obtain ⟨r1, r2⟩ := hend ρ3 σ3 zs z1 z3 gd3 gz hk3
             simp -implicitDefEqProofs (disch := first | exact nbf rfl | exact nbt rfl | (simp only [zN.down, reduceCtorEq] <;> omega) | omega) only [p0, p1, p2, p7, p8, p9, p10, p15, fcell, c3, vlen, vsize, gz, z1, z3, gd3, ha, l1, w4, XOp.kind, aEqV, AOp.kind, zP.down, zQ.down, zR.down, zS.down, simprocAttr]
             exact ⟨32 - (i + 1), by omega, i + 1, rfl, by omega, by simp, r1, r2⟩
       · have c2 : decide ((i : Int) < (keep.length : Int)) = false := by simpa using hki
         have hkg : (keep[i]?).getD 0 = 0 := by rw [List.getElem?_eq_none (by omega)]; rfl
         have hn0 : n = 0 := by rw [hkg] at hn; omega
         have e00 : (.sc (.int .i64 0) : V) = .sc (.int .i64 (n : Int)) := by rw [hn0]; rfl
         have hw1' : ∀ σ2, aSliceR σ2 v none (some (.sc (.int .i64 0))) none = some w := by
          intro σ2
          have := hw1 σ2
          rw [hn0] at this
          exact this
         simp -implicitDefEqProofs (disch := first | exact nbf rfl | exact nbt rfl | (simp only [zN.down, reduceCtorEq] <;> omega) | omega) only [c1, c2, e0, e1, e2, e15, klen, ksize, ha, g, l1, t1, fcell, hcell.1, hcell.2, vlen, vsize, hσa, hσb, hw1', wlen, XOp.kind, V.bool, V.i64, aUn, aBox, aLoad, aEqV, chkAdd, effAdd, AOp.kind, chkAll, chkSee, zP.down, zQ.down, zR.down, AOper.o, AOper.p, simprocAttr]
         repeat first | apply w_fin | apply w_seq | apply w_block | apply w_reg | apply w_op | apply w_dop
         refine W.mono (Q := fun r => ∃ (ρ3 : Env) (σ3 : St) (zs : List V) (u : V), r = ((.exit 2 : Ex), ρ3, σ3) ∧ ρ3 0 = .ptr d 0 ∧ ρ3 1 = kv ∧ ρ3 2 = .sc (.int .i64 torn) ∧ ρ3 7 = .sc (.int .i64 i) ∧ ρ3 8 = .agg (fcell (M.f i) v) ∧ ρ3 9 = .sc (.int .i64 n) ∧ ρ3 10 = .ptr σa.n 0 ∧ ρ3 15 = .sc (.int .i64 i) ∧ σ3.get d = some (.cells cs) ∧ σ3.get σa.n = some (.cells zs) ∧ zs.length = 5 ∧ FN zs 0 (seenOf (M.f i).sure ((M.f i).loose.take n)) ((M.f i).loose.take n) u ∧ Kept (· = d) σ σ3) ?_ ?_
         · refine w_loop (fun m ρ3 σ3 => ∃ (j : Nat) (zs : List V) (u : V), m = n - j ∧ j ≤ n ∧ ρ3 0 = .ptr d 0 ∧ ρ3 1 = kv ∧ ρ3 2 = .sc (.int .i64 torn) ∧ ρ3 7 = .sc (.int .i64 i) ∧ ρ3 8 = .agg (fcell (M.f i) v) ∧ ρ3 9 = .sc (.int .i64 n) ∧ ρ3 10 = .ptr σa.n 0 ∧ ρ3 15 = .sc (.int .i64 i) ∧ ρ3 45 = w ∧ ρ3 46 = .sc (.int .i64 n) ∧ ρ3 47 = .sc (.int .i64 j) ∧ σ3.get d = some (.cells cs) ∧ σ3.get σa.n = some (.cells zs) ∧ zs.length = 5 ∧ FN zs 0 (seenOf (M.f i).sure ((M.f i).loose.take j)) ((M.f i).loose.take j) u ∧ Kept (· = d) σ σ3) n (by omega) ?_ ?_
           · refine ⟨0, _, .sc .nilS, rfl, Nat.zero_le _, ?_, ?_, ?_, ?_, ?_, ?_, ?_, ?_, ?_, ?_, ?_, gd, gy, rfl, ⟨by simp, .nil, rfl, rfl, rfl⟩, kb⟩
             all_goals first | rfl | (simp -implicitDefEqProofs (disch := first | exact nbf rfl | exact nbt rfl | (simp only [zN.down, reduceCtorEq] <;> omega) | omega) only [e0, e1, e2, e15, XOp.kind, AOp.kind, zU.down, simprocAttr]; done) | (simp -implicitDefEqProofs (disch := first | exact nbf rfl | exact nbt rfl | (simp only [zN.down, reduceCtorEq] <;> omega) | omega) only [e0, e1, e2, e15, fcell, XOp.kind, AOp.kind, zU.down, simprocAttr]; done) | (simp -implicitDefEqProofs (disch := first | exact nbf rfl | exact nbt rfl | (simp only [zN.down, reduceCtorEq] <;> omega) | omega) only [hn0, XOp.kind, AOp.kind, zU.down, simprocAttr]; done) | (simp -implicitDefEqProofs (disch := first | exact nbf rfl | exact nbt rfl | (simp only [zN.down, reduceCtorEq] <;> omega) | omega) only [hn0, XOp.kind, AOp.kind, zU.down, simprocAttr]; rfl)
           · rintro m3 ρ3 σ3 ⟨j, zs, u, hm3, hj, p0, p1, p2, p7, p8, p9, p10, p15, p45, p46, p47, gd3, gz, hz, hfn, hk3⟩
             by_cases hjn : j < n
             · exact absurd hjn (by omega)
             · have c3 : decide ((j : Int) < (n : Int)) = false := by simpa using hjn
               have hjn : j = n := by omega
               subst hjn
               simp -implicitDefEqProofs (disch := first | exact nbf rfl | exact nbt rfl | (simp only [zN.down, reduceCtorEq] <;> omega) | omega) only [c3, p46, p47, XOp.kind, AOp.kind, zU.down, simprocAttr]
               refine ⟨_, _, zs, u, rfl, ?_, ?_, ?_, ?_, ?_, ?_, ?_, ?_, gd3, gz, hz, hfn, hk3⟩
               all_goals (simp -implicitDefEqProofs (disch := first | exact nbf rfl | exact nbt rfl | (simp only [zN.down, reduceCtorEq] <;> omega) | omega) only [p0, p1, p2, p7, p8, p9, p10, p15, XOp.kind, AOp.kind, zU.down, simprocAttr]; done)
         · rintro _ ⟨ρ3, σ3, zs, u, rfl, p0, p1, p2, p7, p8, p9, p10, p15, gd3, gz, hz, hfn, hk3⟩
           have hne : d ≠ σa.n := by omega
           -- what is written in the end
           have hend : ∀ (ρ4 : Env) (σ4 : St) (zs4 : List V), zs4[1]? = some (.str ((M.f i).crash ((keep[i]?).getD 0) torn).seen.s) → zs4[3]? = some (.sc (.bool ((M.f i).crash ((keep[i]?).getD 0) torn).seen.there)) → σ4.get d = some (.cells cs) → σ4.get σa.n = some (.cells zs4) → Kept (· = d) σ σ4 →
             DR (σ4.put d (some (.cells (splice cs (i * 5) [.str ((M.f i).crash ((keep[i]?).getD 0) torn).seen.s, .str ((M.f i).crash ((keep[i]?).getD 0) torn).seen.s, .sc (.bool ((M.f i).crash ((keep[i]?).getD 0) torn).seen.there), .sc (.bool ((M.f i).crash ((keep[i]?).getD 0) torn).seen.there), .sc .nilS])))) d (M.part keep torn (i + 1)) ∧ Kept (· = d) σ (σ4.put d (some (.cells (splice cs (i * 5) [.str ((M.f i).crash ((keep[i]?).getD 0) torn).seen.s, .str ((M.f i).crash ((keep[i]?).getD 0) torn).seen.s, .sc (.bool ((M.f i).crash ((keep[i]?).getD 0) torn).seen.there), .sc (.bool ((M.f i).crash ((keep[i]?).getD 0) torn).seen.there), .sc .nilS])))) := by
            intro ρ4 σ4 zs4 _ _ g1 _ k1
            obtain ⟨q1, q2⟩ := crash_sure (M.f i) ((keep[i]?).getD 0) torn
            refine ⟨⟨_, get_put_self g1, ?_⟩, k1.put (.inl rfl) (St.get_lt g1) _⟩
            rw [← part_succ]
            exact hc.file hl _ q1 q2
           have w4 : IntKind.i64.wrap ((i : Int) + 1) = (i : Int) + 1 := wrap64 (by omega) (by omega)
           have z1 := hfn.c1
           have z3 := hfn.c3
           have hnone : ∀ x, ((M.f i).crash ((keep[i]?).getD 0) torn) = ⟨x, []⟩ → ((M.f i).crash ((keep[i]?).getD 0) torn).seen = x := fun x hx => by rw [hx]; rfl
           have stop : (M.f i).crash ((keep[i]?).getD 0) torn = ⟨seenOf (M.f i).sure ((M.f i).loose.take n), []⟩ → ∀ Q : V × St → Prop, True := fun _ _ => trivial
           by_cases q1 : n < (M.f i).loose.length
           · have c3 : decide ((n : Int) < ((M.f i).loose.length : Int)) = true := by simpa using q1
             obtain ⟨a1, a2, a3⟩ := hv.rv.at (i := n) (by simpa using q1)
             have b0 := hv.rv.cellAt (i := n) (j := 0) (by simpa using q1) (by omega)
             have b1 := hv.rv.cellAt (i := n) (j := 1) (by simpa using q1) (by omega)
             simp only [List.getElem_map, chc, List.getElem?_cons_zero, List.getElem?_cons_succ, Nat.add_zero] at b0 b1
             have hcr2 := hcr
             unfold FM.crashN at hcr2
             rw [List.getElem?_eq_getElem q1] at hcr2
             dsimp only at hcr2
             have hokn := okl_at q1 hfm.1.ok
             by_cases q2 : (M.f i).loose[n].k = 1
             · have c4 := beq_iff_eq.2 q2
               by_cases q3 : 0 < torn
               · have c5 : decide (torn > 0) = true := by simpa using q3
                 by_cases q4 : 0 < (M.f i).loose[n].s.length
                 · have c6 : decide (((M.f i).loose[n].s.length : Int) > 0) = true := by simpa using q4
                   rw [if_pos ⟨q2, q4, q3⟩] at hcr2
                   have hsn := hnone _ hcr2
                   have hlen1 : (M.f i).loose[n].s.length ≤ 1048576 := by
                    rcases hokn with ⟨_, h⟩ | ⟨h, _⟩ | h
                    · omega
                    · omega
                    · omega
                   have w5 : IntKind.i64.wrap (((M.f i).loose[n].s.length : Int) - 1) = ((M.f i).loose[n].s.length : Int) - 1 := wrap64 (by omega) (by omega)
                   have hmin := min64 torn (((M.f i).loose[n].s.length : Int) - 1)
                   have sl : aSlice (.str (M.f i).loose[n].s) none (some (.sc (.int .i64 (min torn (((M.f i).loose[n].s.length : Int) - 1))))) none = some (.str ((M.f i).loose[n].s.take (min torn (((M.f i).loose[n].s.length : Int) - 1)).toNat)) := by
                    have h1 : (0 : Int) ≤ min torn (((M.f i).loose[n].s.length : Int) - 1) := by omega
                    have h2 : min torn (((M.f i).loose[n].s.length : Int) - 1) ≤ ((M.f i).loose[n].s.length : Int) := by omega
                    simp [aSlice, aBounds, aBnd, h1, h2]
                   have hd2 := hdoes σ3 σa.n zs _ _ u ⟨1, (M.f i).loose[n].s.take (min torn (((M.f i).loose[n].s.length : Int) - 1)).toNat, 0⟩ gz hfn (.inl ⟨rfl, by
                    rcases hokn with ⟨_, h⟩ | ⟨h, _⟩ | h
                    · dsimp only; rw [List.length_take]; omega
                    · omega
                    · omega⟩) (seen_len (okl_take n hfm.1.ok) hfm.1.len) (by simp; omega)
                   simp only [chc] at hd2
                   simp -implicitDefEqProofs (disch := first | exact nbf rfl | exact nbt rfl | (simp only [zN.down, reduceCtorEq] <;> omega) | omega) only [p0, p1, p2, p7, p8, p9, p10, p15, fcell, c3, c4, c5, c6, a1, b0, b1, vlen, vsize, w5, hmin, sl, XOp.kind, V.bool, V.i64, aUn, aBox, aLoad, chkAdd, effAdd, AOp.kind, chkAll, chkSee, zP.down, zQ.down, zR.down, zT.down, AOper.o, AOper.p, simprocAttr]
                   repeat first | apply w_fin | apply w_seq | apply w_block | apply w_reg | apply w_op | apply w_dop
                   refine hd2.mono ?_
                   rintro ⟨_, σ4⟩ ⟨rfl, zs', u', g4, z4, f4, _, k4⟩
                   dsimp only at g4 k4
                   have f1 := f4.c1
                   have f3 := f4.c3
                   rw [← hsn] at f1 f3
                   have gd4 := k4.get _ _ hne gd3
                   have k5 : Kept (· = d) σ σ4 := ⟨Nat.le_trans hk3.n k4.n, fun q x hq hx => by
                    have h1 := hk3.get q x hq hx
                    have h2 := hold q x hx
                    exact k4.get q x (by omega) h1⟩
                   obtain ⟨r1, r2⟩ := hend ρ3 σ4 zs' f1 f3 gd4 g4 k5
                   simp -implicitDefEqProofs (disch := first | exact nbf rfl | exact nbt rfl | (simp only [zN.down, reduceCtorEq] <;> omega) | omega) only [p0, p1, p2, p7, p8, p9, p10, p15, fcell, g4, f1, f3, gd4, ha, l1, w4, XOp.kind, aEqV, AOp.kind, zP.down, zQ.down, zR.down, zS.down, simprocAttr]
                   exact ⟨32 - (i + 1), by omega, i + 1, rfl, by omega, by simp, r1, r2⟩
                 · have c6 : decide (((M.f i).loose[n].s.length : Int) > 0) = false := by simpa using q4
                   rw [if_neg (fun h => q4 h.2.1)] at hcr2
                   have hsn := hnone _ hcr2
                   rw [← hsn] at z1 z3
                   obtain ⟨r1, r2⟩ := hend ρ3 σ3 zs z1 z3 gd3 gz hk3
                   simp -implicitDefEqProofs (disch := first | exact nbf rfl | exact nbt rfl | (simp only [zN.down, reduceCtorEq] <;> omega) | omega) only [p0, p1, p2, p7, p8, p9, p10, p15, fcell, c3, c4, c5, c6, a1, b0, b1, vlen, vsize, gz, z1, z3, gd3, ha, l1, w4, XOp.kind, aEqV, AOp.kind, zP.down, zQ.down, zR.down, zS.down, simprocAttr]
                   exact ⟨32 - (i + 1), by omega, i + 1, rfl, by omega, by simp, r1, r2⟩
               · have c5 : decide (torn > 0) = false := by simpa using q3
                 rw [if_neg (fun h => q3 h.2.2)] at hcr2
                 have hsn := hnone _ hcr2
                 rw [← hsn] at z1 z3
                 obtain ⟨r1, r2⟩ := hend ρ3 σ3 zs z1 z3 gd3 gz hk3
                 simp -implicitDefEqProofs (disch := first | exact nbf rfl | exact nbt rfl | (simp only [zN.down, reduceCtorEq] <;> omega) | omega) only [p0, p1, p2, p7, p8, p9, p10, p15, fcell, c3, c4, c5, a1, b0, b1, vlen, vsize, gz, z1, z3, gd3, ha, l1, w4, XOp.kind, aEqV, AOp.kind, zP.down, zQ.down, zR.down, zS.down, simprocAttr]
                 exact ⟨32 - (i + 1), by omega, i + 1, rfl, by omega, by simp, r1, r2⟩
             · have c4 := beq_eq_false_iff_ne.2 q2
               rw [if_neg (fun h => q2 h.1)] at hcr2
               have hsn := hnone _ hcr2
               rw [← hsn] at z1 z3
               obtain ⟨r1, r2⟩ := hend ρ3 σ3 zs z1 z3 gd3 gz hk3
               simp -implicitDefEqProofs (disch := first | exact nbf rfl | exact nbt rfl | (simp only [zN.down, reduceCtorEq] <;> omega) | omega) only [p0, p1, p2, p7, p8, p9, p10, p15, fcell, c3, c4, a1, b0, b1, vlen, vsize, gz, z1, z3, gd3, ha, l1, w4, XOp.kind, aEqV, AOp.kind, zP.down, zQ.down, zR.down, zS.down, simprocAttr]
               exact ⟨32 - (i + 1), by omega, i + 1, rfl, by omega, by simp, r1, r2⟩
           · have c3 : decide ((n : Int) < ((M.f i).loose.length : Int)) = false := by simpa using q1
             have hcr2 := hcr
             unfold FM.crashN at hcr2
             have hnn : (M.f i).loose[n]? = none := List.getElem?_eq_none (by omega)
             rw [hnn] at hcr2
             dsimp only at hcr2
             have hsn := hnone _ hcr2
             rw [← hsn] at z1 z3
             obtain ⟨r1, r2⟩ := hend ρ3 σ3 zs z1 z3 gd3 gz hk3
             simp -implicitDefEqProofs (disch := first | exact nbf rfl | exact nbt rfl | (simp only [zN.down, reduceCtorEq] <;> omega) | omega) only [p0, p1, p2, p7, p8, p9, p10, p15, fcell, c3, vlen, vsize, gz, z1, z3, gd3, ha, l1, w4, XOp.kind, aEqV, AOp.kind, zP.down, zQ.down, zR.down, zS.down, simprocAttr]
             exact ⟨32 - (i + 1), by omega, i + 1, rfl, by omega, by simp, r1, r2⟩
     · have c1 : decide ((i : Int) < 32) = false := by simp; omega
       have : i = 32 := by omega
       subst this
       simp -implicitDefEqProofs (disch := first | exact nbf rfl | exact nbt rfl | (simp only [zN.down, reduceCtorEq] <;> omega) | omega) only [c1, e0, e15, XOp.kind, AOp.kind, zU.down, simprocAttr]
       refine ⟨_, _, rfl, ?_, hd, hkept⟩
       simp -implicitDefEqProofs (disch := first | exact nbf rfl | exact nbt rfl | (simp only [zN.down, reduceCtorEq] <;> omega) | omega) only [e0, XOp.kind, AOp.kind, zU.down, simprocAttr]
 · rintro _ ⟨ρ, σ2, rfl, e0, ⟨cs, g, hc⟩, hkept⟩
   have hl := hc.len
   have l0 : (160 + 1 ≤ cs.length) = True := by simp only [eq_iff_iff, iff_true]; omega
   simp -implicitDefEqProofs (disch := first | exact nbf rfl | exact nbt rfl | (simp only [zN.down, reduceCtorEq] <;> omega) | omega) only [e0, g, l0, XOp.kind, AOp.kind, zU.down, simprocAttr]
   refine ⟨⟨_, get_put_self g, ?_⟩, hkept.put (.inl rfl) (St.get_lt g) _⟩
   have := hc.power (-1)
   refine ⟨this.len, this.p, this.o, fun i hi => ?_⟩
   obtain ⟨v, hv⟩ := this.f i hi
   have e : (M.part keep torn 32).f i = (M.crash keep torn).f i := by unfold DM.part DM.crash; simp [hi]
   rw [← e]
   exact ⟨v, hv⟩
end Go.Proofs.YtehdjkikcfeiaaaGreat.dk
