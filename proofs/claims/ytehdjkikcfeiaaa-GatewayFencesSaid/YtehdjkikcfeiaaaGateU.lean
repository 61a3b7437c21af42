/-
  Gateways: rights, what is asked.
  Gateways: a question answered.
  Gateways: a question asked.
-/
import Derived.Test.YtehdjkikcfeiaaaJourK
namespace Go.Proofs.Ytehdjkikcfeiaaa.jn
open Go.Ab fr dk
set_option maxRecDepth 100000
set_option maxHeartbeats 8000000
set_option linter.unusedSimpArgs false
set_option linter.unusedVariables false

/-! ## A map of rights -/
abbrev En := Int × Int × Int × Nat
def en (e : En) : V × V × Nat := (.sc (.int .i64 e.1), .agg [.sc (.int .i64 e.2.1), .sc (.int .i64 e.2.2.1)], e.2.2.2)
theorem find_en (t : Int) : ∀ (l : List En) (j : Nat), (∀ σ, aFind σ (.int .i64) (.sc (.int .i64 t)) (l.map en) j = some none) ∨ ∃ i f e, ∀ σ, aFind σ (.int .i64) (.sc (.int .i64 t)) (l.map en) j = some (some (i, .sc (.int .i64 t), .agg [.sc (.int .i64 f), .sc (.int .i64 e)])) := by
  intro l
  induction l with
  | nil => intro j; exact .inl fun σ => rfl
  | cons e l ih =>
    intro j
    have he : ∀ σ, aEqV σ (.int .i64) (.sc (.int .i64 t)) (en e).1 = some (t == e.1) := fun σ => by simp [aEqV, en, aEqInt]
    by_cases c : e.1 = t
    · right
      refine ⟨j, e.2.1, e.2.2.1, fun σ => ?_⟩
      rw [List.map_cons, aFind, he]
      simp [c, en]
    · have c' : (t == e.1) = false := by simp; exact fun h => c h.symm
      rcases ih (j + 1) with h | ⟨i, f, e', h⟩
      · left
        intro σ
        rw [List.map_cons, aFind, he]
        simp only [Option.bind_some, c', Bool.false_eq_true, if_false]
        exact h σ
      · right
        refine ⟨i, f, e', fun σ => ?_⟩
        rw [List.map_cons, aFind, he]
        simp only [Option.bind_some, c', Bool.false_eq_true, if_false]
        exact h σ
theorem en_modify (l : List En) (i : Nat) (t f e : Int) : (l.map en).modify i (fun x => (.sc (.int .i64 t), .agg [.sc (.int .i64 f), .sc (.int .i64 e)], x.2.2)) = (l.modify i fun x => (t, f, e, x.2.2.2)).map en := by
  refine List.ext_getElem? fun j => ?_
  simp only [List.getElem?_modify, List.getElem?_map]
  cases l[j]? with
  | none => rfl
  | some e => by_cases c : i = j <;> simp [c, en]
theorem key_int (σ : St) (t : Int) : aKey σ (.int .i64) (.sc (.int .i64 t)) = true := by simp [aKey, aEqV, aEqInt]
def MI (σ : St) (o : Nat) : Prop := ∃ (l : List En) (c : Nat), σ.get o = some (.map (l.map en) c)
theorem MI.kept {σ σ' : St} {o : Nat} {X : Nat → Prop} (h : MI σ o) (k : Kept X σ σ') (hx : ¬ X o) : MI σ' o := by
  obtain ⟨l, c, h⟩ := h; exact ⟨l, c, k.get _ _ hx h⟩
theorem xlook (l : List En) (c : Nat) (t : Int) : ∃ f e, ∀ σ o, σ.get o = some (.map (l.map en) c) → XOp.run σ (.lookup (.int .i64) (.agg [.sc (.int .i64 0), .sc (.int .i64 0)]) false) [.mp o, .sc (.int .i64 t)] = some (.agg [.sc (.int .i64 f), .sc (.int .i64 e)], σ) := by
  rcases find_en t l 0 with hf | ⟨i, f, e, hf⟩
  · refine ⟨0, 0, fun σ o h => ?_⟩
    simp only [XOp.run, aEnts, h, Option.bind_some, key_int, if_true, hf, Option.map_some]
    rfl
  · refine ⟨f, e, fun σ o h => ?_⟩
    simp only [XOp.run, aEnts, h, Option.bind_some, key_int, if_true, hf, Option.map_some]
    rfl
theorem xupd {σ : St} {o : Nat} (h : MI σ o) (t f e : Int) : ∃ σ', XOp.run σ (.mapUpd (.int .i64)) [.mp o, .sc (.int .i64 t), .agg [.sc (.int .i64 f), .sc (.int .i64 e)]] = some (.undef, σ') ∧ MI σ' o ∧ Kept (· = o) σ σ' := by
  obtain ⟨l, c, h⟩ := h
  have lo := St.get_lt h
  have base : ∀ (l' : List En) (c' : Nat), MI (σ.put o (some (.map (l'.map en) c'))) o ∧ Kept (· = o) σ (σ.put o (some (.map (l'.map en) c'))) := fun l' c' =>
    ⟨⟨l', c', get_put_self h⟩, Kept.put (X := (· = o)) (Kept.refl _ _) (.inl rfl) lo _⟩
  rcases find_en t l 0 with h3 | ⟨i, f', e', h3⟩
  · refine ⟨_, ?_, base (l ++ [(t, f, e, c)]) (c + 1)⟩
    simp only [XOp.run, h, key_int, if_true, h3, Option.bind_some]
    rw [List.map_append]; rfl
  · refine ⟨_, ?_, base (l.modify i fun x => (t, f, e, x.2.2.2)) c⟩
    simp only [XOp.run, h, key_int, if_true, h3, Option.bind_some]
    rw [← en_modify]
    simp [V.plain, V.flat]
theorem clonem_ok (k : Nat) (ys : YlF) (σ : St) (o : Nat) (h : MI σ o) :
    W (callY Tab.tb (k + 1) ys 25 [.mp o] σ) fun r => r.1 = .mp σ.n ∧ MI r.2 σ.n ∧ Kept noX σ r.2 := by
  rw [s_call (af := Tab.b25) rfl (Nat.le_of_ble_eq_true rfl)]
  generalize callY Tab.tb k = cy
  obtain ⟨l, c, h⟩ := h
  have hn : aEqV σ .map (.mp o) (.sc .nilM) = some false := rfl
  have hc : ∀ t, XOp.run σ .cloneMap [.ifc t (.mp o)] = some (.ifc t (.mp σ.n), σ.push (.map (l.map en) c)) := fun t => by simp only [XOp.run, h]
  have hi : ∀ t σ, XOp.run σ (.mkifc t) [.mp o] = some (.ifc t (.mp o), σ) := fun t σ => rfl
  have ha : ∀ t σ x, XOp.run σ (.assert t false) [.ifc t (.mp x)] = some (.mp x, σ) := fun t σ x => by simp [XOp.run]
  simp -implicitDefEqProofs (disch := first | exact nbf rfl | exact nbt rfl | (simp only [ne_eq, reduceCtorEq, not_false_eq_true]; done) | omega | (simp -implicitDefEqProofs only [zN.down] <;> omega) | fail) only [Tab.b25, hn, hc, hi, ha, XOp.kind, reduceCtorEq, V.bool, V.i64, aUn, aBox, aLoad, aArrAddr, aFold, chkAdd, effAdd, AOp.kind, chkAll, chkSee, zP.down, zQ.down, zR.down, simprocAttr]
  exact ⟨⟨l, c, get_push_self⟩, (Kept.refl _ _).push _⟩

/-- The gateway at g. -/
structure GR (σ : St) (g jb d : Nat) (L : List Tk) (jbr br : Int) : Prop where
  g : ∃ o, σ.get g = some (.cells [.ptr jb 0, .mp o, .sc (.int .i64 br)]) ∧ MI σ o
  j : JR σ jb d L jbr
theorem GR.kept {X : Nat → Prop} {σ σ' : St} {g jb d : Nat} {L : List Tk} {jbr br : Int} (h : GR σ g jb d L jbr br) (k : Kept X σ σ') (h1 : ¬ X g) (h2 : ¬ X jb) (h3 : ∀ o, X o → ∃ cs, σ.get o = some (.cells cs)) : GR σ' g jb d L jbr br := by
  obtain ⟨o, g1, m⟩ := h.g
  refine ⟨⟨o, k.get _ _ h1 g1, m.kept k fun hx => ?_⟩, h.j.kept k h2⟩
  obtain ⟨cs, hc⟩ := h3 o hx
  obtain ⟨l, c, hm⟩ := m
  rw [hm] at hc; cases hc
theorem GR.kept0 {σ σ' : St} {g jb d : Nat} {L : List Tk} {jbr br : Int} (h : GR σ g jb d L jbr br) (k : Kept noX σ σ') : GR σ' g jb d L jbr br := h.kept k (fun h => h) (fun h => h) (fun o h => h.elim)

/-- A right is not below the last token. -/
def Hi (T : Nx) (f e : Int) : Prop := (f = T.f ∧ e = T.e) ∨ f > T.f ∨ (f = T.f ∧ e > T.e)
theorem right_ok (k : Nat) (ys : YlF) (σ : St) (g jb d : Nat) (L : List Tk) (jbr br t : Int) (h : GR σ g jb d L jbr br) (hc : Chain L) (hL : L.length ≤ 1000) (hk : 1000020 ≤ k) :
    W (callY Tab.tb (k + 2) ys 24 [.ptr g 0, .sc (.int .i64 t)] σ) fun r => ∃ f e, r.1 = .tup [.agg [.sc (.int .i64 f), .sc (.int .i64 e)], .sc (.int .i64 ((tnx L t).n - 1))] ∧ Hi (tnx L t) f e ∧ Kept noX σ r.2 := by
  rw [s_call (af := Tab.b24) rfl (Nat.le_of_ble_eq_true rfl)]
  have hnx := fun σ h => next_ok k ys σ jb d L jbr t h (fun x hx => hc.chk hx) (by omega) hk
  have hab := fun σ a x => above_ok k ys σ a x
  generalize callY Tab.tb (k + 1) = cy at hnx hab ⊢
  obtain ⟨o, gg, mi⟩ := h.g
  have hj := h.j
  have hn := chain_nn hc t
  simp -implicitDefEqProofs (disch := first | exact nbf rfl | exact nbt rfl | (simp only [ne_eq, reduceCtorEq, not_false_eq_true]; done) | omega | (simp -implicitDefEqProofs only [zN.down] <;> omega) | fail) only [Tab.b24, gg, XOp.kind, reduceCtorEq, V.bool, V.i64, aUn, aBox, aLoad, aArrAddr, aFold, aEqV, chkAdd, effAdd, AOp.kind, chkAll, chkSee, zP.down, zQ.down, zR.down, simprocAttr]
  repeat (first | refine w_fin ?_ | refine w_seq ?_ | refine w_block ?_ | refine w_reg ?_ | refine w_op ?_ | refine w_dop ?_)
  refine (hnx _ (hj.kept (Kept.refl noX σ).bump (fun h => h))).mono ?_
  rintro ⟨_, σ2⟩ ⟨rfl, k2⟩
  dsimp only at k2
  have k2 : Kept noX σ σ2 := (Kept.refl noX σ).bump.trans k2
  have g2 := k2.get _ _ (fun h => h) gg
  generalize tnx L t = T at *
  have w1 : IntKind.i64.wrap (T.n - 1) = T.n - 1 := wrap64 (by omega) (by omega)
  have gb : σ2.bump.get g = some (.cells [.ptr jb 0, .mp o, .sc (.int .i64 br)]) := by rw [St.get_bump]; exact g2
  obtain ⟨l, c, hm⟩ := mi
  have hmb : ∀ σ3, Kept noX σ σ3 → σ3.get o = some (.map (l.map en) c) := fun σ3 k3 => k3.get _ _ (fun h => h) hm
  obtain ⟨f, e, hlk⟩ := xlook l c t
  have hlook := hlk σ2.bump o (hmb _ k2.bump)
  have hl3 := hlk σ2.bump.bump.bump o (hmb _ k2.bump.bump.bump)
  have ha := hab σ2.bump ⟨f, e, 0⟩ ⟨0, T.f, T.e, 0, []⟩
  dsimp only at ha
  by_cases c1 : tabv ⟨f, e, 0⟩ ⟨0, T.f, T.e, 0, []⟩
  · rw [decide_eq_true c1] at ha
    simp -implicitDefEqProofs (disch := first | exact nbf rfl | exact nbt rfl | (simp only [ne_eq, reduceCtorEq, not_false_eq_true]; done) | omega | (simp -implicitDefEqProofs only [zN.down] <;> omega) | fail) only [g2, gb, hlook, ha, hl3, w1, XOp.kind, reduceCtorEq, V.bool, V.i64, aUn, aBox, aLoad, aArrAddr, aFold, aEqV, chkAdd, effAdd, AOp.kind, chkAll, chkSee, zP.down, zQ.down, zR.down, simprocAttr]
    refine ⟨f, e, rfl, ?_, k2.bump.bump.bump⟩
    unfold tabv at c1
    unfold Hi
    dsimp only at c1
    omega
  · rw [decide_eq_false c1] at ha
    simp -implicitDefEqProofs (disch := first | exact nbf rfl | exact nbt rfl | (simp only [ne_eq, reduceCtorEq, not_false_eq_true]; done) | omega | (simp -implicitDefEqProofs only [zN.down] <;> omega) | fail) only [g2, gb, hlook, ha, w1, XOp.kind, reduceCtorEq, V.bool, V.i64, aUn, aBox, aLoad, aArrAddr, aFold, aEqV, chkAdd, effAdd, AOp.kind, chkAll, chkSee, zP.down, zQ.down, zR.down, simprocAttr]
    exact ⟨T.f, T.e, rfl, .inl ⟨rfl, rfl⟩, k2.bump.bump.bump⟩
end Go.Proofs.Ytehdjkikcfeiaaa.jn
namespace Go.Proofs.Ytehdjkikcfeiaaa.jn
open Go.Ab fr dk
set_option maxRecDepth 100000
set_option maxHeartbeats 8000000
set_option linter.unusedSimpArgs false
set_option linter.unusedVariables false

/-- A message. -/
structure Ms where
  k : Int
  fr : Int
  to' : Int
  te : Int
  ix : Int
  lt : Int
  co : Int
  st : Int
  go : Bool
  en : V
  at' : Int
  tot : Int
  dat : List UInt8
  talk : Int
  term : Int
  ep : Int
  seq : Int
  cl : Int
  rq : Int
  op : Int
  er : Int
  le : Int
def mc (m : Ms) : List V := [.sc (.int .u8 m.k), .sc (.int .i64 m.fr), .sc (.int .i64 m.to'), .sc (.int .i64 m.te), .sc (.int .i64 m.ix), .sc (.int .i64 m.lt), .sc (.int .i64 m.co), .sc (.int .i64 m.st), .sc (.bool m.go), m.en, .sc (.int .i64 m.at'), .sc (.int .i64 m.tot), .str m.dat, .sc (.int .i64 m.talk), .sc (.int .i64 m.term), .sc (.int .i64 m.ep), .sc (.int .i64 m.seq), .sc (.int .i64 m.cl), .sc (.int .i64 m.rq), .sc (.int .u8 m.op), .sc (.int .i64 m.er), .sc (.int .i64 m.le)]
def z0 : Ms := ⟨0, 0, 0, 0, 0, 0, 0, 0, false, .sc .nilS, 0, 0, [], 0, 0, 0, 0, 0, 0, 0, 0, 0⟩
def tkm (m : Ms) : Tk := ⟨m.talk, m.term, m.ep, m.seq, m.dat⟩
/-- What comes of it. -/
inductive Ans (m : Ms) (L : List Tk) (M : DM) : DM → List Tk → Int → Ms → Int → Prop
  | same {a : Ms} (h : a.seq = (tnx L m.talk).n - 1) : Ans m L M M L 0 a 0
  | new {M' : DM} {a : Ms} (k : m.k = 9) (f : Fs M' (L ++ [tkm m])) (h : a.seq = m.seq) (h2 : a.er = 0) (h3 : tmay L (tkm m) = 0) : Ans m L M M' (L ++ [tkm m]) 0 a 0
  | off {M' : DM} {a : Ms} (k : m.k = 9) (h3 : tmay L (tkm m) = 0) (f : ∀ keep torn, Fl (M'.crash keep torn) L ∨ Fl (M'.crash keep torn) (L ++ [tkm m])) : Ans m L M M' L 40 a 40

theorem end0_ok (k : Nat) (ys : YlF) (σ : St) : callY Tab.tb (k + 1) ys 35 [.sc .nilP] σ = some (.sc (.int .i64 0), σ) := by
  rw [s_call (af := Tab.b35) rfl (Nat.le_of_ble_eq_true rfl)]
  generalize callY Tab.tb k = cy
  have hn : aEqV σ .ptr (.sc .nilP) (.sc .nilP) = some true := rfl
  simp -implicitDefEqProofs (disch := first | exact nbf rfl | exact nbt rfl | (simp only [ne_eq, reduceCtorEq, not_false_eq_true]; done) | omega | (simp -implicitDefEqProofs only [zN.down] <;> omega) | fail) only [Tab.b35, hn, XOp.kind, reduceCtorEq, V.bool, V.i64, aUn, aBox, aLoad, aArrAddr, aFold, chkAdd, effAdd, AOp.kind, chkAll, chkSee, zP.down, zQ.down, zR.down, simprocAttr]
theorem from0_ok (k : Nat) (ys : YlF) (σ : St) (a : Int) : callY Tab.tb (k + 1) ys 37 [.sc .nilP, .sc (.int .i64 a), .sc (.int .i64 64)] σ = some (.tup [.str [], .sc (.int .i64 0), .sc (.int .i64 1)], σ) := by
  rw [s_call (af := Tab.b37) rfl (Nat.le_of_ble_eq_true rfl)]
  generalize callY Tab.tb k = cy
  have hn : aEqV σ .ptr (.sc .nilP) (.sc .nilP) = some true := rfl
  simp -implicitDefEqProofs (disch := first | exact nbf rfl | exact nbt rfl | (simp only [ne_eq, reduceCtorEq, not_false_eq_true]; done) | omega | (simp -implicitDefEqProofs only [zN.down] <;> omega) | fail) only [Tab.b37, hn, XOp.kind, reduceCtorEq, V.bool, V.i64, aUn, aBox, aLoad, aArrAddr, aFold, chkAdd, effAdd, AOp.kind, chkAll, chkSee, zP.down, zQ.down, zR.down, simprocAttr]

section
variable (g jb d : Nat) (m : Ms) (L : List Tk) (M : DM)
def Does (B : Nat) (σ : St) (r : V × St) : Prop := ∃ a e M' L' jbr, r.1 = .tup [.agg (mc a), .sc (.int .i64 e)] ∧ a.en = .sc .nilS ∧ Ans m L M M' L' jbr a e ∧ GR r.2 g jb d L' jbr 0 ∧ DR r.2 d M' ∧ M'.Ok (B + 2) ∧ Kept (fun o => o = d ∨ o = jb) σ r.2
variable {g jb d m L M}
theorem attach_ok (k : Nat) (ys : YlF) (σ : St) (h : GR σ g jb d L 0 0) (hd : DR σ d M) {B : Nat} (hm : M.Ok B) (hen : Cell1 m.en) :
    W (callY Tab.tb (k + 2) ys 21 [.ptr g 0, .agg (mc m), .sc (.int .i64 ((tnx L m.talk).n - 1)), .sc .nilP] σ) (Does g jb d m L M B σ) := by
  rw [s_call (af := Tab.b21) rfl (Nat.le_of_ble_eq_true rfl)]
  have he := fun σ => end0_ok k ys σ
  generalize callY Tab.tb (k + 1) = cy at he ⊢
  unfold Cell1 at hen
  simp only [mc]
  simp -implicitDefEqProofs (disch := first | exact nbf rfl | exact nbt rfl | (simp only [ne_eq, reduceCtorEq, not_false_eq_true]; done) | omega | (simp -implicitDefEqProofs only [zN.down] <;> omega) | fail) only [Tab.b21, he, hen.1, hen.2, XOp.kind, reduceCtorEq, V.bool, V.i64, aUn, aBox, aLoad, aArrAddr, aFold, aEqV, chkAdd, effAdd, AOp.kind, chkAll, chkSee, zP.down, zQ.down, zR.down, simprocAttr]
  have kb : Kept noX σ σ.bump.bump := (Kept.refl _ _).bump.bump
  exact ⟨{ z0 with seq := (tnx L m.talk).n - 1 }, 0, M, L, 0, rfl, rfl, .same rfl, h.kept0 kb, hd.kept kb (fun h => h), hm.more (by omega), kb.any⟩
theorem pull_ok (k : Nat) (ys : YlF) (σ : St) (h : GR σ g jb d L 0 0) (hd : DR σ d M) {B : Nat} (hm : M.Ok B) (hen : Cell1 m.en) :
    W (callY Tab.tb (k + 2) ys 23 [.ptr g 0, .agg (mc m), .sc (.int .i64 ((tnx L m.talk).n - 1)), .sc .nilP] σ) (Does g jb d m L M B σ) := by
  rw [s_call (af := Tab.b23) rfl (Nat.le_of_ble_eq_true rfl)]
  have he := fun σ => end0_ok k ys σ
  have hf := fun σ a => from0_ok k ys σ a
  generalize callY Tab.tb (k + 1) = cy at he hf ⊢
  unfold Cell1 at hen
  simp only [mc]
  simp -implicitDefEqProofs (disch := first | exact nbf rfl | exact nbt rfl | (simp only [ne_eq, reduceCtorEq, not_false_eq_true]; done) | omega | (simp -implicitDefEqProofs only [zN.down] <;> omega) | fail) only [Tab.b23, he, hf, hen.1, hen.2, XOp.kind, reduceCtorEq, V.bool, V.i64, aUn, aBox, aLoad, aArrAddr, aFold, aEqV, chkAdd, effAdd, AOp.kind, chkAll, chkSee, zP.down, zQ.down, zR.down, simprocAttr]
  have kb : Kept noX σ σ.bump.bump := (Kept.refl _ _).bump.bump
  exact ⟨{ z0 with seq := (tnx L m.talk).n - 1, er := 1 }, 0, M, L, 0, rfl, rfl, .same rfl, h.kept0 kb, hd.kept kb (fun h => h), hm.more (by omega), kb.any⟩
theorem send_ok (k : Nat) (ys : YlF) (σ : St) (h : GR σ g jb d L 0 0) (hd : DR σ d M) {B : Nat} (hm : M.Ok B) (hB : B ≤ 900000) (hen : Cell1 m.en) (hk9 : m.k = 9) (hc : Chain L) (hL : L.length ≤ 1000) (hf : Fs M L) (hne : jb ≠ d ∧ g ≠ d ∧ g ≠ jb) (h1 : 1 ≤ m.talk ∧ m.talk ≤ 1048576) (h2 : 1 ≤ m.term ∧ m.term ≤ 1099511627776) (h3 : 1 ≤ m.ep ∧ m.ep ≤ 1048576) (h5 : ¬ tabv (tnx L m.talk) (tkm m)) (hk : 1000020 ≤ k) :
    W (callY Tab.tb (k + 7) ys 22 [.ptr g 0, .agg (mc m), .sc (.int .i64 ((tnx L m.talk).n - 1)), .sc .nilP] σ) (Does g jb d m L M B σ) := by
  rw [s_call (af := Tab.b22) rfl (Nat.le_of_ble_eq_true rfl)]
  have hadd := fun σ h hd => add_ok (B := B) k ys σ jb d L 0 M (tkm m) h hd hne.1 hm (by omega) (fun x hx => hc.chk hx) (by omega) (by omega)
  generalize callY Tab.tb (k + 6) = cy at hadd ⊢
  have hen' := hen
  unfold Cell1 at hen'
  have hn := chain_nn hc m.talk
  have kb : Kept noX σ σ.bump.bump := (Kept.refl _ _).bump.bump
  have hb := h.kept0 kb
  have hdb := hd.kept kb (fun h => h)
  have hmay := may_next (L := L) hc hL (x := tkm m) h1 h2 h3
  have hres := jadd_res (x := tkm m) hf hc (by omega)
  have hjo := jadd_ok hm L 0 (tkm m)
  simp only [mc]
  by_cases c1 : m.dat.length > 64
  · have d1 : decide ((m.dat.length : Int) > 64) = true := by simp; omega
    simp -implicitDefEqProofs (disch := first | exact nbf rfl | exact nbt rfl | (simp only [ne_eq, reduceCtorEq, not_false_eq_true]; done) | omega | (simp -implicitDefEqProofs only [zN.down] <;> omega) | fail) only [Tab.b22, d1, hen'.1, hen'.2, XOp.kind, reduceCtorEq, V.bool, V.i64, aUn, aBox, aLoad, aArrAddr, aFold, aEqV, chkAdd, effAdd, AOp.kind, chkAll, chkSee, zP.down, zQ.down, zR.down, simprocAttr]
    exact ⟨{ z0 with seq := (tnx L m.talk).n - 1, er := 3 }, 0, M, L, 0, rfl, rfl, .same rfl, hb, hdb, hm.more (by omega), kb.any⟩
  have d1 : decide ((m.dat.length : Int) > 64) = false := by simp; omega
  have w1 : IntKind.i64.wrap ((tnx L m.talk).n - 1 + 1) = (tnx L m.talk).n := by rw [wrap64 (by omega) (by omega)]; omega
  by_cases c2 : m.seq ≥ 1 ∧ m.seq ≤ (tnx L m.talk).n - 1
  · have d2 : decide (m.seq ≥ 1) = true := by simpa using c2.1
    have d3 : decide (m.seq ≤ (tnx L m.talk).n - 1) = true := by simpa using c2.2
    simp -implicitDefEqProofs (disch := first | exact nbf rfl | exact nbt rfl | (simp only [ne_eq, reduceCtorEq, not_false_eq_true]; done) | omega | (simp -implicitDefEqProofs only [zN.down] <;> omega) | fail) only [Tab.b22, d1, d2, d3, hen'.1, hen'.2, XOp.kind, reduceCtorEq, V.bool, V.i64, aUn, aBox, aLoad, aArrAddr, aFold, aEqV, chkAdd, effAdd, AOp.kind, chkAll, chkSee, zP.down, zQ.down, zR.down, simprocAttr]
    exact ⟨{ z0 with seq := (tnx L m.talk).n - 1 }, 0, M, L, 0, rfl, rfl, .same rfl, hb, hdb, hm.more (by omega), kb.any⟩
  have cc : ∃ b, decide (m.seq ≥ 1) = b ∧ (b = true → decide (m.seq ≤ (tnx L m.talk).n - 1) = false) := by
    refine ⟨_, rfl, fun h => ?_⟩
    simp only [decide_eq_true_eq] at h
    simp only [decide_eq_false_iff_not]
    exact fun h2 => c2 ⟨h, h2⟩
  obtain ⟨b, hb1, hb2⟩ := cc
  by_cases c3 : m.seq = (tnx L m.talk).n
  rotate_left
  · have d4 : (m.seq != (tnx L m.talk).n) = true := by simp [c3]
    cases b with
    | true =>
      have hb3 := hb2 rfl
      simp -implicitDefEqProofs (disch := first | exact nbf rfl | exact nbt rfl | (simp only [ne_eq, reduceCtorEq, not_false_eq_true]; done) | omega | (simp -implicitDefEqProofs only [zN.down] <;> omega) | fail) only [Tab.b22, d1, hb1, hb3, w1, d4, hen'.1, hen'.2, XOp.kind, reduceCtorEq, V.bool, V.i64, aUn, aBox, aLoad, aArrAddr, aFold, aEqV, chkAdd, effAdd, AOp.kind, chkAll, chkSee, zP.down, zQ.down, zR.down, simprocAttr]
      exact ⟨{ z0 with seq := (tnx L m.talk).n - 1, er := 221 }, 0, M, L, 0, rfl, rfl, .same rfl, hb, hdb, hm.more (by omega), kb.any⟩
    | false =>
      simp -implicitDefEqProofs (disch := first | exact nbf rfl | exact nbt rfl | (simp only [ne_eq, reduceCtorEq, not_false_eq_true]; done) | omega | (simp -implicitDefEqProofs only [zN.down] <;> omega) | fail) only [Tab.b22, d1, hb1, w1, d4, hen'.1, hen'.2, XOp.kind, reduceCtorEq, V.bool, V.i64, aUn, aBox, aLoad, aArrAddr, aFold, aEqV, chkAdd, effAdd, AOp.kind, chkAll, chkSee, zP.down, zQ.down, zR.down, simprocAttr]
      exact ⟨{ z0 with seq := (tnx L m.talk).n - 1, er := 221 }, 0, M, L, 0, rfl, rfl, .same rfl, hb, hdb, hm.more (by omega), kb.any⟩
  have d4 : (m.seq != (tnx L m.talk).n) = false := by simp [c3]
  have hm0 := hmay (by show m.dat.length ≤ 64; omega) h5 c3
  have d2 : decide (m.seq ≥ 1) = true := by simp; omega
  have d3 : decide (m.seq ≤ (tnx L m.talk).n - 1) = false := by simp; omega
  obtain ⟨o, gg, mi⟩ := hb.g
  have gg0 : σ.get g = some (.cells [.ptr jb 0, .mp o, .sc (.int .i64 0)]) := by rw [St.get_bump, St.get_bump] at gg; exact gg
  have f1 := hadd σ.bump.bump hb.j hdb
  simp only [tkc, tkm] at f1
  simp -implicitDefEqProofs (disch := first | exact nbf rfl | exact nbt rfl | (simp only [ne_eq, reduceCtorEq, not_false_eq_true]; done) | omega | (simp -implicitDefEqProofs only [zN.down] <;> omega) | fail) only [Tab.b22, d1, d2, d3, w1, d4, hen'.1, hen'.2, gg0, XOp.kind, reduceCtorEq, V.bool, V.i64, aUn, aBox, aLoad, aArrAddr, aFold, aEqV, chkAdd, effAdd, AOp.kind, chkAll, chkSee, zP.down, zQ.down, zR.down, simprocAttr]
  repeat (first | refine w_fin ?_ | refine w_seq ?_ | refine w_block ?_ | refine w_reg ?_ | refine w_op ?_ | refine w_dop ?_)
  refine f1.mono ?_
  rintro ⟨_, σ2⟩ ⟨rfl, hj2, hd2, k2⟩
  have hj2 : JR σ2 jb d (jadd M L 0 (tkm m)).2.1 (jadd M L 0 (tkm m)).2.2.1 := hj2
  have hd2 : DR σ2 d (jadd M L 0 (tkm m)).1 := hd2
  have hg2 : ∀ L' jbr, JR σ2 jb d L' jbr → GR σ2 g jb d L' jbr 0 := fun L' jbr hj => by
    refine ⟨⟨o, k2.get _ _ (fun h => by rcases h with h | h; exact hne.2.1 h; exact hne.2.2 h) gg, mi.kept k2 ?_⟩, hj⟩
    rintro (rfl | rfl)
    · obtain ⟨cs, g1, _⟩ := hdb
      obtain ⟨l, c, hm'⟩ := mi
      rw [g1] at hm'; cases hm'
    · obtain ⟨v, g1, _⟩ := hb.j
      obtain ⟨l, c, hm'⟩ := mi
      rw [g1] at hm'; cases hm'
  have kk : Kept (fun o => o = d ∨ o = jb) σ σ2 := kb.any.trans k2
  show W _ _
  have e0 : (jadd M L 0 ⟨m.talk, m.term, m.ep, m.seq, m.dat⟩) = jadd M L 0 (tkm m) := rfl
  rw [e0]
  rcases hres with ⟨e, he, he0, he4⟩ | ⟨M1, he, hf1, _⟩ | ⟨M1, he, _, hcr⟩
  · exfalso
    unfold jadd at he
    rw [if_neg (by simp), if_neg (by simp [hm0])] at he
    split at he
    · rename_i hq
      exact hq (congrArg (fun z : DM × List Tk × Int × Int => z.2.2.1) he)
    · split at he
      · rename_i hq
        exact hq (congrArg (fun z : DM × List Tk × Int × Int => z.2.2.1) he)
      · exact he0 (congrArg (fun z : DM × List Tk × Int × Int => z.2.2.2) he).symm
  · rw [he] at hj2 hd2 hjo ⊢
    simp -implicitDefEqProofs (disch := first | exact nbf rfl | exact nbt rfl | (simp only [ne_eq, reduceCtorEq, not_false_eq_true]; done) | omega | (simp -implicitDefEqProofs only [zN.down] <;> omega) | fail) only [XOp.kind, reduceCtorEq, V.bool, V.i64, aUn, aBox, aLoad, aArrAddr, aFold, aEqV, chkAdd, effAdd, AOp.kind, chkAll, chkSee, zP.down, zQ.down, zR.down, simprocAttr]
    exact ⟨{ z0 with seq := m.seq }, 0, M1, L ++ [tkm m], 0, rfl, rfl, .new hk9 hf1 rfl rfl hm0, hg2 _ _ hj2, hd2, hjo, kk⟩
  · rw [he] at hj2 hd2 hjo ⊢
    simp -implicitDefEqProofs (disch := first | exact nbf rfl | exact nbt rfl | (simp only [ne_eq, reduceCtorEq, not_false_eq_true]; done) | omega | (simp -implicitDefEqProofs only [zN.down] <;> omega) | fail) only [XOp.kind, reduceCtorEq, V.bool, V.i64, aUn, aBox, aLoad, aArrAddr, aFold, aEqV, chkAdd, effAdd, AOp.kind, chkAll, chkSee, zP.down, zQ.down, zR.down, simprocAttr]
    exact ⟨{ z0 with seq := m.seq }, 40, M1, L, 40, rfl, rfl, .off hk9 hm0 hcr, hg2 _ _ hj2, hd2, hjo, kk⟩
end
end Go.Proofs.Ytehdjkikcfeiaaa.jn
namespace Go.Proofs.Ytehdjkikcfeiaaa.jn
open Go.Ab fr dk
set_option maxRecDepth 100000
set_option maxHeartbeats 8000000
set_option linter.unusedSimpArgs false
set_option linter.unusedVariables false

inductive Res (m : Ms) (L : List Tk) (M : DM) : DM → List Tk → Int → Ms → Int → Prop
  | bad {a : Ms} (h : a.er = 0) : Res m L M M L 0 a 2
  | same {a : Ms} (h : a.seq = (tnx L m.talk).n - 1) (h2 : a.er = 0 → ¬ tabv (tnx L m.talk) (tkm m)) : Res m L M M L 0 a 0
  | new {M' : DM} {a : Ms} (k : m.k = 9) (f : Fs M' (L ++ [tkm m])) (h : a.seq = m.seq) (h2 : a.er = 0) (h3 : tmay L (tkm m) = 0) : Res m L M M' (L ++ [tkm m]) 0 a 0
  | off {M' : DM} {a : Ms} (k : m.k = 9) (h3 : tmay L (tkm m) = 0) (f : ∀ keep torn, Fl (M'.crash keep torn) L ∨ Fl (M'.crash keep torn) (L ++ [tkm m])) : Res m L M M' L 40 a 40
def Rg (m : Ms) : Prop := (1 ≤ m.talk ∧ m.talk ≤ 1048576) ∧ (1 ≤ m.term ∧ m.term ≤ 1099511627776) ∧ (1 ≤ m.ep ∧ m.ep ≤ 1048576) ∧ 0 ≤ m.fr ∧ m.fr < 16

theorem do_ok {g jb d : Nat} {m : Ms} {L : List Tk} {M : DM} (k : Nat) (ys : YlF) (σ : St) (h : GR σ g jb d L 0 0) (hd : DR σ d M) {B : Nat} (hm : M.Ok B) (hB : B ≤ 900000) (hen : Cell1 m.en) (hc : Chain L) (hL : L.length ≤ 1000) (hf : Fs M L) (hne : jb ≠ d ∧ g ≠ d ∧ g ≠ jb) (hk : 1000020 ≤ k) :
    W (callY Tab.tb (k + 8) ys 10 [.ptr g 0, .agg (mc m), .sc .nilP] σ) fun r => ∃ a e M' L' jbr, r.1 = .tup [.agg (mc a), .sc (.int .i64 e)] ∧ a.en = .sc .nilS ∧ Res m L M M' L' jbr a e ∧ (e ≠ 40 → GR r.2 g jb d L' jbr 0) ∧ DR r.2 d M' ∧ M'.Ok (B + 2) ∧ Kept (fun o => o = d ∨ o = jb ∨ o = g) σ r.2 := by
  rw [s_call (af := Tab.b10) rfl (Nat.le_of_ble_eq_true rfl)]
  have hri := fun σ h => right_ok (k + 5) ys σ g jb d L 0 0 m.talk h hc hL (by omega)
  have hab := fun σ a x => above_ok (k + 6) ys σ a x
  have hat := fun σ h hd => attach_ok (g := g) (jb := jb) (d := d) (m := m) (L := L) (M := M) (B := B) (k + 5) ys σ h hd hm hen
  have hpu := fun σ h hd => pull_ok (g := g) (jb := jb) (d := d) (m := m) (L := L) (M := M) (B := B) (k + 5) ys σ h hd hm hen
  have hse := fun σ h hd hk9 h1 h2 h3 h5 => send_ok (g := g) (jb := jb) (d := d) (m := m) (L := L) (M := M) (B := B) k ys σ h hd hm hB hen hk9 hc hL hf hne h1 h2 h3 h5 (by omega)
  have hcl := fun σ o h => clonem_ok (k + 6) ys σ o h
  generalize callY Tab.tb (k + 7) = cy at hri hab hat hpu hse hcl ⊢
  have hen' := hen
  unfold Cell1 at hen'
  obtain ⟨o, gg, mi⟩ := h.g
  have kb : Kept noX σ σ.bump.bump := (Kept.refl _ _).bump.bump
  have hb := h.kept0 kb
  have hdb := hd.kept kb (fun h => h)
  have bad : ∃ a e M' L' jbr, V.tup [.agg (mc z0), .sc (.int .i64 2)] = .tup [.agg (mc a), .sc (.int .i64 e)] ∧ a.en = .sc .nilS ∧ Res m L M M' L' jbr a e ∧ (e ≠ 40 → GR σ.bump.bump g jb d L' jbr 0) ∧ DR σ.bump.bump d M' ∧ M'.Ok (B + 2) ∧ Kept (fun o => o = d ∨ o = jb ∨ o = g) σ σ.bump.bump :=
    ⟨z0, 2, M, L, 0, rfl, rfl, .bad rfl, fun _ => hb, hdb, hm.more (by omega), kb.any⟩
  simp only [mc] at bad ⊢
  by_cases c1 : m.talk < 1
  · have d1 : decide (m.talk < 1) = true := by simpa using c1
    simp -implicitDefEqProofs (disch := first | exact nbf rfl | exact nbt rfl | (simp only [ne_eq, reduceCtorEq, not_false_eq_true]; done) | omega | (simp -implicitDefEqProofs only [zN.down] <;> omega) | fail) only [Tab.b10, gg, dk.pnil, d1, hen'.1, hen'.2, XOp.kind, reduceCtorEq, V.bool, V.i64, aUn, aBox, aLoad, aArrAddr, aFold, chkAdd, effAdd, AOp.kind, chkAll, chkSee, zP.down, zQ.down, zR.down, simprocAttr]
    exact bad
  have d1 : decide (m.talk < 1) = false := by simpa using c1
  by_cases c2 : m.talk > 1048576
  · have d2 : decide (m.talk > 1048576) = true := by simpa using c2
    simp -implicitDefEqProofs (disch := first | exact nbf rfl | exact nbt rfl | (simp only [ne_eq, reduceCtorEq, not_false_eq_true]; done) | omega | (simp -implicitDefEqProofs only [zN.down] <;> omega) | fail) only [Tab.b10, gg, dk.pnil, d1, d2, hen'.1, hen'.2, XOp.kind, reduceCtorEq, V.bool, V.i64, aUn, aBox, aLoad, aArrAddr, aFold, chkAdd, effAdd, AOp.kind, chkAll, chkSee, zP.down, zQ.down, zR.down, simprocAttr]
    exact bad
  have d2 : decide (m.talk > 1048576) = false := by simpa using c2
  by_cases c3 : m.term < 1
  · have d3 : decide (m.term < 1) = true := by simpa using c3
    simp -implicitDefEqProofs (disch := first | exact nbf rfl | exact nbt rfl | (simp only [ne_eq, reduceCtorEq, not_false_eq_true]; done) | omega | (simp -implicitDefEqProofs only [zN.down] <;> omega) | fail) only [Tab.b10, gg, dk.pnil, d1, d2, d3, hen'.1, hen'.2, XOp.kind, reduceCtorEq, V.bool, V.i64, aUn, aBox, aLoad, aArrAddr, aFold, chkAdd, effAdd, AOp.kind, chkAll, chkSee, zP.down, zQ.down, zR.down, simprocAttr]
    exact bad
  have d3 : decide (m.term < 1) = false := by simpa using c3
  by_cases c4 : m.term > 1099511627776
  · have d4 : decide (m.term > 1099511627776) = true := by simpa using c4
    simp -implicitDefEqProofs (disch := first | exact nbf rfl | exact nbt rfl | (simp only [ne_eq, reduceCtorEq, not_false_eq_true]; done) | omega | (simp -implicitDefEqProofs only [zN.down] <;> omega) | fail) only [Tab.b10, gg, dk.pnil, d1, d2, d3, d4, hen'.1, hen'.2, XOp.kind, reduceCtorEq, V.bool, V.i64, aUn, aBox, aLoad, aArrAddr, aFold, chkAdd, effAdd, AOp.kind, chkAll, chkSee, zP.down, zQ.down, zR.down, simprocAttr]
    exact bad
  have d4 : decide (m.term > 1099511627776) = false := by simpa using c4
  by_cases c5 : m.ep < 1
  · have d5 : decide (m.ep < 1) = true := by simpa using c5
    simp -implicitDefEqProofs (disch := first | exact nbf rfl | exact nbt rfl | (simp only [ne_eq, reduceCtorEq, not_false_eq_true]; done) | omega | (simp -implicitDefEqProofs only [zN.down] <;> omega) | fail) only [Tab.b10, gg, dk.pnil, d1, d2, d3, d4, d5, hen'.1, hen'.2, XOp.kind, reduceCtorEq, V.bool, V.i64, aUn, aBox, aLoad, aArrAddr, aFold, chkAdd, effAdd, AOp.kind, chkAll, chkSee, zP.down, zQ.down, zR.down, simprocAttr]
    exact bad
  have d5 : decide (m.ep < 1) = false := by simpa using c5
  by_cases c6 : m.ep > 1048576
  · have d6 : decide (m.ep > 1048576) = true := by simpa using c6
    simp -implicitDefEqProofs (disch := first | exact nbf rfl | exact nbt rfl | (simp only [ne_eq, reduceCtorEq, not_false_eq_true]; done) | omega | (simp -implicitDefEqProofs only [zN.down] <;> omega) | fail) only [Tab.b10, gg, dk.pnil, d1, d2, d3, d4, d5, d6, hen'.1, hen'.2, XOp.kind, reduceCtorEq, V.bool, V.i64, aUn, aBox, aLoad, aArrAddr, aFold, chkAdd, effAdd, AOp.kind, chkAll, chkSee, zP.down, zQ.down, zR.down, simprocAttr]
    exact bad
  have d6 : decide (m.ep > 1048576) = false := by simpa using c6
  by_cases c7 : m.fr < 0
  · have d7 : decide (m.fr < 0) = true := by simpa using c7
    simp -implicitDefEqProofs (disch := first | exact nbf rfl | exact nbt rfl | (simp only [ne_eq, reduceCtorEq, not_false_eq_true]; done) | omega | (simp -implicitDefEqProofs only [zN.down] <;> omega) | fail) only [Tab.b10, gg, dk.pnil, d1, d2, d3, d4, d5, d6, d7, hen'.1, hen'.2, XOp.kind, reduceCtorEq, V.bool, V.i64, aUn, aBox, aLoad, aArrAddr, aFold, chkAdd, effAdd, AOp.kind, chkAll, chkSee, zP.down, zQ.down, zR.down, simprocAttr]
    exact bad
  have d7 : decide (m.fr < 0) = false := by simpa using c7
  by_cases c8 : m.fr ≥ 16
  · have d8 : decide (m.fr ≥ 16) = true := by simpa using c8
    simp -implicitDefEqProofs (disch := first | exact nbf rfl | exact nbt rfl | (simp only [ne_eq, reduceCtorEq, not_false_eq_true]; done) | omega | (simp -implicitDefEqProofs only [zN.down] <;> omega) | fail) only [Tab.b10, gg, dk.pnil, d1, d2, d3, d4, d5, d6, d7, d8, hen'.1, hen'.2, XOp.kind, reduceCtorEq, V.bool, V.i64, aUn, aBox, aLoad, aArrAddr, aFold, chkAdd, effAdd, AOp.kind, chkAll, chkSee, zP.down, zQ.down, zR.down, simprocAttr]
    exact bad
  have d8 : decide (m.fr ≥ 16) = false := by simpa using c8
  by_cases ck : m.k = 7 ∨ m.k = 9 ∨ m.k = 11
  rotate_left
  · have e7 : (m.k == 7) = false := by simp; omega
    have e9 : (m.k == 9) = false := by simp; omega
    have e11 : (m.k == 11) = false := by simp; omega
    simp -implicitDefEqProofs (disch := first | exact nbf rfl | exact nbt rfl | (simp only [ne_eq, reduceCtorEq, not_false_eq_true]; done) | omega | (simp -implicitDefEqProofs only [zN.down] <;> omega) | fail) only [Tab.b10, gg, dk.pnil, d1, d2, d3, d4, d5, d6, d7, d8, e7, e9, e11, hen'.1, hen'.2, XOp.kind, reduceCtorEq, V.bool, V.i64, aUn, aBox, aLoad, aArrAddr, aFold, chkAdd, effAdd, AOp.kind, chkAll, chkSee, zP.down, zQ.down, zR.down, simprocAttr]
    exact bad
  clear bad
  simp -implicitDefEqProofs (disch := first | exact nbf rfl | exact nbt rfl | (simp only [ne_eq, reduceCtorEq, not_false_eq_true]; done) | omega | (simp -implicitDefEqProofs only [zN.down] <;> omega) | fail) only [Tab.b10, gg, dk.pnil, d1, d2, d3, d4, d5, d6, d7, d8, hen'.1, hen'.2, XOp.kind, reduceCtorEq, V.bool, V.i64, aUn, aBox, aLoad, aArrAddr, aFold, chkAdd, effAdd, AOp.kind, chkAll, chkSee, zP.down, zQ.down, zR.down, simprocAttr]
  refine w_fin (w_seq (w_block ?_))
  have hbd : ∀ f σ, XOp.run σ (.mkbound f 1) [.ptr g 0] = some (.fn (.func f) [.ptr g 0] [], σ) := fun _ _ => rfl
  refine W.mono (Q := fun r => ∃ (ρ : Env) (f : FuncId), r = ((.normal : Ex), ρ, σ.bump.bump) ∧ ((m.k = 7 ∧ f = 21) ∨ (m.k = 9 ∧ f = 22) ∨ (m.k = 11 ∧ f = 23)) ∧ ρ 0 = .ptr g 0 ∧ ρ 2 = .sc .nilP ∧ ρ 4 = .agg (mc m) ∧ ρ 6 = .agg (mc z0) ∧ ρ 8 = .fn (.func f) [.ptr g 0] []) ?_ ?_
  · rcases ck with ck | ck | ck
    · have e7 : (m.k == 7) = true := by simp; omega
      simp -implicitDefEqProofs (disch := first | exact nbf rfl | exact nbt rfl | (simp only [ne_eq, reduceCtorEq, not_false_eq_true]; done) | omega | (simp -implicitDefEqProofs only [zN.down] <;> omega) | fail) only [e7, hbd, XOp.kind, reduceCtorEq, V.bool, V.i64, aUn, aBox, aLoad, aArrAddr, aFold, aEqV, chkAdd, effAdd, AOp.kind, chkAll, chkSee, zP.down, zQ.down, zR.down, simprocAttr]
      refine ⟨_, 21, rfl, .inl ⟨ck, rfl⟩, ?_, ?_, ?_, ?_, ?_⟩
      all_goals ((try simp only [mc, z0]); simp -implicitDefEqProofs (disch := first | exact nbf rfl | exact nbt rfl | (simp only [ne_eq, reduceCtorEq, not_false_eq_true]; done) | omega | (simp -implicitDefEqProofs only [zN.down] <;> omega) | fail) only [XOp.kind, reduceCtorEq, V.bool, V.i64, aUn, aBox, aLoad, aArrAddr, aFold, aEqV, chkAdd, effAdd, AOp.kind, chkAll, chkSee, zP.down, zQ.down, zR.down, simprocAttr]; done)
    · have e7 : (m.k == 7) = false := by simp; omega
      have e9 : (m.k == 9) = true := by simp; omega
      simp -implicitDefEqProofs (disch := first | exact nbf rfl | exact nbt rfl | (simp only [ne_eq, reduceCtorEq, not_false_eq_true]; done) | omega | (simp -implicitDefEqProofs only [zN.down] <;> omega) | fail) only [e7, e9, hbd, XOp.kind, reduceCtorEq, V.bool, V.i64, aUn, aBox, aLoad, aArrAddr, aFold, aEqV, chkAdd, effAdd, AOp.kind, chkAll, chkSee, zP.down, zQ.down, zR.down, simprocAttr]
      refine ⟨_, 22, rfl, .inr (.inl ⟨ck, rfl⟩), ?_, ?_, ?_, ?_, ?_⟩
      all_goals ((try simp only [mc, z0]); simp -implicitDefEqProofs (disch := first | exact nbf rfl | exact nbt rfl | (simp only [ne_eq, reduceCtorEq, not_false_eq_true]; done) | omega | (simp -implicitDefEqProofs only [zN.down] <;> omega) | fail) only [XOp.kind, reduceCtorEq, V.bool, V.i64, aUn, aBox, aLoad, aArrAddr, aFold, aEqV, chkAdd, effAdd, AOp.kind, chkAll, chkSee, zP.down, zQ.down, zR.down, simprocAttr]; done)
    · have e7 : (m.k == 7) = false := by simp; omega
      have e9 : (m.k == 9) = false := by simp; omega
      have e11 : (m.k == 11) = true := by simp; omega
      simp -implicitDefEqProofs (disch := first | exact nbf rfl | exact nbt rfl | (simp only [ne_eq, reduceCtorEq, not_false_eq_true]; done) | omega | (simp -implicitDefEqProofs only [zN.down] <;> omega) | fail) only [e7, e9, e11, hbd, XOp.kind, reduceCtorEq, V.bool, V.i64, aUn, aBox, aLoad, aArrAddr, aFold, aEqV, chkAdd, effAdd, AOp.kind, chkAll, chkSee, zP.down, zQ.down, zR.down, simprocAttr]
      refine ⟨_, 23, rfl, .inr (.inr ⟨ck, rfl⟩), ?_, ?_, ?_, ?_, ?_⟩
      all_goals ((try simp only [mc, z0]); simp -implicitDefEqProofs (disch := first | exact nbf rfl | exact nbt rfl | (simp only [ne_eq, reduceCtorEq, not_false_eq_true]; done) | omega | (simp -implicitDefEqProofs only [zN.down] <;> omega) | fail) only [XOp.kind, reduceCtorEq, V.bool, V.i64, aUn, aBox, aLoad, aArrAddr, aFold, aEqV, chkAdd, effAdd, AOp.kind, chkAll, chkSee, zP.down, zQ.down, zR.down, simprocAttr]; done)
  rintro _ ⟨ρ, f0, rfl, hf0, e0, e2, e4, e6, e8⟩
  have hdoes : ∀ σ', GR σ' g jb d L 0 0 → DR σ' d M → ¬ tabv (tnx L m.talk) (tkm m) → W (cy ys f0 [.ptr g 0, .agg (mc m), .sc (.int .i64 ((tnx L m.talk).n - 1)), .sc .nilP] σ') (Does g jb d m L M B σ') := by
    intro σ' h1 h2 h3
    rcases hf0 with ⟨_, rfl⟩ | ⟨hk9, rfl⟩ | ⟨_, rfl⟩
    · exact hat σ' h1 h2
    · exact hse σ' h1 h2 hk9 (by omega) (by omega) (by omega) h3
    · exact hpu σ' h1 h2
  clear hf0 ck hat hpu hse
  simp only [mc, z0] at e4 e6
  simp -implicitDefEqProofs (disch := first | exact nbf rfl | exact nbt rfl | (simp only [ne_eq, reduceCtorEq, not_false_eq_true]; done) | omega | (simp -implicitDefEqProofs only [zN.down] <;> omega) | fail) only [e0, e4, XOp.kind, reduceCtorEq, V.bool, V.i64, aUn, aBox, aLoad, aArrAddr, aFold, aEqV, chkAdd, effAdd, AOp.kind, chkAll, chkSee, zP.down, zQ.down, zR.down, simprocAttr]
  repeat (first | refine w_fin ?_ | refine w_seq ?_ | refine w_block ?_ | refine w_reg ?_ | refine w_op ?_ | refine w_dop ?_)
  refine (hri _ hb).mono ?_
  rintro ⟨_, σ2⟩ ⟨hf', he', rfl, hhi, k2⟩
  dsimp only at k2
  have k2 := kb.trans k2
  generalize hT : tnx L m.talk = T at *
  generalize hK : IntKind.u8.wrap (m.k + 1) = K at *
  have kbb : Kept noX σ σ2.bump.bump := k2.bump.bump
  by_cases cf : tabv ⟨hf', he', 0⟩ (tkm m)
  · have cf' : decide (tabv ⟨hf', he', 0⟩ ⟨m.talk, m.term, m.ep, m.seq, m.dat⟩) = true := decide_eq_true cf
    have ha : ∀ σ, cy ys 14 [.agg [.sc (.int .i64 hf'), .sc (.int .i64 he')], .agg [.sc (.int .i64 m.term), .sc (.int .i64 m.ep)]] σ = some (.sc (.bool true), σ.bump.bump) := fun σ => by
      have := hab σ ⟨hf', he', 0⟩ (tkm m)
      rw [decide_eq_true cf] at this
      exact this
    simp -implicitDefEqProofs (disch := first | exact nbf rfl | exact nbt rfl | (simp only [ne_eq, reduceCtorEq, not_false_eq_true]; done) | omega | (simp -implicitDefEqProofs only [zN.down] <;> omega) | fail) only [e0, e2, e4, e6, hK, ha, hen'.1, hen'.2, XOp.kind, reduceCtorEq, V.bool, V.i64, aUn, aBox, aLoad, aArrAddr, aFold, aEqV, chkAdd, effAdd, AOp.kind, chkAll, chkSee, zP.down, zQ.down, zR.down, simprocAttr]
    have kz : Kept noX σ σ2.bump.bump.bump.bump := kbb.bump.bump
    exact ⟨{ z0 with k := K, fr := 3, to' := m.fr, talk := m.talk, term := hf', ep := he', seq := T.n - 1, er := 220 }, 0, M, L, 0, rfl, rfl, .same (by rw [hT]) (fun h => by cases h), fun _ => h.kept0 kz, hd.kept kz (fun h => h), hm.more (by omega), kz.any⟩
  have ha : ∀ σ, cy ys 14 [.agg [.sc (.int .i64 hf'), .sc (.int .i64 he')], .agg [.sc (.int .i64 m.term), .sc (.int .i64 m.ep)]] σ = some (.sc (.bool false), σ.bump.bump) := fun σ => by
      have := hab σ ⟨hf', he', 0⟩ (tkm m)
      rw [decide_eq_false cf] at this
      exact this
  have nT : ¬ tabv T (tkm m) := by
    unfold tabv at cf ⊢
    unfold Hi at hhi
    dsimp only [tkm] at cf ⊢
    omega
  have kz : Kept noX σ σ2.bump.bump.bump.bump := kbb.bump.bump
  have hz := h.kept0 kz
  have hdz := hd.kept kz (fun h => h)
  have f1 := hdoes _ hz hdz nT
  unfold Does at f1
  simp only [mc] at f1
  simp -implicitDefEqProofs (disch := first | exact nbf rfl | exact nbt rfl | (simp only [ne_eq, reduceCtorEq, not_false_eq_true]; done) | omega | (simp -implicitDefEqProofs only [zN.down] <;> omega) | fail) only [e0, e2, e4, e6, e8, hK, ha, hen'.1, hen'.2, XOp.kind, reduceCtorEq, V.bool, V.i64, aUn, aBox, aLoad, aArrAddr, aFold, aEqV, chkAdd, effAdd, AOp.kind, chkAll, chkSee, zP.down, zQ.down, zR.down, simprocAttr]
  repeat (first | refine w_fin ?_ | refine w_seq ?_ | refine w_block ?_ | refine w_reg ?_ | refine w_op ?_ | refine w_dop ?_)
  refine f1.mono ?_
  rintro ⟨_, σ5⟩ ⟨a, e, M', L', jbr, rfl, hae, hans, hg5, hd5, hok5, k5⟩
  dsimp only at hg5 hd5 k5
  have k5 : Kept (fun o => o = d ∨ o = jb ∨ o = g) σ σ5 := kz.any.trans (k5.sub fun o h => by rcases h with h | h; exact .inl h; exact .inr (.inl h))
  obtain ⟨o5, g5, m5⟩ := hg5.g
  have lg5 := St.get_lt g5
  by_cases ce : e = 0
  rotate_left
  · have de : (e != 0) = true := by simpa using ce
    have g5b : σ5.bump.get g = some (.cells [.ptr jb 0, .mp o5, .sc (.int .i64 0)]) := by rw [St.get_bump]; exact g5
    simp -implicitDefEqProofs (disch := first | exact nbf rfl | exact nbt rfl | (simp only [ne_eq, reduceCtorEq, not_false_eq_true]; done) | omega | (simp -implicitDefEqProofs only [zN.down] <;> omega) | fail) only [e0, e6, hae, de, g5, XOp.kind, reduceCtorEq, V.bool, V.i64, aUn, aBox, aLoad, aArrAddr, aFold, aEqV, chkAdd, effAdd, AOp.kind, chkAll, chkSee, zP.down, zQ.down, zR.down, simprocAttr]
    refine ⟨z0, e, M', L', jbr, rfl, rfl, ?_, ?_, ?_, hok5, ?_⟩
    · cases hans with
      | same => exact absurd rfl ce
      | new => exact absurd rfl ce
      | off k9 h3 hcr => exact .off k9 h3 hcr
    · intro h40
      cases hans with
      | same => exact absurd rfl ce
      | new => exact absurd rfl ce
      | off k9 h3 hcr => exact absurd rfl h40
    · exact (hd5.kept (Kept.refl noX σ5).bump (fun h => h)).kept (X := (· = g)) (Kept.put (X := (· = g)) (Kept.refl _ _) (.inl rfl) (by simp; omega) _) (fun h => hne.2.1 h.symm)
    · exact (k5.bump).put (.inl (.inr (.inr rfl))) (by simp; omega) _
  · have de : (e != 0) = false := by simp [ce]
    have g5b : σ5.bump.get g = some (.cells [.ptr jb 0, .mp o5, .sc (.int .i64 0)]) := by rw [St.get_bump]; exact g5
    have m5b : MI σ5.bump o5 := m5.kept (Kept.refl noX σ5).bump (fun h => h)
    simp -implicitDefEqProofs (disch := first | exact nbf rfl | exact nbt rfl | (simp only [ne_eq, reduceCtorEq, not_false_eq_true]; done) | omega | (simp -implicitDefEqProofs only [zN.down] <;> omega) | fail) only [e0, e6, hae, de, g5, g5b, XOp.kind, reduceCtorEq, V.bool, V.i64, aUn, aBox, aLoad, aArrAddr, aFold, aEqV, chkAdd, effAdd, AOp.kind, chkAll, chkSee, zP.down, zQ.down, zR.down, simprocAttr]
    repeat (first | refine w_fin ?_ | refine w_seq ?_ | refine w_block ?_ | refine w_reg ?_ | refine w_op ?_ | refine w_dop ?_)
    refine (hcl _ o5 m5b).mono ?_
    rintro ⟨_, σ6⟩ ⟨rfl, m6, k6⟩
    dsimp only at m6 k6
    have n6 : σ5.bump.n = σ5.n + 1 := by simp
    rw [n6] at m6
    have k56 : Kept noX σ5 σ6 := (Kept.refl noX σ5).bump.trans k6
    have g6 := k56.get _ _ (fun h => h) g5
    have lg6 := St.get_lt g6
    have hgo : σ5.n + 1 ≠ g := by omega
    have m7 : MI (σ6.put g (some (.cells [.ptr jb 0, .mp (σ5.n + 1), .sc (.int .i64 0)]))) (σ5.n + 1) := m6.kept (X := (· = g)) (Kept.put (X := (· = g)) (Kept.refl _ _) (.inl rfl) lg6 _) hgo
    have g7 : (σ6.put g (some (.cells [.ptr jb 0, .mp (σ5.n + 1), .sc (.int .i64 0)]))).get g = some (.cells [.ptr jb 0, .mp (σ5.n + 1), .sc (.int .i64 0)]) := get_put_self g6
    have k7 : Kept (· = g) σ6 (σ6.put g (some (.cells [.ptr jb 0, .mp (σ5.n + 1), .sc (.int .i64 0)]))) := Kept.put (X := (· = g)) (Kept.refl _ _) (.inl rfl) lg6 _
    obtain ⟨σ8, hx8, m8, k8⟩ := xupd m7 m.talk m.term m.ep
    simp -implicitDefEqProofs (disch := first | exact nbf rfl | exact nbt rfl | (simp only [ne_eq, reduceCtorEq, not_false_eq_true]; done) | omega | (simp -implicitDefEqProofs only [zN.down] <;> omega) | fail) only [n6, e0, g6, XOp.kind, reduceCtorEq, V.bool, V.i64, aUn, aBox, aLoad, aArrAddr, aFold, aEqV, chkAdd, effAdd, AOp.kind, chkAll, chkSee, zP.down, zQ.down, zR.down, simprocAttr]
    generalize hσ7 : σ6.put g (some (.cells [.ptr jb 0, .mp (σ5.n + 1), .sc (.int .i64 0)])) = σ7 at *
    simp -implicitDefEqProofs (disch := first | exact nbf rfl | exact nbt rfl | (simp only [ne_eq, reduceCtorEq, not_false_eq_true]; done) | omega | (simp -implicitDefEqProofs only [zN.down] <;> omega) | fail) only [e0, e4, e6, hae, g7, hx8, XOp.kind, reduceCtorEq, V.bool, V.i64, aUn, aBox, aLoad, aArrAddr, aFold, aEqV, chkAdd, effAdd, AOp.kind, chkAll, chkSee, zP.down, zQ.down, zR.down, simprocAttr]
    have k57 : Kept (fun o => o = g) σ5 σ7 := (k56.any (X := fun o => o = g)).trans k7
    have k58 : Kept (fun o => o = g) σ5 σ8 := ⟨Nat.le_trans k57.n k8.n, fun o z hx ho => k8.get o z (by have := St.get_lt ho; omega) (k57.get o z hx ho)⟩
    have hgr : GR σ8 g jb d L' jbr 0 := ⟨⟨σ5.n + 1, k8.get _ _ (fun h => hgo h.symm) g7, m8⟩, hg5.j.kept k58 (fun h => hne.2.2 h.symm)⟩
    refine ⟨{ z0 with k := K, fr := 3, to' := m.fr, talk := m.talk, term := m.term, ep := m.ep, seq := a.seq, at' := a.at', tot := a.tot, dat := a.dat, er := a.er }, 0, M', L', jbr, rfl, rfl, ?_, fun _ => hgr, hd5.kept k58 (fun h => hne.2.1 h.symm), hok5, k5.trans (k58.sub fun o h => .inr (.inr h))⟩
    cases hans with
    | same hs => exact .same hs (fun _ => by rw [hT]; exact nT)
    | new k9 f h1 h2 h3 => exact .new k9 f h1 h2 h3
    | off k9 h3 hcr => exact absurd ce (by decide)
end Go.Proofs.Ytehdjkikcfeiaaa.jn
