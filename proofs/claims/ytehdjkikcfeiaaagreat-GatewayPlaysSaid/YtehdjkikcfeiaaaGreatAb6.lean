/- Slices: parts, appending, making. -/
import Derived.Test.YtehdjkikcfeiaaaGreatAb5
import Derived.Lib.Strings
namespace Go.Ab
open Go.RowKit
section
variable {P : Program} {G : Gh} {σ : St} {w : World}
def OptR (G : Gh) (w : World) : Option V → Option Value → Prop
 | none, v => v = none
 | some x, v => ∃ u, v = some u ∧ Rv G w x u
def aBnd (x : Option V) (dflt y : Nat) : Option Nat :=
 match x with
 | none => some dflt
 | some (.sc (.int _ n)) => if 0 ≤ n ∧ n ≤ y then some n.toNat else none
 | some _ => none
def aBounds (len : Nat) (lo hi mx : Option V) : Option (Nat × Nat × Option Nat) :=
 match mx with
 | none => (aBnd hi len len).bind fun h => (aBnd lo 0 h).map fun l => (l, h, none)
 | some m =>
  match hi with
  | none => none
  | some h => (aBnd (some m) 0 len).bind fun m' => (aBnd (some h) 0 m').bind fun h' => (aBnd lo 0 h').map fun l => (l, h', some m')
theorem bnd_ok {x : Option V} {v : Option Value} {dflt y r : Nat} (hx : OptR G w x v) (h : aBnd x dflt y = some r) :
  (v = none ∧ r = dflt) ∨ ∃ k m, v = some (.int k m) ∧ 0 ≤ m ∧ m ≤ y ∧ m.toNat = r := by
 unfold aBnd at h
 split at h
 · cases h; exact Or.inl ⟨hx, rfl⟩
 · split at h
   · rename_i hc
     cases h
     obtain ⟨u, rfl, hu⟩ := hx
     have := scv hu; subst this
     exact Or.inr ⟨_, _, rfl, hc.1, hc.2, rfl⟩
   · cases h
 · cases h
theorem run_sliceBound (k : IntKind) (m : Int) (y : Nat) (c : BoundsCode) (h0 : 0 ≤ m) (h1 : m ≤ y) : (Instr.sliceBound (.int k m) y c).run P w = .ok m.toNat w := by
 simp [Instr.sliceBound, asIntOf, h0, h1]
theorem bounds_ok {lo hi mx : Option V} {clo chi cmx : Option Value} {len cap l h : Nat} {m : Option Nat} (b : Bool) (h1 : OptR G w lo clo) (h2 : OptR G w hi chi) (h3 : OptR G w mx cmx) (hlen : len ≤ cap)
  (hb : aBounds len lo hi mx = some (l, h, m)) : (Instr.sliceBounds b len cap clo chi cmx).run P w = .ok (l, h, m.getD cap) w ∧ l ≤ h ∧ h ≤ len ∧ (∀ x, m = some x → h ≤ x ∧ x ≤ len) := by
 unfold aBounds at hb
 split at hb
 · rw [Option.bind_eq_some_iff] at hb
   obtain ⟨h', e1, e2⟩ := hb
   rw [Option.map_eq_some_iff] at e2
   obtain ⟨l', e2, e3⟩ := e2
   cases e3
   have h3' : cmx = none := h3
   subst h3'
   rcases bnd_ok h2 e1 with ⟨rfl, rfl⟩ | ⟨k, n, rfl, n0, n1, rfl⟩ <;> rcases bnd_ok h1 e2 with ⟨rfl, rfl⟩ | ⟨k', n', rfl, n0', n1', rfl⟩
   · refine ⟨by simp [Instr.sliceBounds], by omega, by omega, by simp⟩
   · refine ⟨?_, by omega, by omega, by simp⟩
     simp [Instr.sliceBounds, run_sliceBound, n0', n1']
   · refine ⟨?_, by omega, by omega, by simp⟩
     have hc : n ≤ (cap : Int) := by omega
     simp [Instr.sliceBounds, run_sliceBound, n0, hc]
   · refine ⟨?_, by omega, by omega, by simp⟩
     have hc : n ≤ (cap : Int) := by omega
     have r1 := fun c => run_sliceBound (P := P) (w := w) k' n' n.toNat c n0' n1'
     simp [Instr.sliceBounds, run_sliceBound k n cap _ n0 hc, r1]
 · rename_i mv
   split at hb
   · cases hb
   · rename_i hv
     rw [Option.bind_eq_some_iff] at hb
     obtain ⟨m', e0, hb⟩ := hb
     rw [Option.bind_eq_some_iff] at hb
     obtain ⟨h', e1, e2⟩ := hb
     rw [Option.map_eq_some_iff] at e2
     obtain ⟨l', e2, e3⟩ := e2
     cases e3
     rcases bnd_ok h3 e0 with ⟨rfl, _⟩ | ⟨km, nm, rfl, nm0, nm1, rfl⟩
     · obtain ⟨u, hu, _⟩ := h3; cases hu
     rcases bnd_ok h2 e1 with ⟨rfl, _⟩ | ⟨k, n, rfl, n0, n1, rfl⟩
     · obtain ⟨u, hu, _⟩ := h2; cases hu
     have hcm : nm ≤ (cap : Int) := by omega
     rcases bnd_ok h1 e2 with ⟨rfl, rfl⟩ | ⟨k', n', rfl, n0', n1', rfl⟩
     · refine ⟨?_, by omega, by omega, by simp; omega⟩
       have r1 := fun c => run_sliceBound (P := P) (w := w) k n nm.toNat c n0 n1
       simp [Instr.sliceBounds, run_sliceBound km nm cap _ nm0 hcm, r1]
     · refine ⟨?_, by omega, by omega, by simp; omega⟩
       have r1 := fun c => run_sliceBound (P := P) (w := w) k n nm.toNat c n0 n1
       have r2 := fun c => run_sliceBound (P := P) (w := w) k' n' n.toNat c n0' n1'
       simp [Instr.sliceBounds, run_sliceBound km nm cap _ nm0 hcm, r1, r2]
def aSlice (a : V) (lo hi mx : Option V) : Option V :=
 match a with
 | .str s => (aBounds s.length lo hi none).bind fun (l, h, _) => if mx.isSome then none else some (.str ((s.drop l).take (h - l)))
 | .vs own sz len cells => (aBounds len lo hi mx).map fun (l, h, m) =>
   .vs (match m with
    | some m => if m = h then .exact else .ro
    | none => if h = len then (match own with | .exact => .exact | .tok t => if l = 0 then .tok t else .ro | .ro => .ro) else .ro)
    sz (h - l) ((cells.drop (l * sz)).take ((h - l) * sz))
 | .os o off sz len lim => (aBounds len lo hi mx).map fun (l, h, m) =>
   match m, lim with
   | some m, _ => if m = l then .vs .exact sz 0 [] else .os o (off + l * sz) sz (h - l) (some (m - l))
   | none, some c => if c = l then .vs .exact sz 0 [] else .os o (off + l * sz) sz (h - l) (some (c - l))
   | none, none => if l < len then .os o (off + l * sz) sz (h - l) none else .vs .ro sz 0 []
 | .sc .nilS => (aBounds 0 lo hi mx).map fun _ => .nilS
 | .sc (.oddS a) => (aBounds 0 lo hi mx).map fun _ => .sc (.oddS a)
 | _ => none
theorem sliceStr_ok {a x : V} {va : Value} {lo hi : Option V} {clo chi : Option Value} {t : TypeId} {s : List UInt8} (hs : Rs G σ w) (ht : P.underlying t = some .string) (ha : Rv G w (.str s) va)
  (h1 : OptR G w lo clo) (h2 : OptR G w hi chi) (h : aSlice (.str s) lo hi none = some x) (_ : a = .str s) : Does P (Instr.sliceAt t va clo chi none) G w σ x := by
 simp only [aSlice, Option.bind_eq_some_iff] at h
 obtain ⟨⟨l, h', m⟩, e1, e2⟩ := h
 simp at e2; subst e2
 obtain ⟨u, rfl, rfl⟩ := str_of ha
 have hb := bounds_ok (P := P) (cap := u.size) false h1 h2 (show OptR G w none none from rfl) (by rw [size_eq]; exact Nat.le_refl _) e1
 rw [← size_eq] at hb
 obtain ⟨e3, e4, e5, _⟩ := hb
 refine Does.pure (v := .string (u.extract l h')) hs ?_ (Rv.str ?_)
 · simp only [Instr.sliceAt, Sem.run_bind, run_underlying ht, Result.andThen_ok, Instr.slice]
   simp [e3]
 · rw [Lib.extract_data]
theorem run_slice_slice {t e : TypeId} {ei : TypeInfo} (ht : P.underlying t = some (.slice e)) (hi : P.info? e = some ei) {a : Option Addr} {len cap l h m : Nat} {clo chi cmx : Option Value}
  (hb : (Instr.sliceBounds true len cap clo chi cmx).run P w = .ok (l, h, m) w) :
  (Instr.sliceAt t (.slice a len cap) clo chi cmx).run P w = .ok (.slice (if m = l then a else a.map (·.add (l * ei.size))) (h - l) (m - l)) w := by
 simp only [Instr.sliceAt, Sem.run_bind, run_underlying ht, Result.andThen_ok, Instr.slice, hb, sizeOf, typeInfo, Sem.run_pure]
 simp [hi]
theorem sliceSl_ok {a x : V} {va : Value} {lo hi mx : Option V} {clo chi cmx : Option Value} {t e : TypeId} {ei : TypeInfo} (hs : Rs G σ w) (ht : P.underlying t = some (.slice e)) (hi' : P.info? e = some ei) (hz : aSz a = ei.size ∨ a = .nilS ∨ ∃ c, a = .sc (.oddS c))
  (ha : Rv G w a va) (h1 : OptR G w lo clo) (h2 : OptR G w hi chi) (h3 : OptR G w mx cmx) (h : aSlice a lo hi mx = some x) (hstr : ∀ s, a ≠ .str s) : Does P (Instr.sliceAt t va clo chi cmx) G w σ x := by
 unfold aSlice at h
 split at h
 · exact absurd rfl (hstr _)
 · rename_i own sz len cells
   have hz' : sz = ei.size := by rcases hz with hz | hz | ⟨_, hz⟩; · exact hz
                                 · cases hz
                                 · cases hz
   subst hz'
   rw [Option.map_eq_some_iff] at h
   obtain ⟨⟨l, h', m⟩, e1, rfl⟩ := h
   simp only [Rv] at ha
   obtain ⟨b, s, cap, vals, rfl, k2, k3, k4, k5, k6⟩ := ha
   obtain ⟨e2, e3, e4, e5⟩ := bounds_ok (P := P) (cap := cap) true h1 h2 h3 k3 e1
   refine Does.pure hs (run_slice_slice ht hi' e2) ?_
   have hvl := k5.length
   have hmul : (h' - l) * ei.size + l * ei.size ≤ len * ei.size := by rw [← Nat.add_mul]; exact Nat.mul_le_mul_right _ (by omega)
   have hcl : (List.take ((h' - l) * ei.size) (List.drop (l * ei.size) cells)).length = (h' - l) * ei.size := by
    rw [List.length_take, List.length_drop, k2]; omega
   have hrow : Row G w b (s + l * ei.size) ((vals.drop (l * ei.size)).take ((h' - l) * ei.size)) := by
    refine ⟨fun hne => ?_, fun j v hj => ?_⟩
    · have hv : vals ≠ [] := by rintro rfl; simp at hne
      have := k4.1 hv
      rw [List.length_take, List.length_drop]; omega
    · rw [Nat.add_assoc]
      refine k4.2 _ v ?_
      rw [List.getElem?_take] at hj
      split at hj
      · rwa [List.getElem?_drop] at hj
      · cases hj
   by_cases hml : m.getD cap = l
   · -- the capacity is none: the place does not move
     have hlh : h' = l := by
      cases m with
      | none => simp at hml; omega
      | some m => have := e5 m rfl; simp at hml; omega
     subst hlh
     rw [if_pos hml]
     simp only [Nat.sub_self, Nat.zero_mul, List.take_zero]
     simp only [Rv]
     refine ⟨b, s, m.getD cap - h', [], rfl, by simp, Nat.zero_le _, ⟨fun hne => absurd rfl hne, fun j v hj => by simp at hj⟩, RvL.nil, ?_⟩
     cases m with
     | some m =>
      simp only [Option.getD_some] at hml; subst hml
      simp [OwnOk]
     | none =>
      simp only [Option.getD_none] at hml; subst hml
      simp only
      split
      · cases own with
        | exact => simp [OwnOk]
        | ro => simp [OwnOk]
        | tok t =>
         simp only
         split
         · rename_i hl0
           subst hl0
           have hc0 : cells.length = 0 := by rw [k2, show len = 0 by omega]; simp
           simp only [OwnOk] at k6 ⊢
           simpa [hc0] using k6
         · simp [OwnOk]
      · simp [OwnOk]
   · rw [if_neg hml]
     simp only [Option.map_some, add_none]
     simp only [Rv]
     have hle : h' ≤ m.getD cap := by
      cases m with
      | none => simp; omega
      | some m => have := e5 m rfl; simp; omega
     refine ⟨b, s + l * ei.size, m.getD cap - l, _, rfl, hcl, by omega, hrow, (k5.drop _).take _, ?_⟩
     cases m with
     | some m =>
      simp only
      split
      · rename_i hmh; subst hmh; simp [OwnOk]
      · simp [OwnOk]
     | none =>
      simp only
      split
      · rename_i hhl
        subst hhl
        cases own with
        | exact => simp only [OwnOk] at k6 ⊢; simp only [Option.getD_none]; omega
        | ro => simp [OwnOk]
        | tok t =>
         simp only
         split
         · rename_i hl0
           subst hl0
           simp only [OwnOk] at k6 ⊢
           simp only [Nat.zero_mul, List.drop_zero, Nat.sub_zero, Nat.add_zero, Option.getD_none]
           rw [List.take_of_length_le (by omega)]
           exact k6
         · simp [OwnOk]
      · simp [OwnOk]
 · rename_i o off sz len lim
   have hz' : sz = ei.size := by rcases hz with hz | hz | ⟨_, hz⟩; · exact hz
                                 · cases hz
                                 · cases hz
   subst hz'
   rw [Option.map_eq_some_iff] at h
   obtain ⟨⟨l, h', m⟩, e1, hx⟩ := h
   simp only [Rv] at ha
   obtain ⟨b, s, cap, k1, rfl, k3, k4⟩ := ha
   obtain ⟨e2, e3, e4, e5⟩ := bounds_ok (P := P) (cap := cap) true h1 h2 h3 k3 e1
   have hrun := run_slice_slice ht hi' e2 (a := some ⟨b, s + off, none⟩)
   cases m with
   | some m =>
    obtain ⟨f1, f2⟩ := e5 m rfl
    simp only [Option.getD_some] at hrun
    simp only at hx
    split at hx
    · rename_i hml
      subst hml; subst hx
      refine Does.pure hs hrun ?_
      rw [if_pos rfl]
      simp only [Rv]
      exact ⟨b, s + off, 0, [], by simp; omega, by simp, Nat.le_refl _, ⟨fun hne => absurd rfl hne, fun j v hj => by simp at hj⟩, RvL.nil, by simp [OwnOk]⟩
    · rename_i hml
      subst hx
      refine Does.pure hs hrun ?_
      rw [if_neg hml]
      simp only [Option.map_some, add_none, Rv]
      exact ⟨b, s, m - l, k1, by rw [Nat.add_assoc], by omega, rfl⟩
   | none =>
    simp only [Option.getD_none] at hrun
    cases lim with
    | some c =>
     simp only at hx k4
     subst k4
     split at hx
     · rename_i hml
       subst hml; subst hx
       refine Does.pure hs hrun ?_
       rw [if_pos rfl]
       simp only [Rv]
       exact ⟨b, s + off, 0, [], by simp; omega, by simp, Nat.le_refl _, ⟨fun hne => absurd rfl hne, fun j v hj => by simp at hj⟩, RvL.nil, by simp [OwnOk]⟩
     · rename_i hml
       subst hx
       refine Does.pure hs hrun ?_
       rw [if_neg hml]
       simp only [Option.map_some, add_none, Rv]
       exact ⟨b, s, cap - l, k1, by rw [Nat.add_assoc], by omega, rfl⟩
    | none =>
     simp only at hx k4
     split at hx
     · rename_i hll
       subst hx
       refine Does.pure hs hrun ?_
       rw [if_neg (by omega)]
       simp only [Option.map_some, add_none, Rv]
       refine ⟨b, s, cap - l, k1, by rw [Nat.add_assoc], by omega, ?_⟩
       have hmul : l * ei.size + (cap - l) * ei.size = cap * ei.size := by rw [← Nat.add_mul]; congr 1; omega
       rw [show s + (off + l * ei.size) + (cap - l) * ei.size = s + off + cap * ei.size by omega]
       exact k4
     · subst hx
       refine Does.pure hs hrun ?_
       have hl' : h' - l = 0 := by omega
       rw [hl']
       simp only [Rv]
       split
       · exact ⟨b, s + off, cap - l, [], rfl, by simp, Nat.zero_le _, ⟨fun hne => absurd rfl hne, fun j v hj => by simp at hj⟩, RvL.nil, trivial⟩
       · exact ⟨b, s + off + l * ei.size, cap - l, [], by simp [add_none], by simp, Nat.zero_le _, ⟨fun hne => absurd rfl hne, fun j v hj => by simp at hj⟩, RvL.nil, trivial⟩
 · rw [Option.map_eq_some_iff] at h
   obtain ⟨⟨l, h', m⟩, e1, rfl⟩ := h
   have := scv ha; subst this
   obtain ⟨e2, e3, e4, e5⟩ := bounds_ok (P := P) (cap := 0) true h1 h2 h3 (Nat.le_refl _) e1
   refine Does.pure hs (run_slice_slice ht hi' e2) ?_
   have hm0 : m.getD 0 = 0 := by cases m with
    | none => rfl
    | some m => have := e5 m rfl; simp; omega
   have : h' = 0 := by omega
   have : l = 0 := by omega
   subst_vars
   rw [hm0]
   exact Rv.sc
 · rename_i c0
   rw [Option.map_eq_some_iff] at h
   obtain ⟨⟨l, h', m⟩, e1, rfl⟩ := h
   have := scv ha; subst this
   obtain ⟨e2, e3, e4, e5⟩ := bounds_ok (P := P) (cap := 0) true h1 h2 h3 (Nat.le_refl _) e1
   refine Does.pure hs (run_slice_slice ht hi' e2) ?_
   have hm0 : m.getD 0 = 0 := by cases m with
    | none => rfl
    | some m => have := e5 m rfl; simp; omega
   have : h' = 0 := by omega
   have : l = 0 := by omega
   subst_vars
   rw [hm0, if_pos rfl]
   exact Rv.sc
 · cases h
def aSliceO (σ : St) (a : V) (lo hi mx : Option V) : Option V :=
 match a, hi, mx with
 | .os o off sz _ none, some hi, none => match σ.get o with
  | some (.cells cs) => if 0 < sz then (aBounds ((cs.length - off) / sz) lo (some hi) none).map fun (l, h, _) => if l < h then .os o (off + l * sz) sz (h - l) none else .vs .ro sz 0 [] else none
  | _ => none
 | _, _, _ => none
def aSliceR (σ : St) (a : V) (lo hi mx : Option V) : Option V :=
 match aSlice a lo hi mx with
 | some v => some v
 | none => aSliceO σ a lo hi mx
theorem sliceR_ok {a x : V} {va : Value} {lo hi mx : Option V} {clo chi cmx : Option Value} {t e : TypeId} {ei : TypeInfo} (hs : Rs G σ w) (ht : P.underlying t = some (.slice e)) (hi' : P.info? e = some ei) (hz : aSz a = ei.size ∨ a = .nilS ∨ ∃ c, a = .sc (.oddS c))
  (ha : Rv G w a va) (h1 : OptR G w lo clo) (h2 : OptR G w hi chi) (h3 : OptR G w mx cmx) (h : aSliceR σ a lo hi mx = some x) (hstr : ∀ s, a ≠ .str s) : Does P (Instr.sliceAt t va clo chi cmx) G w σ x := by
 unfold aSliceR at h
 split at h
 · rename_i v hv
   cases h
   exact sliceSl_ok hs ht hi' hz ha h1 h2 h3 hv hstr
 · unfold aSliceO at h
   split at h
   · rename_i o off sz len hv _
     have hz' : sz = ei.size := by rcases hz with hz | hz | ⟨_, hz⟩; · exact hz
                                   · cases hz
                                   · cases hz
     subst hz'
     split at h
     · rename_i cs ho
       split at h
       · rename_i hpos
         rw [Option.map_eq_some_iff] at h
         obtain ⟨⟨l, h', m⟩, e1, hx⟩ := h
         simp only [Rv] at ha
         obtain ⟨b, s, cap, k1, rfl, k3, k4⟩ := ha
         obtain ⟨b', s', vals, g1, g2, g3, g4, g5, g6⟩ := hs.ok o _ ho
         rw [k1] at g1; cases g1
         have hcap : (cs.length - off) / ei.size ≤ cap := by
          obtain ⟨arr, te, fz, hb1, hb2⟩ := k4
          obtain ⟨arr', te', hb3, hb4⟩ := g4
          rw [hb1] at hb3; cases hb3
          have : cs.length - off ≤ cap * ei.size := by omega
          have h5 := Nat.div_le_div_right (c := ei.size) this
          rwa [Nat.mul_div_cancel _ hpos] at h5
         obtain ⟨e2, e3, e4, e5⟩ := bounds_ok (P := P) (cap := cap) true h1 h2 h3 hcap e1
         obtain ⟨u, hu, _⟩ := h2
         subst hu
         have hcm : cmx = none := h3
         subst hcm
         have e2' : (Instr.sliceBounds true len cap clo (some u) none).run P w = .ok (l, h', m.getD cap) w := by
          rw [← e2]; simp only [Instr.sliceBounds]
         have hrun := run_slice_slice ht hi' e2' (a := some ⟨b, s + off, none⟩)
         have hm : m = none := by
          unfold aBounds at e1
          rw [Option.bind_eq_some_iff] at e1
          obtain ⟨_, _, e1⟩ := e1
          rw [Option.map_eq_some_iff] at e1
          obtain ⟨_, _, e1⟩ := e1
          cases e1; rfl
         subst hm
         simp only [Option.getD_none] at hrun
         simp only at hx
         split at hx
         · rename_i hll
           subst hx
           refine Does.pure hs hrun ?_
           rw [if_neg (by omega)]
           simp only [Option.map_some, add_none, Rv]
           refine ⟨b, s, cap - l, k1, by rw [Nat.add_assoc], by omega, ?_⟩
           have hmul : l * ei.size + (cap - l) * ei.size = cap * ei.size := by rw [← Nat.add_mul]; congr 1; omega
           rw [show s + (off + l * ei.size) + (cap - l) * ei.size = s + off + cap * ei.size by omega]
           exact k4
         · subst hx
           refine Does.pure hs hrun ?_
           have hl' : h' - l = 0 := by omega
           rw [hl']
           simp only [Rv]
           split
           · exact ⟨b, s + off, cap - l, [], rfl, by simp, Nat.zero_le _, ⟨fun hne => absurd rfl hne, fun j v hj => by simp at hj⟩, RvL.nil, trivial⟩
           · exact ⟨b, s + off + l * ei.size, cap - l, [], by simp [add_none], by simp, Nat.zero_le _, ⟨fun hne => absurd rfl hne, fun j v hj => by simp at hj⟩, RvL.nil, trivial⟩
       · cases h
     · cases h
   · cases h
end
end Go.Ab
