/- Operations on memory: loads, stores, boxes, places, parts of slices. -/
import Derived.Test.YtehdjkikcfeiaaaGreatAb4
namespace Go.Ab
open Go.RowKit
section
variable {P : Program} {G : Gh} {σ : St} {w : World}
theorem add_none (b s n : Nat) : (⟨b, s, none⟩ : Addr).add n = ⟨b, s + n, none⟩ := by
 unfold Addr.add; split <;> simp_all
theorem Upd.setCell (w : World) (b i : Nat) (v : Value) : Upd w (w.setCell ⟨b, i, none⟩ v) b where
 os := rfl
 tape := rfl
 output := rfl
 size := by simp
 block k hk := Below.heap_setCell w ⟨b, i, none⟩ v k hk
 here arr e fz h := ⟨arr.setIfInBounds i v, by simp only [World.setCell, Array.getElem?_modify, ↓reduceIte, h, Option.map_some]; simp, by simp⟩
theorem Upd.refl (w : World) (b : Nat) : Upd w w b := ⟨rfl, rfl, rfl, rfl, fun _ _ => rfl, fun arr _ _ h => ⟨arr, h, rfl⟩⟩
theorem Upd.trans {a c d : World} {b : Nat} (h : Upd a c b) (k : Upd c d b) : Upd a d b where
 os := k.os.trans h.os
 tape := k.tape.trans h.tape
 output := k.output.trans h.output
 size := k.size.trans h.size
 block i hi := (k.block i hi).trans (h.block i hi)
 here arr e fz hb := by
  obtain ⟨a1, h1, s1⟩ := h.here arr e fz hb
  obtain ⟨a2, h2, s2⟩ := k.here a1 e fz h1
  exact ⟨a2, h2, s2.trans s1⟩
theorem Upd.setCells (b : Nat) : ∀ (vs : List Value) (o : Nat) (w : World), Upd w (w.setCells b o vs) b
 | [], _, w => Upd.refl w b
 | v :: r, o, w => (Upd.setCell w b o v).trans (Upd.setCells b r (o + 1) _)
theorem Free.isSome {b n : Nat} (h : Free w b n) {i : Nat} (hi : i < n) : (w.cell? ⟨b, i, none⟩).isSome = true := by
 obtain ⟨arr, t, fz, h1, h2, _⟩ := h
 have : i < arr.size := by omega
 simp [World.cell?, h1, this]
theorem Free.frozen {b n : Nat} (h : Free w b n) {i : Nat} (hi : i < n) : w.frozen? ⟨b, i, none⟩ = false := by
 obtain ⟨arr, t, fz, h1, h2, h3⟩ := h
 have := h3 i (by omega)
 simp only [World.frozen?, h1]
 simp only [not_and] at this
 by_cases hlo : fz.1 ≤ i
 · have := this hlo; simp [hlo]; omega
 · simp [hlo]
theorem run_storeFree {b o n : Nat} (hf : Free w b n) (vs : List Value) (hn : o + vs.length ≤ n) (h1 : ∀ v ∈ vs, v.oneCell' = true) :
  (storeCells ⟨b, o, none⟩ vs).run P w = .ok () (w.setCells b o vs) := by
 have := run_storeCells_cells (P := P) b o vs 0 w (fun j hj => hf.isSome (by omega)) (fun j hj => hf.frozen (by omega)) h1
 simpa using this
theorem At.setCells {b s : Nat} {vals new : List Value} {off n : Nat} (h : At w b s vals) (hf : Free w b n) (hn : s + off + new.length ≤ n) (hl : off + new.length ≤ vals.length) :
  At (w.setCells b (s + off) new) b s (vals.take off ++ new ++ vals.drop (off + new.length)) := by
 intro j v hj
 by_cases h1 : off ≤ j ∧ j < off + new.length
 · have hin := World.cell?_setCells_in b new (s + off) w (fun i hi => hf.isSome (by omega)) (j - off) (by omega)
   rw [show s + off + (j - off) = s + j by omega] at hin
   rw [hin]
   have l1 : (vals.take off).length = off := by rw [List.length_take]; omega
   rw [List.append_assoc, List.getElem?_append_right (by omega), l1, List.getElem?_append_left (by omega), List.getElem?_eq_getElem (by omega)] at hj
   exact hj
 · rw [World.cell?_setCells_out b new (s + off) w _ (fun _ _ => by simp only; omega)]
   refine h j v ?_
   have l1 : (vals.take off).length = off := by rw [List.length_take]; omega
   rcases Nat.lt_or_ge j off with hlo | hhi
   · rw [List.append_assoc, List.getElem?_append_left (by omega), List.getElem?_take] at hj
     rw [if_pos hlo] at hj; exact hj
   · rw [List.getElem?_append_right (by simp; omega)] at hj
     simp only [List.length_append, l1, List.getElem?_drop] at hj
     rw [show off + new.length + (j - (off + new.length)) = j by omega] at hj
     exact hj
def aLoad (σ : St) (a : V) (n : Option Nat) : Option V :=
 match a with
 | .ptr o off => match σ.get o with
  | some (.cells cs) => aPart cs off n
  | _ => none
 | .elt cells off => aPart cells off n
 | _ => none
def TySize (P : Program) (t : TypeId) (n : Option Nat) : Prop :=
 ∃ i d, P.info? t = some i ∧ P.underlying t = some d ∧ n = (match d with | .struct _ | .array _ _ => some i.size | _ => none)
theorem loadVar_ok {b s off : Nat} {vals : List Value} {cs : List V} {n : Option Nat} {x : V} {t : TypeId} (ht : TySize P t n) (hat : At w b s vals) (hr : RvL G w cs vals) (h : aPart cs off n = some x) :
  ∃ v, (loadVar t ⟨b, s + off, none⟩).run P w = .ok v w ∧ Rv G w x v := by
 obtain ⟨i, d, hi, hd, hn⟩ := ht
 have hagg : (isAgg t).run P w = .ok (n.isSome) w := by
  simp only [isAgg, Sem.run_bind, run_underlying hd, Result.andThen_ok]
  subst hn
  cases d <;> rfl
 have hsize : (sizeOf t).run P w = .ok i.size w := by simp [sizeOf, typeInfo, hi]
 unfold aPart at h
 cases n with
 | none =>
  simp only at h
  obtain ⟨v, h1, h2⟩ := hr.getElem? off x h
  refine ⟨v, ?_, h2⟩
  simp only [loadVar, Sem.run_bind, hagg, Result.andThen_ok]
  simp [hat off v h1]
 | some n =>
  simp only at h
  split at h
  · rename_i hb
    cases h
    have hni : n = i.size := by cases d <;> simp_all
    have hl := hr.length
    refine ⟨.agg ((vals.drop off).take n).toArray, ?_, ?_⟩
    · simp only [loadVar, Sem.run_bind, hagg, Result.andThen_ok]
      have hlen : ((vals.drop off).take n).length = i.size := by simp; omega
      have hc := run_loadCells_list (P := P) w ⟨b, s + off, none⟩ ((vals.drop off).take n) (fun j v hj => by
       rw [add_none, Nat.add_assoc]
       refine hat (off + j) v ?_
       rw [List.getElem?_take] at hj
       split at hj
       · rwa [List.getElem?_drop] at hj
       · cases hj)
      rw [hlen] at hc
      simp [hsize, hc]
    · simp only [Rv]; exact ⟨_, rfl, (hr.drop off).take n⟩
  · cases h
theorem loadAt_same {a x : V} {v : Value} {n : Option Nat} {t : TypeId} (ht : TySize P t n) (hs : Rs G σ w) (ha : Rv G w a v) (h : aLoad σ a n = some x) :
  ∃ ad u, v = .pointer (some ad) ∧ (loadVar t ad).run P w = .ok u w ∧ Rv G w x u := by
 unfold aLoad at h
 split at h
 · rename_i o off
   split at h
   · rename_i cs ho
     simp only [Rv] at ha
     obtain ⟨b, s, h1, rfl⟩ := ha
     obtain ⟨b', s', vals, k1, k2, k3, _⟩ := hs.ok o _ ho
     rw [h1] at k1; cases k1
     obtain ⟨v, l1, l2⟩ := loadVar_ok ht k3 k2 h
     exact ⟨_, v, rfl, l1, l2⟩
   · cases h
 · simp only [Rv] at ha
   obtain ⟨b, s, vals, rfl, h1, h2⟩ := ha
   obtain ⟨v, l1, l2⟩ := loadVar_ok ht h1.2 h2 h
   exact ⟨_, v, rfl, l1, l2⟩
 · cases h
theorem loadAt_ok {a x : V} {v : Value} {n : Option Nat} {t : TypeId} (ht : TySize P t n) (hs : Rs G σ w) (ha : Rv G w a v) (h : aLoad σ a n = some x) : Does P (Instr.loadAt t v) G w σ x := by
 obtain ⟨ad, u, rfl, h1, h2⟩ := loadAt_same ht hs ha h
 exact Does.pure hs (by simp [Instr.loadAt, Instr.sureAddr, h1]) h2
def aStore (σ : St) (n : Nat) (a x : V) : Option St :=
 match a with
 | .ptr o off => match σ.get o with
  | some (.cells cs) => if x.cellsOf.length = n ∧ off + n ≤ cs.length ∧ x.cellsOf.all V.oneCell = true then some (σ.put o (some (.cells (splice cs off x.cellsOf)))) else none
  | _ => none
 | _ => none
theorem storeAt_ok {a x : V} {va vx : Value} {t : TypeId} {i : TypeInfo} {σ' : St} (hi : P.info? t = some i) (hs : Rs G σ w) (ha : Rv G w a va) (hx : Rv G w x vx) (h : aStore σ i.size a x = some σ') :
  ∃ w', (Instr.storeAt t va vx).run P w = .ok () w' ∧ Rs G σ' w' ∧ Ext G w G w' := by
 unfold aStore at h
 split at h
 · rename_i o off
   split at h
   · rename_i cs ho
     split at h
     · rename_i hc
       obtain ⟨c1, c2, c3⟩ := hc
       cases h
       simp only [Rv] at ha
       obtain ⟨b, s, h1, rfl⟩ := ha
       obtain ⟨b', s', vals, k1, k2, k3, k4, k5, k6⟩ := hs.ok o _ ho
       rw [h1] at k1; cases k1
       have hcl := hx.cells
       have hl := hcl.length
       have hl2 := k2.length
       have hst := run_storeFree (P := P) (o := s + off) k4.free vx.cells.toList (by omega) (hcl.oneCell c3)
       obtain ⟨e1, e2⟩ := hs.write (cs' := splice cs off x.cellsOf) (vals' := vals.take off ++ vx.cells.toList ++ vals.drop (off + vx.cells.toList.length)) ho h1
        (Upd.setCells b vx.cells.toList (s + off) w) (by unfold splice; rw [hl]; exact ((k2.take off).append hcl).append (k2.drop _)) (splice_length (by omega)) (k3.setCells k4.free (by omega) (by omega))
       refine ⟨_, ?_, e1, e2⟩
       have hsz : vx.cells.size = i.size := by simpa using hl.trans c1
       simp [Instr.storeAt, Instr.sureAddr, storeVar, sizeOf, typeInfo, hi, hsz, hst]
     · cases h
   · cases h
 · cases h
def aBox (σ : St) (x : V) : Option (V × St) :=
 if x.cellsOf.all V.oneCell = true then some (.ptr σ.n 0, σ.push (.cells x.cellsOf)) else none
theorem box_ok {x r : V} {v : Value} {σ' : St} (t : TypeId) (hs : Rs G σ w) (hx : Rv G w x v) (h : aBox σ x = some (r, σ')) : Does P (Instr.box t v) G w σ' r := by
 unfold aBox at h
 split at h
 · cases h
   have hcl := hx.cells
   obtain ⟨e1, e2⟩ := hs.newCells x.cellsOf v.cells.toList hcl v.cells t (fun j v hj => by simpa using hj) (by simp)
   refine ⟨.pointer (some ⟨w.heap.size, 0, none⟩), _, _, ?_, e1, e2, ?_⟩
   · simp [Instr.box, newVar, newRow]
   · simp only [Rv]; exact ⟨w.heap.size, 0, by simp [Gh.addOb], rfl⟩
 · cases h
def aPlace (off : Nat) (a : V) : Option V :=
 match a with
 | .ptr o f => some (.ptr o (f + off))
 | .elt cells f => some (.elt cells (f + off))
 | _ => none
theorem place_ok {a x : V} {v : Value} {off : Nat} (ha : Rv G w a v) (h : aPlace off a = some x) : ∃ ad : Addr, v = .pointer (some ad) ∧ Rv G w x (.pointer (some (ad.add off))) := by
 unfold aPlace at h
 split at h
 · cases h
   simp only [Rv] at ha
   obtain ⟨b, s, h1, rfl⟩ := ha
   refine ⟨_, rfl, ?_⟩
   rw [add_none]
   simp only [Rv]; exact ⟨b, s, h1, by rw [Nat.add_assoc]⟩
 · cases h
   simp only [Rv] at ha
   obtain ⟨b, s, vals, rfl, h1, h2⟩ := ha
   refine ⟨_, rfl, ?_⟩
   rw [add_none]
   simp only [Rv]; exact ⟨b, s, vals, by rw [Nat.add_assoc], h1, h2⟩
 · cases h
theorem fieldAt_ok {a x : V} {v : Value} {t : TypeId} {k : Nat} {fields : Array Field} {fd : Field} {fi : TypeInfo} (hs : Rs G σ w) (ht : P.underlying t = some (.struct fields)) (hf : fields[k]? = some fd)
  (hi : P.info? fd.type = some fi) (hz : fi.size ≠ 0) (ha : Rv G w a v) (h : aPlace fd.offset a = some x) : Does P (Instr.fieldAt t v k) G w σ x := by
 obtain ⟨ad, rfl, hx⟩ := place_ok ha h
 refine Does.pure hs ?_ hx
 simp [Instr.fieldAt, run_underlying ht, hf, Instr.sureAddr, fieldPlace, sizeOf, typeInfo, hi, hz]
def aIdx (i : V) (len : Nat) : Option Nat :=
 match i with
 | .sc (.int _ n) => if 0 ≤ n ∧ n < len then some n.toNat else none
 | _ => none
theorem aIdx_ok {i : V} {v : Value} {len n : Nat} (hi : Rv G w i v) (h : aIdx i len = some n) : ∃ k m, v = .int k m ∧ 0 ≤ m ∧ m < len ∧ m.toNat = n := by
 unfold aIdx at h
 split at h
 · split at h
   · rename_i hc
     cases h
     have := scv hi; subst this
     exact ⟨_, _, rfl, hc.1, hc.2, rfl⟩
   · cases h
 · cases h
def aArrAddr (len sz : Nat) (a i : V) : Option V := (aIdx i len).bind fun n => aPlace (n * sz) a
theorem arrAddr_ok {a i x : V} {va vi : Value} {t e : TypeId} {len : Nat} {ei : TypeInfo} (hs : Rs G σ w) (ht : P.underlying t = some (.array len e)) (hi : P.info? e = some ei) (ha : Rv G w a va) (hv : Rv G w i vi)
  (h : aArrAddr len ei.size a i = some x) : Does P (Instr.indexAt t va vi) G w σ x := by
 unfold aArrAddr at h
 rw [Option.bind_eq_some_iff] at h
 obtain ⟨n, h1, h2⟩ := h
 obtain ⟨k, m, rfl, m0, m1, rfl⟩ := aIdx_ok hv h1
 obtain ⟨ad, rfl, hx⟩ := place_ok ha h2
 refine Does.pure hs ?_ hx
 simp [Instr.indexAt, asIntOf, run_underlying ht, Instr.sureAddr, sizeOf, typeInfo, hi, m0, m1]
def aSlAddr (a i : V) : Option V :=
 match a with
 | .vs _ sz len cells => (aIdx i len).map fun n => .elt cells (n * sz)
 | .os o off sz len _ => (aIdx i len).map fun n => .ptr o (off + n * sz)
 | _ => none
def aSz : V → Nat
 | .vs _ sz _ _ => sz
 | .os _ _ sz _ _ => sz
 | _ => 0
theorem slAddr_ok {a i x : V} {va vi : Value} {t e : TypeId} {ei : TypeInfo} (hs : Rs G σ w) (ht : P.underlying t = some (.slice e)) (hi : P.info? e = some ei) (hz : aSz a = ei.size) (ha : Rv G w a va) (hv : Rv G w i vi)
  (h : aSlAddr a i = some x) : Does P (Instr.indexAt t va vi) G w σ x := by
 unfold aSlAddr at h
 split at h
 · rename_i own sz len cells
   rw [Option.map_eq_some_iff] at h
   obtain ⟨n, h1, rfl⟩ := h
   obtain ⟨k, m, rfl, m0, m1, rfl⟩ := aIdx_ok hv h1
   simp only [Rv] at ha
   obtain ⟨b, s, cap, vals, rfl, h2, h3, h4, h5, h6⟩ := ha
   simp only [aSz] at hz; subst hz
   refine Does.pure (v := .pointer (some ((⟨b, s, none⟩ : Addr).add (m.toNat * ei.size)))) hs ?_ ?_
   · simp [Instr.indexAt, asIntOf, run_underlying ht, sizeOf, typeInfo, hi, m0, m1]
   · rw [add_none]; simp only [Rv]; exact ⟨b, s, vals, rfl, h4, h5⟩
 · rename_i o off sz len lim
   rw [Option.map_eq_some_iff] at h
   obtain ⟨n, h1, rfl⟩ := h
   obtain ⟨k, m, rfl, m0, m1, rfl⟩ := aIdx_ok hv h1
   simp only [Rv] at ha
   obtain ⟨b, s, cap, h2, rfl, h3, h4⟩ := ha
   simp only [aSz] at hz; subst hz
   refine Does.pure (v := .pointer (some ((⟨b, s + off, none⟩ : Addr).add (m.toNat * ei.size)))) hs ?_ ?_
   · simp [Instr.indexAt, asIntOf, run_underlying ht, sizeOf, typeInfo, hi, m0, m1]
   · rw [add_none]; simp only [Rv]; exact ⟨b, s, h2, by rw [Nat.add_assoc]⟩
 · cases h
def aArrIdx (len sz : Nat) (n : Option Nat) (a i : V) : Option V :=
 match a with
 | .agg cs => (aIdx i len).bind fun k => aPart cs (k * sz) n
 | _ => none
theorem arrIdx_ok {a i x : V} {va vi : Value} {t e : TypeId} {len : Nat} {ei : TypeInfo} {d : TypeDesc} {n : Option Nat} (hs : Rs G σ w) (ht : P.underlying t = some (.array len e)) (hi : P.info? e = some ei) (hd : P.underlying e = some d)
  (hn : n = match d with | .struct _ | .array _ _ => some ei.size | _ => none) (ha : Rv G w a va) (hv : Rv G w i vi) (h : aArrIdx len ei.size n a i = some x) : Does P (Instr.index t va vi) G w σ x := by
 unfold aArrIdx at h
 split at h
 · rw [Option.bind_eq_some_iff] at h
   obtain ⟨k, h1, h2⟩ := h
   obtain ⟨kk, m, rfl, m0, m1, rfl⟩ := aIdx_ok hv h1
   simp only [Rv] at ha
   obtain ⟨vs, rfl, h3⟩ := ha
   obtain ⟨v, p1, p2⟩ := part_ok (P := P) e ei hi d hd hn h3 h2
   refine Does.pure hs ?_ p2
   have hsz : (sizeOf e).run P w = .ok ei.size w := by simp [sizeOf, typeInfo, hi]
   simp only [Instr.index, asIntOf, Sem.run_bind, Sem.run_pure, Result.andThen_ok, run_underlying ht]
   rw [if_pos ⟨m0, m1⟩]
   simp only [Sem.run_bind, hsz, Result.andThen_ok, p1]
 · cases h
def aStrIdx (a i : V) : Option V :=
 match a with
 | .str s => (aIdx i s.length).bind fun k => (s[k]?).map fun b => .sc (.int .u8 b.toNat)
 | _ => none
theorem strIdx_ok {a i x : V} {va vi : Value} {t : TypeId} (hs : Rs G σ w) (ht : P.underlying t = some .string) (ha : Rv G w a va) (hv : Rv G w i vi) (h : aStrIdx a i = some x) : Does P (Instr.index t va vi) G w σ x := by
 unfold aStrIdx at h
 split at h
 · rename_i l
   simp only [Option.bind_eq_some_iff, Option.map_eq_some_iff] at h
   obtain ⟨k, h1, b, h2, rfl⟩ := h
   obtain ⟨kk, m, rfl, m0, m1, rfl⟩ := aIdx_ok hv h1
   obtain ⟨s, rfl, rfl⟩ := str_of ha
   have hb : s[m.toNat]? = some b := by
    rw [← h2]
    have hlt : m.toNat < s.size := by rw [size_eq]; omega
    have hlt2 : m.toNat < s.data.toList.length := by rw [← size_eq]; exact hlt
    rw [getElem?_pos s m.toNat hlt, List.getElem?_eq_getElem hlt2]
    rfl
   refine Does.pure hs ?_ Rv.int
   simp [Instr.index, asIntOf, run_underlying ht, m0, hb]
 · cases h
end
end Go.Ab
