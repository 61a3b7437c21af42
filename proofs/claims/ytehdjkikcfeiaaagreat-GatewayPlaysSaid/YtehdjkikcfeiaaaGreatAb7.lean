/- Appending, making, copying, clearing; strings and bytes. -/
import Derived.Test.YtehdjkikcfeiaaaGreatAb6
namespace Go.Ab
open Go.RowKit
section
variable {P : Program} {G : Gh} {σ : St} {w : World}
def roomB : Nat := 140737488355328
structure Src (P : Program) (w : World) (size m : Nat) (y : Value) (news : List Value) : Prop where
 len : (Builtin.lenOf y).run P w = .ok m w
 len' : (Builtin.lenOf y).run P w.drew = .ok m w.drew
 cells : (Builtin.firstCells size m y).run P w = .ok news.toArray w
 cells' : (Builtin.firstCells size m y).run P w.drew = .ok news.toArray w.drew
theorem Src.of_cells {size m : Nat} {y : Value} {news : List Value} (h1 : ∀ w' : World, (Builtin.lenOf y).run P w' = .ok m w')
  (h2 : ∀ w' : World, (∀ a, w'.cell? a = w.cell? a) → (Builtin.firstCells size m y).run P w' = .ok news.toArray w') : Src P w size m y news :=
 ⟨h1 w, h1 w.drew, h2 w (fun _ => rfl), h2 w.drew (fun _ => rfl)⟩
theorem run_append_in {t u ty e : TypeId} {ei : TypeInfo} {ud : TypeDesc} (ht : P.underlying t = some (.slice e)) (hi : P.info? e = some ei) (hu : P.underlying u = some ud) (hud : (∃ e', ud = .slice e') ∨ ud = .string)
  {base : Option Addr} {sLen sCap m : Nat} {y : Value} {news : List Value} (hs : Src P w ei.size m y news) (hroom : sLen + m ≤ sCap) {w' : World}
  (hst : match base with | some a => (storeCells (a.add (sLen * ei.size)) news).run P w = .ok () w' | none => w' = w) :
  (Builtin.append_ #[t, u] ty #[.slice base sLen sCap, y]).run P w = .ok (.slice base (sLen + m) sCap) w' := by
 cases base with
 | none =>
  simp only at hst; subst hst
  rcases hud with ⟨e', rfl⟩ | rfl <;> simp [Builtin.append_, run_underlying ht, run_underlying hu, sizeOf, typeInfo, hi, hs.len, hs.cells, hroom]
 | some a =>
  simp only at hst
  rcases hud with ⟨e', rfl⟩ | rfl <;> simp [Builtin.append_, run_underlying ht, run_underlying hu, sizeOf, typeInfo, hi, hs.len, hs.cells, hroom, hst]
theorem run_append_new {t u ty e : TypeId} {ei : TypeInfo} {z : Value} {ud : TypeDesc} (ht : P.underlying t = some (.slice e)) (hi : P.info? e = some ei) (hz : ei.zero = some z) (hu : P.underlying u = some ud) (hud : (∃ e', ud = .slice e') ∨ ud = .string)
  {base : Option Addr} {sLen sCap m : Nat} {y : Value} {olds news : List Value} (hs : Src P w ei.size m y news) (hroom : ¬ sLen + m ≤ sCap) (hb : (sLen + m) * ei.bytes ≤ roomB) (h63 : sLen + m ≤ 9223372036854775807)
  (hold : (Builtin.firstCells ei.size sLen (.slice base sLen sCap)).run P w.drew = .ok olds.toArray w.drew) :
  (Builtin.append_ #[t, u] ty #[.slice base sLen sCap, y]).run P w =
    .ok (.slice (some ⟨w.heap.size, 0, none⟩) (sLen + m) (grownCap w (sLen + m) sCap e))
     (w.drew.alloc (.cells ((olds ++ news).toArray ++ Builtin.zeroCells z.cells (grownCap w (sLen + m) sCap e - (sLen + m))) e)) := by
 have h63' : ¬ (9223372036854775807 < ((sLen : Int) + (m : Int))) := by omega
 have hfit : ¬ (281474976710656 < Builtin.nextslicecap (sLen + m) sCap * ei.bytes) := Nat.not_lt.2 (growslice_fits (by omega) hb)
 have e1 : (olds ++ news).toArray = olds.toArray ++ news.toArray := by simp
 rw [e1, Array.append_assoc]
 rcases hud with ⟨e', rfl⟩ | rfl <;>
  simp [Builtin.append_, run_underlying ht, run_underlying hu, sizeOf, typeInfo, zeroValue, hi, hz, hs.len, hroom, h63', hfit, Question.forced, hs.cells', hold, newRow, grownCap]
def byteV (b : UInt8) : V := .sc (.int .u8 b.toNat)
def aSrc (σ : St) (sz : Nat) (y : V) : Option (Nat × List V) :=
 match y with
 | .sc .nilS => some (0, [])
 | .sc (.oddS _) => some (0, [])
 | .vs _ s n cells => if s = sz then some (n, cells) else none
 | .os o off s n _ => match σ.get o with
  | some (.cells cs) => if s = sz ∧ off + n * sz ≤ cs.length then some (n, (cs.drop off).take (n * sz)) else none
  | _ => none
 | .str l => if sz = 1 then some (l.length, l.map byteV) else none
 | _ => none
theorem RvL.bytes {G : Gh} {w : World} : ∀ l : List UInt8, RvL G w (l.map byteV) (l.map fun b => Value.int .u8 b.toNat)
 | [] => RvL.nil
 | _ :: l => RvL.cons Rv.int (RvL.bytes l)
theorem take_drop_at {b s off n : Nat} {vals : List Value} (h : At w b s vals) : At w b (s + off) ((vals.drop off).take n) := by
 intro j v hj
 rw [Nat.add_assoc]
 refine h _ v ?_
 rw [List.getElem?_take] at hj
 split at hj
 · rwa [List.getElem?_drop] at hj
 · cases hj
theorem firstCells_at {size n b s len cap : Nat} {vals : List Value} (hl : vals.length = n * size) (h : At w b s vals) :
  (Builtin.firstCells size n (.slice (some ⟨b, s, none⟩) len cap)).run P w = .ok vals.toArray w :=
 run_firstCells_some w size n _ len cap vals hl fun j v hj => by rw [add_none]; exact h j v hj
theorem At.cells_eq {w' : World} {b s : Nat} {vals : List Value} (h : At w b s vals) (e : ∀ a, w'.cell? a = w.cell? a) : At w' b s vals :=
 fun j v hj => (e _).trans (h j v hj)
theorem src_ok {sz n : Nat} {y : V} {vy : Value} {xs : List V} (hs : Rs G σ w) (hy : Rv G w y vy) (h : aSrc σ sz y = some (n, xs)) :
  ∃ news, Src P w sz n vy news ∧ RvL G w xs news ∧ news.length = n * sz := by
 unfold aSrc at h
 split at h
 · cases h
   have := scv hy; subst this
   exact ⟨[], Src.of_cells (fun _ => by simp [Builtin.lenOf, Sc.val]) (fun _ _ => by simp [Builtin.firstCells, Sc.val]), RvL.nil, by simp⟩
 · rename_i c0
   cases h
   have := scv hy; subst this
   exact ⟨[], Src.of_cells (fun _ => by simp [Builtin.lenOf, Sc.val]) (fun w' _ => run_firstCells_some w' sz 0 c0 0 0 [] (by simp) (fun j v hj => by simp at hj)), RvL.nil, by simp⟩
 · rename_i own s n' cells
   split at h
   · rename_i hs'; subst hs'; cases h
     simp only [Rv] at hy
     obtain ⟨b, s', cap, vals, rfl, h2, h3, h4, h5, h6⟩ := hy
     have hl : vals.length = n * s := by rw [h5.length, h2]
     exact ⟨vals, Src.of_cells (fun _ => by simp [Builtin.lenOf]) (fun w' e => firstCells_at hl (h4.2.cells_eq e)), h5, hl⟩
   · cases h
 · rename_i o off s n' lim
   split at h
   · rename_i cs ho
     split at h
     · rename_i hc
       obtain ⟨rfl, hc⟩ := hc
       cases h
       simp only [Rv] at hy
       obtain ⟨b, s', cap, h1, rfl, h3, h4⟩ := hy
       obtain ⟨b', s'', vals, k1, k2, k3, _⟩ := hs.ok o _ ho
       rw [h1] at k1; cases k1
       have hvl := k2.length
       have hl : ((vals.drop off).take (n * s)).length = n * s := by rw [List.length_take, List.length_drop]; omega
       exact ⟨_, Src.of_cells (fun _ => by simp [Builtin.lenOf]) (fun w' e => firstCells_at hl ((take_drop_at k3).cells_eq e)), (k2.drop _).take _, hl⟩
     · cases h
   · cases h
 · rename_i l
   split at h
   · rename_i hsz; subst hsz; cases h
     obtain ⟨s, rfl, rfl⟩ := str_of hy
     refine ⟨s.data.toList.map fun b => Value.int .u8 b.toNat, Src.of_cells (fun _ => by rw [← size_eq]; rfl) (fun w' e => ?_), RvL.bytes _, by simp⟩
     have : s.extract 0 s.data.toList.length = s := by rw [← size_eq]; simp
     have e2 : (s.data.toList.map fun b => Value.int .u8 (b.toNat : Int)).toArray = s.data.map fun b => Value.int .u8 (b.toNat : Int) := by apply Array.ext'; simp
     simp only [Builtin.firstCells, this, e2]
     rfl
   · cases h
 · cases h
def aSame (sz : Nat) (x : V) : Option V :=
 match x with
 | .sc .nilS => some x
 | .sc (.oddS _) => some x
 | .vs _ s _ _ => if s = sz then some x else none
 | .os _ _ s _ _ => if s = sz then some x else none
 | _ => none
def aFresh (mu : Bool) (sz bytes m : Nat) (news : List V) (σ : St) (n : Nat) (olds : List V) : Option (V × St) :=
 if (n + m) * bytes ≤ roomB ∧ n + m ≤ roomB ∧ olds.length = n * sz then
  (if mu then (if olds.all V.oneCell = true then some (.os σ.n 0 sz (n + m) none, σ.push (.cells (olds ++ news))) else none)
  else some (.vs (.tok σ.n) sz (n + m) (olds ++ news), σ.push .tok))
 else none
def aTok (mu : Bool) (sz bytes m : Nat) (news : List V) (σ : St) (t n : Nat) (cells : List V) : Option (V × St) :=
 match σ.get t with
 | some .tok => if mu = false ∧ (n + m) * bytes ≤ roomB ∧ n + m ≤ roomB then some (.vs (.tok σ.n) sz (n + m) (cells ++ news), (σ.put t none).push .tok) else none
 | _ => none
def aObj (sz m : Nat) (news : List V) (σ : St) (o off n : Nat) (lim : Option Nat) (cs : List V) : Option (V × St) :=
 match lim with
 | some c => if n + m ≤ c then
   (if off + (n + m) * sz ≤ cs.length then some (.os o off sz (n + m) lim, σ.put o (some (.cells (splice cs (off + n * sz) news)))) else none)
  else some (.os σ.n 0 sz (n + m) none, σ.push (.cells ((cs.drop off).take (n * sz) ++ news)))
 | none =>
  if off + (n + m) * sz ≤ cs.length then some (.os o off sz (n + m) none, σ.put o (some (.cells (splice cs (off + n * sz) news))))
  else if off + n * sz = cs.length then some (.os σ.n 0 sz (n + m) none, (σ.put o none).push (.cells (cs.drop off ++ news)))
  else none
def aGrow (mu : Bool) (sz bytes m : Nat) (news : List V) (σ : St) (x : V) : Option (V × St) :=
 match x with
 | .sc .nilS => aFresh mu sz bytes m news σ 0 []
 | .sc (.oddS _) => aFresh mu sz bytes m news σ 0 []
 | .vs own s n cells => if s = sz then
   (match own with
   | .exact => aFresh mu sz bytes m news σ n cells
   | .tok t => aTok mu sz bytes m news σ t n cells
   | .ro => none) else none
 | .os o off s n lim => match σ.get o with
  | some (.cells cs) => if s = sz ∧ 0 < sz ∧ (n + m) * bytes ≤ roomB ∧ n + m ≤ roomB ∧ off + n * sz ≤ cs.length then aObj sz m news σ o off n lim cs else none
  | _ => none
 | _ => none
def aAppend (mu : Bool) (sz bytes : Nat) (σ : St) (x y : V) : Option (V × St) :=
 (aSrc σ sz y).bind fun (m, news) =>
   if m = 0 then (aSame sz x).map fun x => (x, σ)
   else if news.all V.oneCell = true then aGrow mu sz bytes m news σ x
   else none
theorem drew_size (w : World) : w.drew.heap.size = w.heap.size := rfl
theorem fresh_ok {mu : Bool} {sz bytes n m cap0 : Nat} {t u ty e : TypeId} {ei : TypeInfo} {z : Value} {ud : TypeDesc} (ht : P.underlying t = some (.slice e)) (hi : P.info? e = some ei) (hz : ei.zero = some z) (hzs : z.cells.size = ei.size)
  (hsz : ei.size = sz) (hby : ei.bytes = bytes) (hu : P.underlying u = some ud) (hud : (∃ e', ud = .slice e') ∨ ud = .string) (hs : Rs G σ w)
  {base : Option Addr} {y : Value} {olds news : List V} {volds vnews : List Value} (hsrc : Src P w ei.size m y vnews) (hn : RvL G w news vnews) (hnl : vnews.length = m * sz)
  (hcap : ¬ n + m ≤ cap0) (hb : (n + m) * bytes ≤ roomB) (h63 : n + m ≤ roomB)
  (hold : (Builtin.firstCells ei.size n (.slice base n cap0)).run P w.drew = .ok volds.toArray w.drew) (ho : RvL G w olds volds) (hol : volds.length = n * sz)
  {σ' : St} {r : V} (hr : (if mu then (some (.os σ.n 0 sz (n + m) none, σ.push (.cells (olds ++ news))) : Option (V × St)) else some (.vs (.tok σ.n) sz (n + m) (olds ++ news), σ.push .tok)) = some (r, σ')) :
  ∃ v w' G', (Builtin.append_ #[t, u] ty #[.slice base n cap0, y]).run P w = .ok v w' ∧ Rs G' σ' w' ∧ Ext G w G' w' ∧ Rv G' w' r v := by
 subst hsz; subst hby
 have hrun := run_append_new (ty := ty) ht hi hz hu hud hsrc hcap hb (by simp only [roomB] at h63; omega) hold
 obtain ⟨d1, d2⟩ := hs.drew
 have hall : RvL G w.drew (olds ++ news) (volds ++ vnews) := (RvL.ext d2 _ _ ho).append (RvL.ext d2 _ _ hn)
 have hlen : (volds ++ vnews).length = (n + m) * ei.size := by rw [List.length_append, hol, hnl, Nat.add_mul]
 have hge := grownCap_ge w (n + m) cap0 e
 generalize hc : grownCap w (n + m) cap0 e = c at hrun hge
 generalize harr : (volds ++ vnews).toArray ++ Builtin.zeroCells z.cells (c - (n + m)) = arr at hrun
 have hv : ∀ (j : Nat) v, (volds ++ vnews)[j]? = some v → arr[j]? = some v := by
  intro j v hj
  have hlt := (List.getElem?_eq_some_iff.1 hj).1
  subst harr
  rw [Array.getElem?_append_left (by simpa using hlt)]
  simpa using hj
 have hsize : arr.size = c * ei.size := by
  subst harr
  rw [Array.size_append, List.size_toArray, hlen, size_zeroCells, hzs, ← Nat.add_mul]
  congr 1; omega
 have hle : (volds ++ vnews).length ≤ arr.size := by rw [hlen, hsize]; exact Nat.mul_le_mul_right _ hge
 cases mu with
 | true =>
  simp only [if_true, Option.some.injEq, Prod.mk.injEq] at hr
  obtain ⟨rfl, rfl⟩ := hr
  obtain ⟨e1, e2⟩ := d1.newCells (olds ++ news) (volds ++ vnews) hall arr e hv hle
  refine ⟨_, _, _, hrun, e1, d2.trans e2, ?_⟩
  simp only [Rv]
  refine ⟨w.heap.size, 0, c, by simp [Gh.addOb], rfl, hge, arr, e, (0, 0), heap_alloc_at w.drew _, by rw [hsize]; omega⟩
 | false =>
  simp only [Bool.false_eq_true, if_false, Option.some.injEq, Prod.mk.injEq] at hr
  obtain ⟨rfl, rfl⟩ := hr
  obtain ⟨e1, e2⟩ := d1.newRow arr e (volds ++ vnews).length
  have hbl : ∀ o x, σ.get o = some x → bl (G.setFr w.heap.size (volds ++ vnews).length) o x ≠ some w.heap.size := by
   intro o x hx hb
   obtain ⟨b0, k0, k1, _⟩ := (d1.ok o x hx).lt
   have : bl (G.setFr w.heap.size (volds ++ vnews).length) o x = some b0 := by cases x <;> exact k0
   rw [this] at hb; cases hb
   exact absurd k1 (by rw [drew_size]; omega)
  obtain ⟨e3, e4⟩ := e1.newTok w.heap.size (volds ++ vnews).length (by simp [Gh.setFr]) (free_new w.drew arr e hle) hs.notNew hbl
  refine ⟨_, _, _, hrun, e3, (d2.trans e2).trans e4, ?_⟩
  simp only [Rv]
  refine ⟨w.heap.size, 0, c, volds ++ vnews, rfl, by rw [← hall.length, hlen], hge, (row_new w.drew G arr e _ hv).ext e4, RvL.ext (e2.trans e4) _ _ hall, ?_, arr, e, (0, 0), heap_alloc_at w.drew _, by rw [hsize]; omega⟩
  simp [Gh.addTk, hall.length]
end
end Go.Ab
