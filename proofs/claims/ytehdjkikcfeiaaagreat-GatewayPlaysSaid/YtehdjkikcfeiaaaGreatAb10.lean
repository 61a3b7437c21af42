/- Conversions; making, clearing; maps. -/
import Derived.Test.YtehdjkikcfeiaaaGreatAb9
namespace Go.Ab
open Go.RowKit
section
variable {P : Program} {G : Gh} {σ : St} {w : World}
def toByte : V → Option UInt8
 | .sc (.int .u8 n) => some (UInt8.ofNat n.toNat)
 | _ => none
def aB2s (σ : St) (x : V) : Option V :=
 (aSrc σ 1 x).bind fun (_, xs) => match x with
   | .str _ => none
   | _ => (xs.mapM toByte).map .str
theorem bytes_ints : ∀ {xs : List V} {vals : List Value} {bs : List UInt8}, RvL G w xs vals → xs.mapM toByte = some bs → ∃ ns : List Int, vals = ns.map (Value.int .u8) ∧ ns.map (fun n => UInt8.ofNat n.toNat) = bs
 | [], vals, bs, h, hm => by simp only [RvL] at h; simp at hm; subst h; subst hm; exact ⟨[], rfl, rfl⟩
 | x :: xs, vals, bs, h, hm => by
  simp only [RvL] at h
  obtain ⟨v, vs, rfl, h2, h3⟩ := h
  simp only [List.mapM_cons, Option.bind_eq_bind, Option.bind_eq_some_iff, Option.pure_def, Option.some.injEq] at hm
  obtain ⟨b, k1, bs', k2, rfl⟩ := hm
  unfold toByte at k1
  split at k1
  · cases k1
    have := scv h2; subst this
    obtain ⟨ns, rfl, rfl⟩ := bytes_ints h3 k2
    exact ⟨_ :: ns, rfl, rfl⟩
  · cases k1
theorem foldl_push : ∀ (ns : List Int) (b : ByteArray), (ns.foldl (fun r n => r.push (UInt8.ofNat n.toNat)) b).data.toList = b.data.toList ++ ns.map (fun n => UInt8.ofNat n.toNat)
 | [], b => by simp
 | n :: ns, b => by
  rw [List.foldl_cons, foldl_push ns]
  simp [ByteArray.push]
theorem b2s_ok {x r : V} {v : Value} (hs : Rs G σ w) (hx : Rv G w x v) (h : aB2s σ x = some r) : Does P (Conv.bytesToString v) G w σ r := by
 unfold aB2s at h
 rw [Option.bind_eq_some_iff] at h
 obtain ⟨⟨n, xs⟩, h1, h2⟩ := h
 obtain ⟨vals, h3, h4, h5⟩ := src_ok (P := P) hs hx h1
 have h6 : (xs.mapM toByte).map V.str = some r ∧ ∀ l, x ≠ .str l := by
  cases x <;> simp at h2 ⊢ <;> exact h2
 obtain ⟨h6, h7⟩ := h6
 rw [Option.map_eq_some_iff] at h6
 obtain ⟨bs, h8, rfl⟩ := h6
 obtain ⟨ns, rfl, rfl⟩ := bytes_ints h4 h8
 have hsl : v = .slice none 0 0 ∨ ∃ a c, v = .slice (some a) n c := by
  unfold aSrc at h1
  split at h1
  · exact Or.inl (scv hx)
  · cases h1; exact Or.inr ⟨_, _, scv hx⟩
  · simp only [Rv] at hx; obtain ⟨b, s, cap, _, rfl, _⟩ := hx
    split at h1 <;> cases h1
    exact Or.inr ⟨_, _, rfl⟩
  · simp only [Rv] at hx; obtain ⟨b, s, cap, _, rfl, _⟩ := hx
    split at h1
    · split at h1 <;> cases h1
      exact Or.inr ⟨_, _, rfl⟩
    · cases h1
  · exact absurd rfl (h7 _)
  · cases h1
 rcases hsl with rfl | ⟨a, c, rfl⟩
 · have hn : ns = [] := by
    have hc := h3.cells
    simp [Builtin.firstCells] at hc
    simpa using hc.symm
   subst hn
   exact Does.pure hs (v := .string .empty) (by simp [Conv.bytesToString]) (Rv.str rfl)
 · have hc := h3.cells
   simp only [Builtin.firstCells, Nat.mul_one] at hc
   exact Does.pure hs (run_bytesToString w a n c ns hc) (Rv.str (by rw [foldl_push]; simp))
def aS2b (σ : St) (x : V) : Option (V × St) :=
 match x with
 | .str l => some (.vs (.tok σ.n) 1 l.length (l.map byteV), σ.push .tok)
 | _ => none
theorem s2b_ok {x r : V} {v : Value} {e : TypeId} {σ' : St} (hs : Rs G σ w) (hx : Rv G w x v) (h : aS2b σ x = some (r, σ')) :
  ∃ s, v = .string s ∧ Does P (Conv.stringToBytes e s) G w σ' r := by
 unfold aS2b at h
 split at h
 · rename_i l
   cases h
   obtain ⟨s, rfl, rfl⟩ := str_of hx
   refine ⟨s, rfl, ?_⟩
   obtain ⟨d1, d2⟩ := hs.drew
   generalize hc : grownCap w s.size 0 e = c
   have hge : s.size ≤ c := by rw [← hc]; exact grownCap_ge w _ _ _
   generalize harr : (s.data.map fun b => Value.int .u8 (b.toNat : Int)) ++ Array.replicate (c - s.size) (.int .u8 0) = arr
   have hsz : arr.size = c := by subst harr; simp; have : s.data.size = s.size := rfl; omega
   have hv : ∀ (j : Nat) v, (s.data.toList.map fun b => Value.int .u8 (b.toNat : Int))[j]? = some v → arr[j]? = some v := by
    intro j v hj
    have hlt := (List.getElem?_eq_some_iff.1 hj).1
    subst harr
    rw [Array.getElem?_append_left (by simpa using hlt)]
    simpa using hj
   have hlen : (s.data.toList.map fun b => Value.int .u8 (b.toNat : Int)).length = s.size := by rw [List.length_map, size_eq]
   have hfz : ∀ j, j < arr.size → ¬ ((arr.size, arr.size + 1).1 ≤ j ∧ j < (arr.size, arr.size + 1).2) := fun j hj hh => by simp at hh; omega
   obtain ⟨e1, e2⟩ := d1.newRow arr e (s.data.toList.map fun b => Value.int .u8 (b.toNat : Int)).length (arr.size, arr.size + 1)
   obtain ⟨e3, e4⟩ := e1.newTok w.heap.size (s.data.toList.map fun b => Value.int .u8 (b.toNat : Int)).length (by simp [Gh.setFr])
    (free_newZ w.drew arr e (arr.size, arr.size + 1) (by rw [hlen, hsz]; exact hge) hfz) hs.notNew (d1.newRow_bl _)
   refine ⟨.slice (some ⟨w.heap.size, 0, none⟩) s.size c, w.drew.alloc (.cells arr e (arr.size, arr.size + 1)), _, ?_, e3, (d2.trans e2).trans e4, ?_⟩
   · have hfr : (w.drew.alloc (.cells arr e)).freeze ⟨w.heap.size, arr.size, none⟩ 1 = w.drew.alloc (.cells arr e (arr.size, arr.size + 1)) := by
      simp only [World.freeze, World.alloc, World.drew]
      simp only [Nat.one_ne_zero, if_false]
      congr 1
      apply Array.ext_getElem?
      intro j
      simp only [Array.getElem?_modify, Array.getElem?_push]
      by_cases hj : j = w.heap.size
      · subst hj; simp
      · simp [hj, Ne.symm hj]
     have hsh : (w.drew.alloc (.cells arr e)).shape? w.heap.size = some (e, arr.size) := by
      have := heap_alloc_at w.drew (.cells arr e)
      simp only [drew_size] at this
      unfold World.shape?
      rw [this]
     have hq : (Question.appendCap s.size 0 e).cut (w.tape w.drawn (.appendCap s.size 0 e)) = c := hc
     simp only [Conv.stringToBytes, choose, Sem.run_bind, Sem.run, Question.forced, Bool.false_eq_true, if_false, Result.andThen_ok, hq, newRow, run_newObj, Sem.run_pure, markStringish, run_shape, harr, World.drew_eq, World.alloc_eq, drew_size]
     simp only [hsh, run_freeze, hfr, Result.andThen_ok]
   · simp only [Rv]
     refine ⟨w.heap.size, 0, c, _, by rw [size_eq], by simp, by rw [← size_eq]; exact hge, (row_new w.drew G arr e _ hv (arr.size, arr.size + 1)).ext e4, RvL.bytes _, ?_, arr, e, _, heap_alloc_at w.drew _, by rw [hsz]; omega⟩
     simp [Gh.addTk]
 · cases h
theorem range_flat {α : Type} [Inhabited α] (z : List α) : ∀ n, ((Array.range (n * z.length)).map fun i => z.toArray[i % z.toArray.size]!).toList = (List.replicate n z).flatten
 | 0 => by simp
 | n + 1 => by
  have ih := range_flat z n
  simp only [Array.toList_map, Array.toList_range, List.size_toArray] at ih ⊢
  rw [List.replicate_succ', List.flatten_append, ← ih, Nat.add_mul, Nat.one_mul, List.range_add, List.map_append]
  congr 1
  apply List.ext_getElem?
  intro j
  simp only [List.map_map, List.getElem?_map, List.flatten_cons, List.flatten_nil, List.append_nil]
  rcases Nat.lt_or_ge j z.length with hj | hj
  · rw [List.getElem?_range hj]
    have : (n * z.length + j) % z.length = j := by rw [Nat.add_comm, Nat.add_mul_mod_self_right, Nat.mod_eq_of_lt hj]
    simp [this, hj]
  · rw [List.getElem?_eq_none (by simpa using hj), List.getElem?_eq_none hj]; rfl
theorem RvL.flat {xs : List V} {vs : List Value} (h : RvL G w xs vs) : ∀ n, RvL G w (List.replicate n xs).flatten (List.replicate n vs).flatten
 | 0 => RvL.nil
 | n + 1 => by
  simp only [List.replicate_succ, List.flatten_cons]
  exact h.append (RvL.flat h n)
theorem flat_length {α : Type} (z : List α) (n : Nat) : (List.replicate n z).flatten.length = n * z.length := by
 induction n with
 | zero => simp
 | succ n ih => rw [List.replicate_succ, List.flatten_cons, List.length_append, ih, Nat.add_mul]; omega
def zeros (z : List V) (n : Nat) : List V := (List.replicate n z).flatten
def aBslice (sz len : Nat) (z : List V) (parts : List (Nat × Nat × V)) : Option V :=
 if len * sz ≤ 16777216 ∧ z.length = sz then (fillV (zeros z len) parts).map fun cs => .vs .exact sz len cs else none
theorem bslice_ok {t e : TypeId} {ei : TypeInfo} {zv : Value} {z : List V} {len : Nat} {parts : List (Nat × Nat × V)} {ps : Array (Nat × Value)} {r : V} (hs : Rs G σ w) (ht : P.underlying t = some (.slice e)) (hi : P.info? e = some ei)
  (hz : ei.zero = some zv) (hzv : RvL G w z zv.cells.toList) (hp : PartsR G w parts ps.toList (fun i => some (i * ei.size, ei.size))) (h : aBslice ei.size len z parts = some r) :
  Does P (Instr.buildSlice t len ps) G w σ r := by
 unfold aBslice at h
 split at h
 · rename_i hc
   rw [Option.map_eq_some_iff] at h
   obtain ⟨cs, h1, rfl⟩ := h
   have hzl : zv.cells.size = ei.size := by have := hzv.length; simpa [hc.2] using this
   have hrow : RvL G w (zeros z len) (((Array.range (len * ei.size)).map fun i => zv.cells[i % zv.cells.size]!).toList) := by
    have e1 : zv.cells.toList.toArray = zv.cells := by simp
    have := range_flat zv.cells.toList len
    rw [e1] at this
    rw [← hzl]
    have e2 : zv.cells.toList.length = zv.cells.size := by simp
    rw [e2] at this
    rw [this]
    exact hzv.flat len
   obtain ⟨rs, k1, k2⟩ := fill_ok hp hrow h1
   have hl : rs.toList.length = len * ei.size := by rw [k2.length, fillV_length h1, zeros, flat_length, hc.2]
   obtain ⟨e1, e2⟩ := hs.newRow rs e rs.toList.length
   have hbig : ¬ (16777216 < len * ei.size) := by omega
   refine ⟨.slice (some ⟨w.heap.size, 0, none⟩) len len, w.alloc (.cells rs e), _, ?_, e1, e2, ?_⟩
   · have hsz : (sizeOf e).run P w = .ok ei.size w := by simp [sizeOf, typeInfo, hi]
     have k1' : Instr.fill (fun i => some (i * ei.size, ei.size)) ((Array.range (len * ei.size)).map fun i => (if len * ei.size = 0 then #[] else zv.cells)[i % (if len * ei.size = 0 then #[] else zv.cells).size]!) ps.toList = some rs := by
      rw [← k1]; congr 1
      by_cases h0 : len * ei.size = 0
      · simp [h0]
      · simp [h0]
     simp only [Instr.buildSlice, Sem.run_bind, run_underlying ht, hsz, Result.andThen_ok]
     rw [if_neg (by simpa using hbig)]
     have hzv' : (zeroValue e).run P w = .ok zv w := by simp [zeroValue, typeInfo, hi, hz]
     by_cases h0 : len * ei.size = 0
     · simp only [h0, if_true] at k1' ⊢
       simp only [Sem.run_bind, Sem.run_pure, Result.andThen_ok, k1']
       simp [newRow]
     · simp only [h0, if_false] at k1' ⊢
       simp only [Sem.run_bind, Sem.run_pure, Result.andThen_ok, hzv', k1']
       simp [newRow]
   · simp only [Rv]
     refine ⟨w.heap.size, 0, len, rs.toList, rfl, by rw [← k2.length, hl], Nat.le_refl _, row_new w G rs e _ (fun j v hj => by simpa using hj), RvL.ext e2 _ _ k2, rfl⟩
 · cases h
end
end Go.Ab
