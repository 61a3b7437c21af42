/- Arguments: what a row reads is abstract values. -/
import Derived.Test.YtehdjkikcfeiaaaGreatAb20
import Derived.WalkKit
import Derived.ProofKit
import Derived.OpenShut
namespace Go.Ab
open Go.RowKit Go.ChangeShapes Go.WideShapes
section
inductive Ty where
 | bool | int (k : IntKind) | str | agg (fs : List Ty) | sl (e : Ty)
 deriving Inhabited
mutual
def Ty.size : Ty → Nat
 | .bool | .int _ | .str | .sl _ => 1
 | .agg fs => Ty.sizeL fs
def Ty.sizeL : List Ty → Nat
 | [] => 0
 | t :: ts => t.size + Ty.sizeL ts
end
mutual
def Ty.low : Ty → Nat
 | .bool => 1
 | .int k => k.bits / 8
 | .str => 16
 | .sl _ => 24
 | .agg fs => Ty.lowL fs
def Ty.lowL : List Ty → Nat
 | [] => 0
 | t :: ts => t.low + Ty.lowL ts
end
def laidB (P : Program) : Nat → List (TypeId × Nat) → List Ty → Bool
 | _, [], [] => true
 | o, (t, off) :: fs, T :: Ts => Nat.beq off o && Nat.beq (P.cellsOf t) T.size && laidB P (o + T.size) fs Ts
 | _, _, _ => false
def tyOf (P : Program) : Nat → TypeId → Option Ty
 | 0, _ => none
 | f + 1, t => match P.underlying t with
  | some .bool => some .bool
  | some (.int k) => some (.int k)
  | some .string => some .str
  | some (.slice e) => (tyOf P f e).bind fun T => if Nat.beq (P.cellsOf e) T.size && (Nat.blt 0 T.size && Nat.ble T.low (P.bytesOf e)) then some (.sl T) else none
  | some (.struct fs) => (fs.toList.mapM fun x => tyOf P f x.type).bind fun Ts => if laidB P 0 (fs.toList.map fun x => (x.type, x.offset)) Ts && Nat.beq (P.cellsOf t) (Ty.sizeL Ts) then some (.agg Ts) else none
  | some (.array n e) => (tyOf P f e).bind fun T => if laidB P 0 ((List.range n).map fun i => (e, i * P.cellsOf e)) (List.replicate n T) && Nat.beq (P.cellsOf t) (Ty.sizeL (List.replicate n T)) then some (.agg (List.replicate n T)) else none
  | _ => none
mutual
def Arg : Ty → List V → Prop
 | .bool, xs => ∃ b, xs = [.sc (.bool b)]
 | .int k, xs => ∃ n, xs = [.sc (.int k n)] ∧ (Lit.int k n).wf = true
 | .str, xs => ∃ l : List UInt8, xs = [.str l] ∧ l.length ≤ reachBytes
 | .agg ts, xs => ArgL ts xs
 | .sl e, xs => xs = [.sc .nilS] ∨ (∃ a, xs = [.sc (.oddS a)]) ∨ ∃ es : List (List V), (∀ a, a ∈ es → Arg e a) ∧ xs = [.vs .ro e.size es.length es.flatten] ∧ es.length ≤ maxLen ∧ es.length * e.low ≤ reachBytes
def ArgL : List Ty → List V → Prop
 | [], xs => xs = []
 | t :: ts, xs => ∃ a b, xs = a ++ b ∧ Arg t a ∧ ArgL ts b
end
mutual
theorem Arg.length : ∀ (T : Ty) (xs : List V), Arg T xs → xs.length = T.size
 | .bool, xs, h => by simp only [Arg] at h; obtain ⟨b, rfl⟩ := h; simp [Ty.size]
 | .int k, xs, h => by simp only [Arg] at h; obtain ⟨b, rfl, _⟩ := h; simp [Ty.size]
 | .str, xs, h => by simp only [Arg] at h; obtain ⟨b, rfl, _⟩ := h; simp [Ty.size]
 | .agg ts, xs, h => by simp only [Arg] at h; simpa [Ty.size] using ArgL.length ts xs h
 | .sl e, xs, h => by
  simp only [Arg] at h
  rcases h with rfl | ⟨_, rfl⟩ | ⟨_, _, rfl, _⟩ <;> simp [Ty.size]
theorem ArgL.length : ∀ (Ts : List Ty) (xs : List V), ArgL Ts xs → xs.length = Ty.sizeL Ts
 | [], xs, h => by simp only [ArgL] at h; subst h; simp [Ty.sizeL]
 | t :: ts, xs, h => by
  simp only [ArgL] at h
  obtain ⟨a, b, rfl, h1, h2⟩ := h
  simp [Ty.sizeL, Arg.length t a h1, ArgL.length ts b h2]
end
variable {H : Type} {enc : TypeId × Value → H} {P : Program} {W : World} {base : Nat} {spare : Nat → Bool} {held : Bool}
theorem laid_ok {G : Gh} {w : World} {cs : List Value} : ∀ (fs : List (TypeId × Nat)) (Ts : List Ty) (o : Nat), laidB P o fs Ts = true → cs.length = o + Ty.sizeL Ts →
  (∀ (i : Nat) (t : TypeId) (off : Nat), fs[i]? = some (t, off) → ∃ T : Ty, Ts[i]? = some T ∧ ∃ xs, Arg T xs ∧ RvL G w xs ((cs.drop off).take (P.cellsOf t))) → ∃ ys, ArgL Ts ys ∧ RvL G w ys (cs.drop o)
 | [], [], o, _, hl, _ => by
  simp only [Ty.sizeL] at hl
  have he : cs.drop o = [] := List.drop_of_length_le (by omega)
  exact ⟨[], by simp [ArgL], by rw [he]; exact RvL.nil⟩
 | [], _ :: _, o, h, _, _ => by simp [laidB] at h
 | _ :: _, [], o, h, _, _ => by simp [laidB] at h
 | (t, off) :: fs, T :: Ts, o, h, hl, hf => by
  simp only [laidB, Bool.and_eq_true] at h
  obtain ⟨⟨h1, h2⟩, h3⟩ := h
  have h1 := Nat.eq_of_beq_eq_true h1
  have h2 := Nat.eq_of_beq_eq_true h2
  subst h1
  simp only [Ty.sizeL] at hl
  obtain ⟨T', hT, xs, hx, hr⟩ := hf 0 t off rfl
  cases hT
  rw [h2] at hr
  obtain ⟨ys, hy, hs⟩ := laid_ok (G := G) (w := w) (cs := cs) fs Ts (off + T.size) h3 (by omega) (fun i t' off' hi => by
   obtain ⟨T', k1, k2⟩ := hf (i + 1) t' off' (by simpa using hi)
   exact ⟨T', by simpa using k1, k2⟩)
  refine ⟨xs ++ ys, by simp only [ArgL]; exact ⟨xs, ys, rfl, hx, hy⟩, ?_⟩
  have e : cs.drop off = (cs.drop off).take T.size ++ cs.drop (off + T.size) := by
   rw [← List.drop_drop, List.take_append_drop]
  rw [e]
  exact RvL.append hr hs
theorem mapM_at {α β : Type} {f : α → Option β} : ∀ {l : List α} {r : List β}, l.mapM f = some r → ∀ (i : Nat) (a : α), l[i]? = some a → ∃ b : β, r[i]? = some b ∧ f a = some b
 | [], r, h, i, a, hi => by simp at hi
 | x :: xs, r, h, i, a, hi => by
  simp only [List.mapM_cons, Option.bind_eq_bind, Option.bind_eq_some_iff, Option.pure_def, Option.some.injEq] at h
  obtain ⟨b, h1, bs, h2, rfl⟩ := h
  cases i with
  | zero => simp at hi; subst hi; exact ⟨b, rfl, h1⟩
  | succ i => simpa using mapM_at h2 i a (by simpa using hi)
theorem flat_len {sz : Nat} : ∀ {es : List (List V)}, (∀ a ∈ es, a.length = sz) → es.flatten.length = es.length * sz
 | [], _ => by simp
 | a :: es, h => by
  rw [List.flatten_cons, List.length_append, flat_len fun b hb => h b (by simp [hb]), h a (by simp), List.length_cons, Nat.succ_mul, Nat.add_comm]
theorem row_read {a : Addr} {vals : List Value} (ha : a.spot = none ∨ vals ≠ []) (h : ∀ i v, vals[i]? = some v → W.cell? (a.add i) = some v) : (vals ≠ [] → a.spot = none) ∧ Row (Gh.of W) W a.block a.off vals := by
 have hs : vals ≠ [] → a.spot = none := by
  intro hn
  obtain ⟨v, vs, rfl⟩ := List.exists_cons_of_ne_nil hn
  have h0 := h 0 v rfl
  simp only [Addr.add, if_true, World.cell?] at h0
  split at h0
  · split at h0
    · cases h0
    · rename_i hsp
      cases hq : a.spot with
      | none => rfl
      | some q => simp [hq] at hsp
  · cases h0
 have hc : ∀ i v, vals[i]? = some v → W.cell? ⟨a.block, a.off + i, none⟩ = some v := by
  intro i v hi
  have hn : vals ≠ [] := by rintro rfl; simp at hi
  have h1 := h i v hi
  have h2 := hs hn
  unfold Addr.add at h1
  split at h1
  · rename_i h0; subst h0
    obtain ⟨b, o, s⟩ := a
    simp only at h2; subst h2
    simpa using h1
  · exact h1
 refine ⟨hs, ⟨fun hn => ?_, fun j v hj => hc j v hj⟩⟩
 have hlt : vals.length - 1 < vals.length := by
  have := List.length_pos_iff.2 hn; omega
 have h1 := hc (vals.length - 1) _ (List.getElem?_eq_getElem hlt)
 show a.off + vals.length ≤ World.len W a.block
 unfold World.cell? at h1
 unfold World.len
 split at h1
 · rename_i c e fz hb
   have hb' : W.heap[a.block]? = some (Obj.cells c e fz) := hb
   rw [hb']
   simp only [Option.isSome_none, Bool.false_eq_true, if_false] at h1
   have := (Array.getElem?_eq_some_iff.1 h1).1
   simp only; omega
 · cases h1
def Wt (P : Program) (t : TypeId) (d : DataW H) : Prop := ∀ y ∈ DataW.weights P t d, y ≤ reachBytes
theorem wt_all {e : TypeId} : ∀ {l : List (DataW H)}, (∀ y ∈ DataW.weightsAll P e l, y ≤ reachBytes) → ∀ d ∈ l, Wt P e d
 | [], _, d, hd => by cases hd
 | x :: l, h, d, hd => by
  simp only [DataW.weightsAll, List.mem_append] at h
  rcases List.mem_cons.1 hd with rfl | hd
  · exact fun y hy => h y (.inl hy)
  · exact wt_all (fun y hy => h y (.inr hy)) d hd
theorem wt_each : ∀ {ts : List TypeId} {l : List (DataW H)}, (∀ y ∈ DataW.weightsEach P ts l, y ≤ reachBytes) → ∀ (i : Nat) t d, ts[i]? = some t → l[i]? = some d → Wt P t d
 | [], l, h, i, t, d, ht, hd => by simp at ht
 | t0 :: ts, [], h, i, t, d, ht, hd => by simp at hd
 | t0 :: ts, x :: l, h, i, t, d, ht, hd => by
  simp only [DataW.weightsEach, List.mem_append] at h
  cases i with
  | zero => simp at ht hd; subst ht; subst hd; exact fun y hy => h y (.inl hy)
  | succ i => exact wt_each (fun y hy => h y (.inr hy)) i t d (by simpa using ht) (by simpa using hd)
theorem elems_ok {e : TypeId} {T : Ty} {a : Addr} (he : ∀ (fuel : Nat) (cs : List Value) (x : DataW H × List MemPlace), DataW.trod enc P W base spare held fuel e cs = some x → Wt P e x.1 → ∃ xs, Arg T xs ∧ RvL (Gh.of W) W xs cs) (hz : P.cellsOf e = T.size) {n : Nat} (hn : ∀ i, i < n → ∃ fuel x, (W.cells? base (a.add (i * P.cellsOf e)) (P.cellsOf e)).bind (DataW.trod enc P W base spare held fuel e) = some x ∧ Wt P e x.1) :
  ∃ (es : List (List V)) (vals : List Value), es.length = n ∧ (∀ a ∈ es, Arg T a) ∧ RvL (Gh.of W) W es.flatten vals ∧ ∀ i v, vals[i]? = some v → W.cell? (a.add i) = some v := by
 induction n with
 | zero => exact ⟨[], [], rfl, by simp, RvL.nil, fun i v h => by simp at h⟩
 | succ n ih =>
  obtain ⟨es, vals, h1, h2, h3, h4⟩ := ih (fun i hi => hn i (by omega))
  obtain ⟨fuel, x, hx, hwx⟩ := hn n (by omega)
  rw [Option.bind_eq_some_iff] at hx
  obtain ⟨cs, hc, hd⟩ := hx
  obtain ⟨_, hcl, hcc⟩ := World.cells?_some hc
  obtain ⟨xs, hx1, hx2⟩ := he fuel cs x hd hwx
  have hlen : vals.length = n * T.size := by
   rw [h3.length]
   clear h3 h4
   rw [List.length_flatten]
   have : ∀ l : List (List V), (∀ a ∈ l, Arg T a) → (l.map List.length).sum = l.length * T.size := by
    intro l
    induction l with
    | nil => intro _; simp
    | cons y ys ihy =>
     intro hy
     rw [List.map_cons, List.sum_cons, ihy (fun a ha => hy a (by simp [ha])), Arg.length T y (hy y (by simp)), List.length_cons, Nat.succ_mul, Nat.add_comm]
   rw [this es h2, h1]
  refine ⟨es ++ [xs], vals ++ cs, by simp [h1], ?_, ?_, ?_⟩
  · intro y hy
    rcases List.mem_append.1 hy with hy | hy
    · exact h2 y hy
    · simp at hy; subst hy; exact hx1
  · rw [List.flatten_append]
    exact RvL.append h3 (by simpa using hx2)
  · intro i v hi
    rcases Nat.lt_or_ge i vals.length with hl | hl
    · rw [List.getElem?_append_left hl] at hi; exact h4 i v hi
    · rw [List.getElem?_append_right hl] at hi
      have hlt : i - vals.length < cs.length := (List.getElem?_eq_some_iff.1 hi).1
      have := hcc (i - vals.length) (by omega)
      rw [hi] at this
      rw [← this]
      congr 1
      rw [hz, ← hlen]
      unfold Addr.add
      by_cases h0 : i = 0
      · have h5 : vals.length = 0 := by omega
        simp [h0, h5]
      · simp only [h0, if_false]
        by_cases h5 : vals.length = 0
        · simp only [h5, if_true, Nat.sub_zero, h0, if_false]
        · by_cases h6 : i - vals.length = 0
          · simp only [h5, if_false, h6, if_true]; congr 1; omega
          · simp only [h5, if_false, h6]; congr 1; omega
theorem arg_ok (hspare : ∀ b, spare b = true) : ∀ (f : Nat) {t : TypeId} {T : Ty} {fuel : Nat} {cs : List Value} {x : DataW H × List MemPlace}, tyOf P f t = some T → DataW.trod enc P W base spare held fuel t cs = some x → Wt P t x.1 →
  ∃ xs, Arg T xs ∧ RvL (Gh.of W) W xs cs
 | 0, t, T, fuel, cs, x, h, _, _ => by cases h
 | f + 1, t, T, fuel, cs, x, h, hd, hw => by
  simp only [tyOf] at h
  split at h
  · rename_i ht
    cases h
    obtain ⟨b, rfl, _⟩ := DataW.trod_bool ht hd
    exact ⟨[.sc (.bool b)], by simp [Arg], RvL.one Rv.bool⟩
  · rename_i k ht
    cases h
    obtain ⟨n, rfl, _, hw⟩ := DataW.trod_int ht hd
    exact ⟨[.sc (.int k n)], by simp [Arg, hw], RvL.one Rv.int⟩
  · rename_i ht
    cases h
    obtain ⟨s, rfl, hxe, hs⟩ := DataW.trod_string ht hd
    subst hxe
    exact ⟨[.str s.data.toList], by simp only [Arg]; exact ⟨_, rfl, hw _ (by simp [DataW.weights])⟩, RvL.one (by simp only [Rv]; exact ⟨s, rfl, rfl⟩)⟩
  · rename_i e ht
    rw [Option.bind_eq_some_iff] at h
    obtain ⟨T1, h1, h2⟩ := h
    split at h2
    · rename_i hb
      cases h2
      simp only [Bool.and_eq_true] at hb
      have hz := Nat.eq_of_beq_eq_true hb.1
      have hb2 := hb.2.2
      have hpos : 0 < T1.size := by have := hb.2.1; simp [Nat.blt] at this; omega
      rcases DataW.trod_slice ht hd with ⟨rfl, _⟩ | ⟨a, len, cap, elems, rest, n, _, rfl, hxe, hba, hl, hm, hlen, hel, hsp, _⟩
      · exact ⟨[.sc .nilS], by simp [Arg], RvL.one (by simp only [Rv, Sc.val])⟩
      · by_cases hc0 : cap = 0
        · subst hc0
          have hl0 : len = 0 := by omega
          subst hl0
          exact ⟨[.sc (.oddS a)], by simp [Arg], RvL.one (by simp only [Rv, Sc.val])⟩
        · have h0 : ∃ y, (W.cells? base (a.add (0 * P.cellsOf e)) (P.cellsOf e)).bind (DataW.trod enc P W base spare held n e) = some y := by
           by_cases hl0 : 0 < len
           · exact ⟨_, (hel 0 hl0).trans (List.getElem?_eq_getElem (by omega))⟩
           · have hl00 : len = 0 := by omega
             subst hl00
             obtain ⟨hr1, hr2⟩ := hsp (hspare _)
             exact ⟨_, (hr2 0 (by omega)).trans (List.getElem?_eq_getElem (by omega))⟩
          have hspot : a.spot = none := by
           obtain ⟨y, hy⟩ := h0
           rw [Option.bind_eq_some_iff] at hy
           obtain ⟨cs0, hc, _⟩ := hy
           obtain ⟨_, hcl, hcc⟩ := World.cells?_some hc
           have := hcc 0 (by omega)
           rw [List.getElem?_eq_getElem (by omega)] at this
           simp only [Nat.zero_mul, Addr.add, if_true, World.cell?] at this
           split at this
           · split at this
             · cases this
             · rename_i hs; cases hq : a.spot with
               | none => rfl
               | some q => simp [hq] at hs
           · cases this
          have hw2 : (elems.length + rest.length) * P.bytesOf e ≤ reachBytes ∧ ∀ y ∈ DataW.weightsAll P e (elems.map (·.1)), y ≤ reachBytes := by
           subst hxe
           unfold Wt at hw
           simp only [DataW.weights, ht, List.mem_cons, List.mem_append, List.length_map] at hw
           exact ⟨hw _ (.inl rfl), fun y hy => hw y (.inr (.inl hy))⟩
          obtain ⟨es, vals, k1, k2, k3, k4⟩ := elems_ok (enc := enc) (spare := spare) (held := held) (base := base) (a := a) (T := T1) (fun fuel cs x hx hwx => arg_ok hspare f h1 hx hwx) hz (n := len) (fun i hi => ⟨n, _, (hel i hi).trans (List.getElem?_eq_getElem (by omega)), wt_all hw2.2 _ (List.mem_map.2 ⟨_, List.getElem_mem _, rfl⟩)⟩)
          have hlow := Nat.le_of_ble_eq_true hb2
          have hbd : es.length * T1.low ≤ reachBytes := Nat.le_trans (Nat.mul_le_mul (by omega) hlow) hw2.1
          obtain ⟨_, hrow⟩ := row_read (.inl hspot) k4
          refine ⟨[.vs .ro T1.size es.length es.flatten], by simp only [Arg]; exact .inr (.inr ⟨es, k2, rfl, by omega, hbd⟩), RvL.one ?_⟩
          simp only [Rv]
          obtain ⟨b, o, s⟩ := a
          simp only at hspot; subst hspot
          exact ⟨b, o, cap, vals, by rw [k1], flat_len (fun y hy => Arg.length T1 y (k2 y hy)), by omega, hrow, k3, trivial⟩
    · cases h2
  · rename_i fs ht
    simp only [Option.bind_eq_some_iff] at h
    obtain ⟨Ts, h1, h2⟩ := h
    split at h2
    · rename_i hb
      cases h2
      simp only [Bool.and_eq_true] at hb
      obtain ⟨xs, n, rfl, hxe, hl, hxl, hf⟩ := DataW.trod_struct ht hd
      have hw2 : ∀ y ∈ DataW.weightsEach P (fs.toList.map (·.type)) (xs.map (·.1)), y ≤ reachBytes := by
       subst hxe
       unfold Wt at hw
       simpa only [DataW.weights, ht] using hw
      have h3 := Nat.eq_of_beq_eq_true hb.2
      obtain ⟨ys, k1, k2⟩ := laid_ok (G := Gh.of W) (w := W) (cs := cs) _ Ts 0 hb.1 (by omega) (fun i t' off hi => by
       rw [List.getElem?_map] at hi
       rw [Option.map_eq_some_iff] at hi
       obtain ⟨fd, hi, he⟩ := hi
       cases he
       obtain ⟨T', l1, l2⟩ := mapM_at h1 i fd hi
       have hfi := hf i fd (by simpa using hi)
       have hlt : i < xs.length := by
        have := (List.getElem?_eq_some_iff.1 hi).1
        simp at this; omega
       rw [List.getElem?_eq_getElem hlt] at hfi
       obtain ⟨zs, m1, m2⟩ := arg_ok hspare f l2 hfi (wt_each hw2 i fd.type _ (by simp [hi]) (by rw [List.getElem?_map, List.getElem?_eq_getElem hlt]; rfl))
       exact ⟨T', l1, zs, m1, m2⟩)
      exact ⟨ys, by simpa only [Arg] using k1, by simpa using k2⟩
    · cases h2
  · rename_i n e ht
    simp only [Option.bind_eq_some_iff] at h
    obtain ⟨T1, h1, h2⟩ := h
    split at h2
    · rename_i hb
      cases h2
      simp only [Bool.and_eq_true] at hb
      obtain ⟨xs, m, rfl, hxe, hl, hxl, hf⟩ := DataW.trod_array ht hd
      have hw2 : ∀ y ∈ DataW.weightsAll P e (xs.map (·.1)), y ≤ reachBytes := by
       subst hxe
       unfold Wt at hw
       simpa only [DataW.weights, ht] using hw
      have h3 := Nat.eq_of_beq_eq_true hb.2
      obtain ⟨ys, k1, k2⟩ := laid_ok (G := Gh.of W) (w := W) (cs := cs) _ (List.replicate n T1) 0 hb.1 (by omega) (fun i t' off hi => by
       rw [List.getElem?_map] at hi
       rw [Option.map_eq_some_iff] at hi
       obtain ⟨j, hi, he⟩ := hi
       cases he
       have hi' := List.getElem?_eq_some_iff.1 hi
       obtain ⟨hin, hij⟩ := hi'
       simp only [List.length_range, List.getElem_range] at hin hij
       subst hij
       have hfi := hf i hin
       rw [List.getElem?_eq_getElem (by omega)] at hfi
       obtain ⟨zs, m1, m2⟩ := arg_ok hspare f h1 hfi (wt_all hw2 _ (List.mem_map.2 ⟨_, List.getElem_mem _, rfl⟩))
       exact ⟨T1, by simp [hin], zs, m1, m2⟩)
      exact ⟨ys, by simpa only [Arg] using k1, by simpa using k2⟩
    · cases h2
  · cases h
theorem flat_at {sz : Nat} : ∀ {es : List (List V)}, (∀ a ∈ es, a.length = sz) → ∀ {i : Nat} {x : List V}, es[i]? = some x → i * sz + sz ≤ es.flatten.length ∧ (es.flatten.drop (i * sz)).take sz = x
 | [], _, i, x, hx => by simp at hx
 | a :: es, h, i, x, hx => by
  have ha : a.length = sz := h a (by simp)
  have hr : ∀ b ∈ es, b.length = sz := fun b hb => h b (by simp [hb])
  rw [List.flatten_cons]
  cases i with
  | zero =>
   simp at hx; subst hx
   refine ⟨by simp; omega, ?_⟩
   rw [Nat.zero_mul, List.drop_zero, List.take_append_of_le_length (by omega), List.take_of_length_le (by omega)]
  | succ i =>
   obtain ⟨h1, h2⟩ := flat_at hr (i := i) (x := x) (by simpa using hx)
   refine ⟨by rw [List.length_append, Nat.succ_mul]; omega, ?_⟩
   rw [List.drop_append, List.drop_of_length_le (by rw [ha, Nat.succ_mul]; omega), List.nil_append, ha, show (i + 1) * sz - sz = i * sz by rw [Nat.succ_mul]; omega]
   exact h2
inductive TyA where
 | flat (T : Ty)
 | sl (T : Ty)
def tyA (P : Program) (t : TypeId) : Option TyA :=
 match P.underlying t with
 | some (.slice e) => (tyOf P 8 e).bind fun T => if Nat.beq (P.cellsOf e) T.size && Nat.ble T.low (P.bytesOf e) then some (.sl T) else none
 | some .bool | some (.int _) | some .string | some (.struct _) | some (.array _ _) => (tyOf P 8 t).map .flat
 | _ => none
def ArgA : TyA → V → Prop
 | .flat (.agg ts), x => ∃ xs, x = .agg xs ∧ ArgL ts xs
 | .flat T, x => Arg T [x]
 | .sl T, x => x = .sc .nilS ∨ ∃ es : List (List V), (∀ a ∈ es, Arg T a) ∧ x = .vs .ro T.size es.length es.flatten ∧ es.length ≤ maxLen ∧ es.length * T.low ≤ reachBytes
theorem ArgA_agg {ts : List Ty} {x : V} : ArgA (.flat (.agg ts)) x = ∃ xs, x = .agg xs ∧ ArgL ts xs := rfl
theorem ArgA_int {k : IntKind} {x : V} : ArgA (.flat (.int k)) x = ∃ n, [x] = [.sc (.int k n)] ∧ (Lit.int k n).wf = true := by simp only [ArgA, Arg]
theorem ArgA_bool {x : V} : ArgA (.flat .bool) x = ∃ b, [x] = [.sc (.bool b)] := by simp only [ArgA, Arg]
theorem ArgA_str {x : V} : ArgA (.flat .str) x = ∃ l : List UInt8, [x] = [.str l] ∧ l.length ≤ reachBytes := by simp only [ArgA, Arg]
def ArgAs : List TyA → List V → Prop
 | [], xs => xs = []
 | t :: ts, xs => ∃ x ys, xs = x :: ys ∧ ArgA t x ∧ ArgAs ts ys
theorem okWide_flat {t : TypeId} {r : Reach} {b0 : Nat} {v : Value} {T : Ty} (hv : Value.okWide P W r b0 t v) (h : tyOf P 8 t = some T) {G : Gh} {w : World} {xs : List V} (hx : Arg T xs) (hr : RvL G w xs v.cells.toList) :
  ∃ x, ArgA (.flat T) x ∧ Rv G w x v := by
 have one : ∀ {y : V}, RvL G w [y] v.cells.toList → (∀ cs, v ≠ .agg cs) → Rv G w y v := by
  intro y hy hne
  simp only [RvL] at hy
  obtain ⟨u, us, he, h1, rfl⟩ := hy
  have : v.cells = #[v] := by cases v <;> first | rfl | exact absurd rfl (hne _)
  rw [this] at he
  simp at he
  subst he
  exact h1
 unfold Value.okWide at hv
 simp only [tyOf] at h
 split at h
 · rename_i ht
   cases h
   rw [ht] at hv
   simp only [Arg] at hx
   obtain ⟨b, rfl⟩ := hx
   refine ⟨_, by simp only [ArgA, Arg]; exact ⟨b, rfl⟩, one hr ?_⟩
   rintro cs rfl
   simp [Cell.okWide, Cell.ok, ht] at hv
 · rename_i k ht
   cases h
   rw [ht] at hv
   simp only [Arg] at hx
   obtain ⟨b, rfl, hw⟩ := hx
   refine ⟨_, by simp only [ArgA, Arg]; exact ⟨b, rfl, hw⟩, one hr ?_⟩
   rintro cs rfl
   simp [Cell.okWide, Cell.ok, ht] at hv
 · rename_i ht
   cases h
   rw [ht] at hv
   simp only [Arg] at hx
   obtain ⟨b, rfl, hw⟩ := hx
   refine ⟨_, by simp only [ArgA, Arg]; exact ⟨b, rfl, hw⟩, one hr ?_⟩
   rintro cs rfl
   simp [Cell.okWide, Cell.ok, ht] at hv
 · rename_i e ht
   rw [Option.bind_eq_some_iff] at h
   obtain ⟨T1, _, h2⟩ := h
   split at h2
   · cases h2
     rw [ht] at hv
     have hx' := hx
     simp only [Arg] at hx
     have : ∃ y, xs = [y] := by rcases hx with rfl | ⟨_, rfl⟩ | ⟨_, _, rfl, _⟩ <;> exact ⟨_, rfl⟩
     obtain ⟨y, rfl⟩ := this
     refine ⟨y, by simpa only [ArgA] using hx', one hr ?_⟩
     rintro cs rfl
     simp [Cell.okWide, Cell.ok, ht] at hv
   · cases h2
 · rename_i fs ht
   simp only [Option.bind_eq_some_iff] at h
   obtain ⟨Ts, _, h2⟩ := h
   split at h2
   · cases h2
     rw [ht] at hv
     obtain ⟨cs, rfl, _⟩ := hv
     simp only [Arg] at hx
     refine ⟨.agg xs, by simp only [ArgA]; exact ⟨xs, rfl, hx⟩, ?_⟩
     simp only [Rv]
     exact ⟨cs.toList, by simp, by simpa [Value.cells] using hr⟩
   · cases h2
 · rename_i n e ht
   simp only [Option.bind_eq_some_iff] at h
   obtain ⟨Ts, _, h2⟩ := h
   split at h2
   · cases h2
     rw [ht] at hv
     obtain ⟨cs, rfl, _⟩ := hv
     simp only [Arg] at hx
     refine ⟨.agg xs, by simp only [ArgA]; exact ⟨xs, rfl, hx⟩, ?_⟩
     simp only [Rv]
     exact ⟨cs.toList, by simp, by simpa [Value.cells] using hr⟩
   · cases h2
 · cases h
theorem arg1_ok (hspare : ∀ b, spare b = true) {t : TypeId} {A : TyA} {v : Value} {d : DataW H} {ps : List MemPlace} {b0 : Nat} (h : tyA P t = some A) (hv : Value.okWide P W .any b0 t v) (hd : DataW.Trod enc P W base spare held t v d ps) (hw : Wt P t d) :
  ∃ x, ArgA A x ∧ Rv (Gh.of W) W x v := by
 obtain ⟨fuel, hd⟩ := hd
 unfold tyA at h
 have flat : (tyOf P 8 t).map .flat = some A → ∃ x, ArgA A x ∧ Rv (Gh.of W) W x v := by
  intro h
  rw [Option.map_eq_some_iff] at h
  obtain ⟨T, h1, rfl⟩ := h
  obtain ⟨xs, k1, k2⟩ := arg_ok hspare 8 h1 hd hw
  exact okWide_flat hv h1 k1 k2
 split at h
 · rename_i e ht
   rw [Option.bind_eq_some_iff] at h
   obtain ⟨T, h1, h2⟩ := h
   split at h2
   · rename_i hz0
     cases h2
     simp only [Bool.and_eq_true] at hz0
     have hz := Nat.eq_of_beq_eq_true hz0.1
     have hlow := Nat.le_of_ble_eq_true hz0.2
     unfold Value.okWide at hv
     rw [ht] at hv
     have hnagg : v.cells = #[v] := by
      cases v with
      | agg cs => simp [Cell.okWide, Cell.ok, ht] at hv
      | _ => rfl
     rcases DataW.trod_slice ht hd with ⟨h0, _⟩ | ⟨a, len, cap, elems, rest, n, _, h0, hxe, hb, hl, hm, hlen, hel, _, _⟩
     · rw [hnagg] at h0
       simp at h0
       subst h0
       exact ⟨.sc .nilS, by simp [ArgA], by simp only [Rv, Sc.val]⟩
     · rw [hnagg] at h0
       simp at h0
       subst h0
       have hspot : a.spot = none := by
        simp only [Cell.okWide, Cell.ok, ht, World.has] at hv
        exact hv.2.2.2.1
       have hw2 : (elems.length + rest.length) * P.bytesOf e ≤ reachBytes ∧ ∀ y ∈ DataW.weightsAll P e (elems.map (·.1)), y ≤ reachBytes := by
        have hd0 : d = .slice (elems.map (·.1)) (rest.map (·.1)) := congrArg Prod.fst hxe
        subst hd0
        unfold Wt at hw
        simp only [DataW.weights, ht, List.mem_cons, List.mem_append, List.length_map] at hw
        exact ⟨hw _ (.inl rfl), fun y hy => hw y (.inr (.inl hy))⟩
       obtain ⟨es, vals, k1, k2, k3, k4⟩ := elems_ok (enc := enc) (spare := spare) (held := held) (base := base) (a := a) (T := T) (fun fuel cs x hx hwx => arg_ok hspare 8 h1 hx hwx) hz (n := len) (fun i hi => ⟨n, _, (hel i hi).trans (List.getElem?_eq_getElem (by omega)), wt_all hw2.2 _ (List.mem_map.2 ⟨_, List.getElem_mem _, rfl⟩)⟩)
       have hbd : es.length * T.low ≤ reachBytes := Nat.le_trans (Nat.mul_le_mul (by omega) hlow) hw2.1
       obtain ⟨_, hrow⟩ := row_read (.inl hspot) k4
       refine ⟨.vs .ro T.size es.length es.flatten, by simp only [ArgA]; exact .inr ⟨es, k2, rfl, by omega, hbd⟩, ?_⟩
       simp only [Rv]
       obtain ⟨b, o, s⟩ := a
       simp only at hspot; subst hspot
       refine ⟨b, o, cap, vals, by rw [k1], ?_, by omega, hrow, k3, trivial⟩
       rw [List.length_flatten]
       have : ∀ l : List (List V), (∀ a ∈ l, Arg T a) → (l.map List.length).sum = l.length * T.size := by
        intro l
        induction l with
        | nil => intro _; simp
        | cons y ys ihy =>
         intro hy
         rw [List.map_cons, List.sum_cons, ihy (fun a ha => hy a (by simp [ha])), Arg.length T y (hy y (by simp)), List.length_cons, Nat.succ_mul, Nat.add_comm]
       exact this es k2
   · cases h2
 · exact flat h
 · exact flat h
 · exact flat h
 · exact flat h
 · exact flat h
 · cases h
theorem args_ok (hspare : ∀ b, spare b = true) : ∀ {ts : List TypeId} {As : List TyA} {vs : List Value} {ds : List (DataW H)} {p : List MemPlace} {b0 : Nat}, ts.mapM (tyA P) = some As → (∀ (j : Nat) t v, ts[j]? = some t → vs[j]? = some v → Value.okWide P W .any b0 t v) →
  DataW.TrodAll enc P W base spare held ts vs ds p → (∀ y ∈ DataW.weightsEach P ts ds, y ≤ reachBytes) → ∃ xs, ArgAs As xs ∧ RvL (Gh.of W) W xs vs
 | [], As, vs, ds, p, b0, h, _, hA, _ => by
  simp at h; subst h
  obtain ⟨rfl, _, _⟩ := trodAll_nil hA
  exact ⟨[], by simp [ArgAs], RvL.nil⟩
 | t :: ts, As, vs, ds, p, b0, h, hv, hA, hw => by
  simp only [List.mapM_cons, Option.bind_eq_bind, Option.bind_eq_some_iff, Option.pure_def, Option.some.injEq] at h
  obtain ⟨A, h1, As', h2, rfl⟩ := h
  obtain ⟨v, vs', d, ds', p1, q, rfl, rfl, rfl, k1, k2⟩ := trodAll_cons hA
  simp only [DataW.weightsEach, List.mem_append] at hw
  obtain ⟨x, m1, m2⟩ := arg1_ok hspare h1 (hv 0 t v rfl rfl) k1 (fun y hy => hw y (.inl hy))
  obtain ⟨xs, m3, m4⟩ := args_ok hspare h2 (fun j t v hj hj' => hv (j + 1) t v (by simpa using hj) (by simpa using hj')) k2 (fun y hy => hw y (.inr hy))
  exact ⟨x :: xs, by simp only [ArgAs]; exact ⟨x, xs, rfl, m1, m3⟩, RvL.cons m2 m4⟩
theorem wt_pre : ∀ {ts us : List TypeId} {ds gs : List (DataW H)}, ts.length = ds.length → ∀ y ∈ DataW.weightsEach P ts ds, y ∈ DataW.weightsEach P (ts ++ us) (ds ++ gs)
 | [], us, ds, gs, h, y, hy => by simp [DataW.weightsEach] at hy
 | t :: ts, us, [], gs, h, y, hy => by simp at h
 | t :: ts, us, d :: ds, gs, h, y, hy => by
  simp only [DataW.weightsEach, List.mem_append, List.cons_append] at hy ⊢
  exact hy.imp id (wt_pre (by simpa using h) y)
theorem trodAll_len : ∀ {ts : List TypeId} {vs : List Value} {ds : List (DataW H)} {p : List MemPlace}, DataW.TrodAll enc P W base spare held ts vs ds p → ts.length = ds.length
 | [], vs, ds, p, h => by obtain ⟨_, rfl, _⟩ := trodAll_nil h; rfl
 | t :: ts, vs, ds, p, h => by
  obtain ⟨v, vs', d, ds', p1, q, rfl, rfl, rfl, _, k2⟩ := trodAll_cons h
  simp [trodAll_len k2]
theorem wt_of {ts us : List TypeId} {vs : List Value} {ds gs : List (DataW H)} {p : List MemPlace} (hA : DataW.TrodAll enc P W base spare held ts vs ds p) (h : (DataW.weightsEach P (ts ++ us) (ds ++ gs)).all (· ≤ reachBytes) = true) : ∀ y ∈ DataW.weightsEach P ts ds, y ≤ reachBytes :=
 fun y hy => of_decide_eq_true (List.all_eq_true.1 h y (wt_pre (trodAll_len hA) y hy))
theorem walk_of {tbl : FuncId → Option AF} {n F : Nat} {f : Func} {As : List TyA} (ht : f.params.toList.mapM (tyA P) = some As) (run : ∀ xs, ArgAs As xs → good (callN tbl n F xs St.empty) = true)
  {args : Array Value} {ds : List (DataW H)} {p : List MemPlace} {b0 : Nat} (hval : ∀ (j : Nat) t v, f.params[j]? = some t → args[j]? = some v → Value.okWide P W .any b0 t v)
  (hA : DataW.TrodAll enc P W 0 (fun _ => true) true f.params.toList args.toList ds p) (hw : ∀ y ∈ DataW.weightsEach P f.params.toList ds, y ≤ reachBytes) :
  ∃ vs σ', callN tbl n F vs St.empty = some (.sc (.bool true), σ') ∧ RvL (Gh.of W) W vs args.toList := by
 obtain ⟨xs, h1, h2⟩ := args_ok (fun _ => rfl) ht (fun j t v hj hj' => hval j t v (by simpa using hj) (by simpa using hj')) hA hw
 obtain ⟨σ', h3⟩ := good_ok (run xs h1)
 exact ⟨xs, σ', h3, h2⟩
end
end Go.Ab
