/- The abstract append is the model's; making, clearing, copying. -/
import Derived.Test.YtehdjkikcfeiaaaGreatAb7
namespace Go.Ab
open Go.RowKit
section
variable {P : Program} {G : Gh} {σ : St} {w : World}
theorem free_of {b e N k : Nat} (h : Free w b e) (hs : HasSize w b N) (hk : k ≤ N) : Free w b k := by
 obtain ⟨arr, t, fz, h1, h2, h3⟩ := h
 obtain ⟨arr', t', fz', k1, k2⟩ := hs
 rw [h1] at k1; cases k1
 exact ⟨arr, t, fz, h1, by omega, h3⟩
theorem free0_of {b e N k : Nat} (h : Free0 w b e) (hs : HasSize w b N) (hk : k ≤ N) : Free0 w b k := by
 obtain ⟨arr, t, h1, h2⟩ := h
 obtain ⟨arr', t', fz', k1, k2⟩ := hs
 rw [h1] at k1; cases k1
 exact ⟨arr, t, h1, by omega⟩
theorem free_size {b e N : Nat} (h : Free w b e) (hs : HasSize w b N) : e ≤ N := by
 obtain ⟨arr, t, fz, h1, h2, h3⟩ := h
 obtain ⟨arr', t', fz', k1, k2⟩ := hs
 rw [h1] at k1; cases k1
 omega
theorem At.snoc {b s : Nat} {vals new : List Value} {n : Nat} (h : At w b s vals) (hf : Free w b n) (hn : s + vals.length + new.length ≤ n) : At (w.setCells b (s + vals.length) new) b s (vals ++ new) := by
 intro j v hj
 rcases Nat.lt_or_ge j vals.length with hlo | hhi
 · rw [List.getElem?_append_left hlo] at hj
   rw [World.cell?_setCells_out b new (s + vals.length) w _ (fun _ _ => by simp only; omega)]
   exact h j v hj
 · rw [List.getElem?_append_right hhi] at hj
   have hlt := (List.getElem?_eq_some_iff.1 hj).1
   have hin := World.cell?_setCells_in b new (s + vals.length) w (fun i hi => hf.isSome (by omega)) (j - vals.length) hlt
   rw [show s + vals.length + (j - vals.length) = s + j by omega] at hin
   rw [hin, ← hj, List.getElem?_eq_getElem hlt]
theorem append_ok {mu : Bool} {t u ty e : TypeId} {ei : TypeInfo} {z : Value} {ud : TypeDesc} (ht : P.underlying t = some (.slice e)) (hi : P.info? e = some ei) (hz : ei.zero = some z) (hzs : z.cells.size = ei.size)
  (hu : P.underlying u = some ud) (hud : (∃ e', ud = .slice e') ∨ ud = .string) (hs : Rs G σ w) {x y r : V} {vx vy : Value} {σ' : St}
  (hx : Rv G w x vx) (hy : Rv G w y vy) (h : aAppend mu ei.size ei.bytes σ x y = some (r, σ')) : Does P (Builtin.append_ #[t, u] ty #[vx, vy]) G w σ' r := by
 unfold aAppend at h
 rw [Option.bind_eq_some_iff] at h
 obtain ⟨⟨m, news⟩, h1, h⟩ := h
 obtain ⟨vnews, hsrc, hn, hnl⟩ := src_ok hs hy h1
 simp only at h
 by_cases hm : m = 0
 · -- nothing is appended
   rw [if_pos hm, Option.map_eq_some_iff] at h
   obtain ⟨x', hsame, hh⟩ := h
   have h2 := Prod.mk.inj hh
   obtain ⟨rfl, rfl⟩ := h2
   clear hh
   subst hm
   have hv0 : vnews = [] := List.eq_nil_of_length_eq_zero (by simpa using hnl)
   subst hv0
   have nost : ∀ a : Addr, (storeCells a ([] : List Value)).run P w = .ok () w := fun a => rfl
   unfold aSame at hsame
   split at hsame
   · cases hsame
     have hx' := hx
     have := scv hx; subst this
     exact Does.pure hs (run_append_in ht hi hu hud hsrc (Nat.le_refl _) rfl) hx'
   · rename_i c0
     cases hsame
     have hx' := hx
     have := scv hx; subst this
     exact Does.pure hs (run_append_in ht hi hu hud hsrc (Nat.le_refl _) (nost _)) hx'
   · split at hsame
     · cases hsame
       have hx' := hx
       simp only [Rv] at hx
       obtain ⟨b, s, cap, vals, rfl, h2, h3, _⟩ := hx
       exact Does.pure hs (run_append_in ht hi hu hud hsrc h3 (nost _)) hx'
     · cases hsame
   · split at hsame
     · cases hsame
       have hx' := hx
       simp only [Rv] at hx
       obtain ⟨b, s, cap, _, rfl, h3, _⟩ := hx
       exact Does.pure hs (run_append_in ht hi hu hud hsrc h3 (nost _)) hx'
     · cases hsame
   · cases hsame
 · rw [if_neg hm] at h
   split at h
   · rename_i hone
     -- a new row
     have fresh : ∀ (σ1 : St) (n cap0 : Nat) (base : Option Addr) (olds : List V) (volds : List Value), Rs G σ1 w → ¬ n + m ≤ cap0 → (Builtin.firstCells ei.size n (.slice base n cap0)).run P w.drew = .ok volds.toArray w.drew → RvL G w olds volds →
       aFresh mu ei.size ei.bytes m news σ1 n olds = some (r, σ') → Does P (Builtin.append_ #[t, u] ty #[.slice base n cap0, vy]) G w σ' r := by
      intro σ1 n cap0 base olds volds hs1 hcap hold hol hf
      unfold aFresh at hf
      split at hf
      · rename_i hc
        obtain ⟨c1, c2, c3⟩ := hc
        refine fresh_ok (mu := mu) ht hi hz hzs rfl rfl hu hud hs1 hsrc hn hnl hcap c1 c2 hold hol (by rw [hol.length, c3]) ?_
        cases mu with
        | true => simp only [if_true] at hf ⊢; split at hf <;> first | exact hf | cases hf
        | false => simpa using hf
      · cases hf
     unfold aGrow at h
     split at h
     · -- nil
       have := scv hx; subst this
       exact fresh σ 0 0 none [] [] hs (by omega) (run_firstCells_none _ _ _ _ _) RvL.nil h
     · -- no capacity
       rename_i c0
       have := scv hx; subst this
       exact fresh σ 0 0 (some c0) [] [] hs (by omega) (run_firstCells_some w.drew ei.size 0 c0 0 0 [] (by simp) (fun j v hj => by simp at hj)) RvL.nil h
     · -- a row
       rename_i own s n cells
       split at h
       · rename_i hsz
         subst hsz
         simp only [Rv] at hx
         obtain ⟨b, s0, cap, vals, rfl, k2, k3, k4, k5, k6⟩ := hx
         have hvl : vals.length = n * ei.size := by rw [k5.length, k2]
         have hold : (Builtin.firstCells ei.size n (.slice (some ⟨b, s0, none⟩) n cap)).run P w.drew = .ok vals.toArray w.drew := firstCells_at hvl (k4.2.cells_eq fun _ => rfl)
         split at h
         · simp only [OwnOk] at k6; subst k6
           exact fresh σ cap cap _ cells vals hs (by omega) hold k5 h
         · rename_i tk
           unfold aTok at h
           split at h
           · rename_i htok
             split at h
             · rename_i hc
               obtain ⟨c0, c2, c3⟩ := hc
               cases h
               have hlt := St.get_lt htok
               simp only [OwnOk] at k6
               obtain ⟨q1, q2⟩ := k6
               by_cases hroom : n + m ≤ cap
               · obtain ⟨b', e', p1, p2, p3, p4⟩ := hs.ok tk _ htok
                 rw [q1] at p1; cases p1
                 have hend : s0 + (n + m) * ei.size ≤ s0 + cap * ei.size := Nat.add_le_add_left (Nat.mul_le_mul_right _ hroom) _
                 have hfree : Free w b (s0 + (n + m) * ei.size) := free_of p3 q2 hend
                 have hpos : s0 + cells.length = s0 + n * ei.size := by rw [k2]
                 have hst := run_storeFree (P := P) (o := s0 + n * ei.size) hfree vnews (by rw [hnl, Nat.add_assoc, ← Nat.add_mul]; exact Nat.le_refl _) (hn.oneCell hone)
                 have hrun := run_append_in (ty := ty) (base := some ⟨b, s0, none⟩) (w' := w.setCells b (s0 + n * ei.size) vnews) ht hi hu hud hsrc hroom (by simp only [add_none]; exact hst)
                 have hfree' : Free w b (s0 + cells.length + vnews.length) := by rw [hpos, hnl, Nat.add_assoc, ← Nat.add_mul]; exact hfree
                 obtain ⟨e1, e2⟩ := hs.growRow (w' := w.setCells b (s0 + n * ei.size) vnews) htok q1 (Upd.setCells b vnews _ w)
                  (fun i hi => World.cell?_setCells_out b vnews _ w _ (fun _ _ => by simp only; omega)) vnews.length hfree'
                 refine ⟨_, _, _, hrun, e1, e2, ?_⟩
                 have hall : RvL _ _ (cells ++ news) (vals ++ vnews) := (RvL.ext e2 _ _ k5).append (RvL.ext e2 _ _ hn)
                 have hll : (vals ++ vnews).length = (n + m) * ei.size := by rw [List.length_append, hvl, hnl, Nat.add_mul]
                 simp only [Rv]
                 refine ⟨b, s0, cap, vals ++ vnews, rfl, by rw [← hall.length, hll], hroom, ⟨fun _ => ?_, ?_⟩, hall, ?_, q2.ext e2⟩
                 · simp only [Gh.addTk, Gh.setFr, if_true]
                   rw [hll, hnl, k2, Nat.add_assoc, ← Nat.add_mul]; exact Nat.le_refl _
                 · have := k4.2.snoc (new := vnews) hfree' (by rw [hvl, k2]; exact Nat.le_refl _)
                   rwa [hvl] at this
                 · simp [Gh.addTk, List.length_append, ← hn.length, Nat.add_assoc]
               · exact fresh_ok (mu := false) (σ := σ.put tk none) ht hi hz hzs rfl rfl hu hud (hs.kill (o := tk) hlt) hsrc hn hnl hroom c2 c3 hold k5 hvl rfl
             · cases h
           · cases h
         · cases h
       · cases h
     · -- an object
       rename_i o off s n lim
       split at h
       · rename_i cs ho
         split at h
         · rename_i hc
           obtain ⟨c1, c2, c3, c4, c5⟩ := hc
           subst c1
           simp only [Rv] at hx
           obtain ⟨b, s0, cap, k1, rfl, k3, k4⟩ := hx
           obtain ⟨b', s', vals, p1, p2, p3, p4, p5, p6⟩ := hs.ok o _ ho
           rw [k1] at p1; cases p1
           have hvl := p2.length
           have holdl : ((vals.drop off).take (n * ei.size)).length = n * ei.size := by rw [List.length_take, List.length_drop]; omega
           have hold : (Builtin.firstCells ei.size n (.slice (some ⟨b, s0 + off, none⟩) n cap)).run P w.drew = .ok ((vals.drop off).take (n * ei.size)).toArray w.drew :=
            firstCells_at holdl ((take_drop_at p3).cells_eq fun _ => rfl)
           have hmul : off + (n + m) * ei.size = off + n * ei.size + m * ei.size := by rw [Nat.add_mul]; omega
           -- written where it stands
           have inplace : n + m ≤ cap → off + (n + m) * ei.size ≤ cs.length → (match lim with | some c => cap = c | none => HasSize w b (s0 + off + cap * ei.size)) →
             Does P (Builtin.append_ #[t, u] ty #[.slice (some ⟨b, s0 + off, none⟩) n cap, vy]) G w (σ.put o (some (.cells (splice cs (off + n * ei.size) news)))) (.os o off ei.size (n + m) lim) := by
            intro hroom hfit hlim
            have hst := run_storeFree (P := P) (o := s0 + off + n * ei.size) p4.free vnews (by rw [hnl]; omega) (hn.oneCell hone)
            have hrun := run_append_in (ty := ty) (base := some ⟨b, s0 + off, none⟩) (w' := w.setCells b (s0 + off + n * ei.size) vnews) ht hi hu hud hsrc hroom (by simp only [add_none]; exact hst)
            obtain ⟨e1, e2⟩ := hs.write (w' := w.setCells b (s0 + off + n * ei.size) vnews) (cs' := splice cs (off + n * ei.size) news)
             (vals' := vals.take (off + n * ei.size) ++ vnews ++ vals.drop (off + n * ei.size + vnews.length)) ho k1 (Upd.setCells b vnews _ w)
             (by unfold splice; rw [hn.length]; exact ((p2.take _).append hn).append (p2.drop _)) (splice_length (by rw [← hn.length, hnl]; omega))
             (by rw [Nat.add_assoc s0 off]; exact p3.setCells p4.free (by rw [hnl]; omega) (by rw [hnl]; omega))
            refine ⟨_, _, _, hrun, e1, e2, ?_⟩
            simp only [Rv]
            refine ⟨b, s0, cap, k1, rfl, hroom, ?_⟩
            cases lim with
            | some c => exact hlim
            | none => exact HasSize.ext hlim e2
           unfold aObj at h
           cases lim with
           | some c =>
            simp only at k4 h; subst k4
            by_cases hroom : n + m ≤ cap
            · rw [if_pos hroom] at h
              split at h
              · rename_i hfit
                cases h
                exact inplace hroom hfit rfl
              · cases h
            · rw [if_neg hroom] at h
              exact fresh_ok (mu := true) ht hi hz hzs rfl rfl hu hud hs hsrc hn hnl hroom c3 c4 hold ((p2.drop _).take _) holdl (by simpa using h)
           | none =>
            simp only at k4 h
            have hsz := free_size p4.free k4
            by_cases hfit : off + (n + m) * ei.size ≤ cs.length
            · rw [if_pos hfit] at h
              cases h
              refine inplace ?_ hfit k4
              rcases Nat.lt_or_ge cap (n + m) with hlt | hge
              · have : cap * ei.size + ei.size ≤ (n + m) * ei.size := by
                 have := Nat.mul_le_mul_right ei.size (show cap + 1 ≤ n + m by omega)
                 rwa [Nat.add_mul, Nat.one_mul] at this
                omega
              · exact hge
            · rw [if_neg hfit] at h
              split at h
              · rename_i hend
                cases h
                have hdl : (vals.drop off).take (n * ei.size) = vals.drop off := List.take_of_length_le (by rw [List.length_drop]; omega)
                rw [hdl] at hold holdl
                by_cases hroom : n + m ≤ cap
                · have hcapm : (n + m) * ei.size ≤ cap * ei.size := Nat.mul_le_mul_right _ hroom
                  have hfree : Free w b (s0 + off + (n + m) * ei.size) := free_of p4.free k4 (by omega)
                  have hst := run_storeFree (P := P) (o := s0 + off + n * ei.size) hfree vnews (by rw [hnl]; omega) (hn.oneCell hone)
                  have hrun := run_append_in (ty := ty) (base := some ⟨b, s0 + off, none⟩) (w' := w.setCells b (s0 + off + n * ei.size) vnews) ht hi hu hud hsrc hroom (by simp only [add_none]; exact hst)
                  have hdat : At w b (s0 + off) (vals.drop off) := by have := take_drop_at (off := off) (n := vals.length) p3; rwa [List.take_of_length_le (by simp)] at this
                  have hcl : (cs.drop off).length = n * ei.size := by rw [List.length_drop]; omega
                  obtain ⟨e1, e2⟩ := hs.reOb (w' := w.setCells b (s0 + off + n * ei.size) vnews) (cs' := cs.drop off ++ news) (s' := s0 + off) (vals' := vals.drop off ++ vnews) ho k1 (Upd.setCells b vnews _ w)
                   ((p2.drop _).append hn) (by have := hdat.snoc (new := vnews) hfree (by rw [holdl, hnl]; omega); rwa [holdl] at this)
                   (by rw [List.length_append, hcl, ← hn.length, hnl, ← Nat.add_mul]; exact free0_of p4 k4 (by omega))
                  refine ⟨_, _, _, hrun, e1, e2, ?_⟩
                  simp only [Rv]
                  exact ⟨b, s0 + off, cap, by simp [Gh.addOb], rfl, hroom, by simpa using HasSize.ext k4 e2⟩
                · exact fresh_ok (mu := true) (σ := σ.put o none) ht hi hz hzs rfl rfl hu hud (hs.kill (o := o) (St.get_lt ho)) hsrc hn hnl hroom c3 c4 hold (p2.drop _) holdl rfl
              · cases h
         · cases h
       · cases h
     · cases h
   · cases h
end
end Go.Ab
