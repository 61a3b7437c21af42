/- Each operation of the model does what its abstract one does: all of them. -/
import Derived.Test.YtehdjkikcfeiaaaGreatAbY
namespace Go.Ab
open Go.RowKit
section
variable {P : Program} {G : Gh} {σ σ' : St} {w : World} {mu : TypeId → Bool} {call : CallF} {ρ : Env} {a : Act} {v : V}
theorem OpDoes.val {o : Oper} {v' : Value} (hs : Rs G σ w) (he : (execOp a.eval o).run P w = .ok (.value v') w) (hv : Rv G w v v') : OpDoes P o a G w σ v :=
 ⟨v', w, G, Or.inl he, hs, Ext.refl _ _, hv⟩
def AOp.isCall : AOp → Bool
 | .call .. | .callv .. => true
 | _ => false
theorem bin_guard {op : BinOp} {t : TypeId} {x y : Operand} {vx vy : Value} {ex ey : V} (hx : Rv G w ex vx) (hy : Rv G w ey vy) (h : aBin op ex ey = some v) : (eqGuard op t x y vx vy).run P w = .ok () w := by
 unfold aBin at h
 split at h
 · have := scv hx; have := scv hy; subst_vars
   unfold eqGuard; split <;> simp [Sc.val]
 · obtain ⟨s, rfl, _⟩ := str_of hx
   obtain ⟨u, rfl, _⟩ := str_of hy
   unfold eqGuard; split <;> simp
 · cases h
theorem eqT_desc {t : TypeId} {q : EqT} (h : eqT P 12 t = some q) : ∃ desc, P.underlying t = some desc := by
 cases hd : P.underlying t with
 | some d => exact ⟨d, rfl⟩
 | none =>
  have h : eqT P (11 + 1) t = some q := h
  unfold eqT at h
  rw [hd] at h; cases h
theorem b2s_shape {x r : V} {vx : Value} (hx : Rv G w x vx) (h : aB2s σ x = some r) : ∃ b n c, vx = .slice b n c := by
 unfold aB2s at h
 rw [Option.bind_eq_some_iff] at h
 obtain ⟨⟨n, xs⟩, h1, h2⟩ := h
 unfold aSrc at h1
 split at h1
 · have := scv hx; subst this; exact ⟨_, _, _, rfl⟩
 · have := scv hx; subst this; exact ⟨_, _, _, rfl⟩
 · simp only [Rv] at hx; obtain ⟨b, s, cap, _, rfl, _⟩ := hx; exact ⟨_, _, _, rfl⟩
 · simp only [Rv] at hx; obtain ⟨b, s, cap, _, rfl, _⟩ := hx; exact ⟨_, _, _, rfl⟩
 · simp at h2
 · cases h1
theorem slSize_ok {sz : Nat} {x : V} (h : slSize sz x = true) : (aSz x = sz ∨ x = .nilS ∨ ∃ c, x = .sc (.oddS c)) ∧ ∀ s, x ≠ .str s := by
 unfold slSize at h
 split at h
 · exact ⟨Or.inr (Or.inl rfl), fun s hs => by cases hs⟩
 · exact ⟨Or.inr (Or.inr ⟨_, rfl⟩), fun s hs => by cases hs⟩
 · exact ⟨Or.inl (by simpa [aSz] using h), fun s hs => by cases hs⟩
 · exact ⟨Or.inl (by simpa [aSz] using h), fun s hs => by cases hs⟩
 · cases h
theorem cOp_ok {o : Oper} {ao : AOp} (hc : cOp P mu o = some ao) (hnc : ao.isCall = false) (hrun : ao.run call ρ σ = some (v, σ')) (hs : Rs G σ w) (hr : RE G w ρ a.tmps) : OpDoes P o a G w σ' v := by
 obtain ⟨dst, op, type, pos, after, guard⟩ := o
 unfold cOp at hc
 cases op with
 | move x =>
  simp only [Option.map_eq_some_iff] at hc
  obtain ⟨ax, h1, rfl⟩ := hc
  simp only [AOp.run, Option.some.injEq, Prod.mk.injEq] at hrun
  obtain ⟨rfl, rfl⟩ := hrun
  exact OpDoes.val hs (by simp [execOp]) (opd_ok hr h1)
 | assign x =>
  simp only [Option.map_eq_some_iff] at hc
  obtain ⟨ax, h1, rfl⟩ := hc
  simp only [AOp.run, Option.some.injEq, Prod.mk.injEq] at hrun
  obtain ⟨rfl, rfl⟩ := hrun
  exact OpDoes.val hs (by simp [execOp]) (opd_ok hr h1)
 | pick c x y =>
  simp only [Option.bind_eq_some_iff, Option.map_eq_some_iff] at hc
  obtain ⟨ac, h1, ax, h2, ay, h3, rfl⟩ := hc
  simp only [AOp.run] at hrun
  split at hrun
  · rename_i t ht
    simp only [Option.some.injEq, Prod.mk.injEq] at hrun
    obtain ⟨rfl, rfl⟩ := hrun
    have hcv := opd_ok hr h1
    rw [ht] at hcv
    have hcv := scv hcv
    cases t
    · exact OpDoes.val hs (by simp [execOp, hcv, Sc.val, asBool]) (opd_ok hr h3)
    · exact OpDoes.val hs (by simp [execOp, hcv, Sc.val, asBool]) (opd_ok hr h2)
  · cases hrun
 | alloc e =>
  simp only [Option.map_eq_some_iff] at hc
  obtain ⟨z, h1, rfl⟩ := hc
  obtain ⟨i, zv, k1, k2, k3⟩ := zeroOf_ok h1
  simp only [AOp.run, AO.eval] at hrun
  obtain ⟨v', w', G', r1, r2⟩ := box_ok (P := P) e hs (k3 G w) hrun
  refine ⟨v', w', G', Or.inl ?_, r2⟩
  have : (Instr.alloc e true (.tuple #[])).run P w = .ok v' w' := by
   simp only [Instr.alloc, Sem.run_bind, run_zero k1 k2, Result.andThen_ok]
   exact r1
  simp [execOp, this]
 | box e x =>
  simp only [Option.map_eq_some_iff] at hc
  obtain ⟨ax, h1, rfl⟩ := hc
  simp only [AOp.run] at hrun
  exact OpDoes.of (box_ok (P := P) e hs (opd_ok hr h1) hrun) rfl
 | build t ps =>
  simp only [Option.bind_eq_some_iff] at hc
  obtain ⟨z, h1, hc⟩ := hc
  split at hc
  · rename_i fs ht
    simp only [Option.bind_eq_some_iff, Option.map_eq_some_iff] at hc
    obtain ⟨pl, h2, qs, h3, rfl⟩ := hc
    simp only [AOp.run, Option.map_eq_some_iff] at hrun
    obtain ⟨cs, h4, h5⟩ := hrun
    cases h5
    exact OpDoes.of (build_ok hs hr h1 h3 (Or.inl ⟨fs, pl, ht, h2, rfl⟩) h4) rfl
  · rename_i n e ht
    simp only [Option.bind_eq_some_iff, Option.map_eq_some_iff] at hc
    obtain ⟨sz, h2, qs, h3, rfl⟩ := hc
    obtain ⟨i, hi, rfl⟩ := sizeOf_ok h2
    simp only [AOp.run, Option.map_eq_some_iff] at hrun
    obtain ⟨cs, h4, h5⟩ := hrun
    cases h5
    exact OpDoes.of (build_ok hs hr h1 h3 (Or.inr ⟨n, e, i, ht, hi, rfl⟩) h4) rfl
  · cases hc
 | buildSlice t len ps =>
  simp only at hc
  split at hc
  · rename_i e ht
    simp only [Option.bind_eq_some_iff, Option.map_eq_some_iff] at hc
    obtain ⟨z, h1, sz, h2, qs, h3, rfl⟩ := hc
    obtain ⟨i, zv, k1, k2, k3⟩ := zeroOf_ok h1
    obtain ⟨i', hi, rfl⟩ := sizeOf_ok h2
    rw [k1] at hi; cases hi
    simp only [AOp.run, Option.map_eq_some_iff] at hrun
    obtain ⟨r, h4, h5⟩ := hrun
    cases h5
    have hp := parts_ok (place' := fun k => some (k * i.size, i.size)) hr (fun _ _ h => h) h3
    have hl : (ps.map fun (i, x) => (i, a.eval x)).toList = ps.toList.map fun p => (p.1, a.eval p.2) := by simp
    rw [← hl] at hp
    exact OpDoes.of (bslice_ok hs ht k1 k2 (k3 G w).cells hp h4) rfl
  · cases hc
 | load t x =>
  simp only [Option.bind_eq_some_iff, Option.map_eq_some_iff] at hc
  obtain ⟨n, h1, ax, h2, rfl⟩ := hc
  simp only [AOp.run, Option.map_eq_some_iff] at hrun
  obtain ⟨r, h4, h5⟩ := hrun
  cases h5
  exact OpDoes.of (loadAt_ok (tySize_ok h1) hs (opd_ok hr h2) h4) rfl
 | store t x y =>
  simp only [Option.bind_eq_some_iff, Option.map_eq_some_iff] at hc
  obtain ⟨n, h1, ax, h2, ay, h3, rfl⟩ := hc
  obtain ⟨i, hi, rfl⟩ := sizeOf_ok h1
  simp only [AOp.run, Option.map_eq_some_iff] at hrun
  obtain ⟨r, h4, h5⟩ := hrun
  cases h5
  obtain ⟨w', r1, r2, r3⟩ := storeAt_ok hi hs (opd_ok hr h2) (opd_ok hr h3) h4
  exact ⟨undef, w', G, Or.inr ⟨by simp [execOp, r1], rfl⟩, r2, r3, Rv.undef⟩
 | nilCheck x =>
  simp only [Option.map_eq_some_iff] at hc
  obtain ⟨ax, h1, rfl⟩ := hc
  simp only [AOp.run, Option.map_eq_some_iff] at hrun
  obtain ⟨r, h4, h5⟩ := hrun
  cases h5
  obtain ⟨k1, rfl⟩ := nilCheck_ok (P := P) (a := a) (opd_ok hr h1) h4
  exact OpDoes.val hs (k1 _ x rfl rfl) (opd_ok hr h1)
 | binOp op t x y yt =>
  simp only [Option.bind_eq_some_iff] at hc
  obtain ⟨ax, h1, ay, h2, hc⟩ := hc
  split at hc
  · cases hc
    simp only [AOp.run, Option.map_eq_some_iff] at hrun
    obtain ⟨r, h4, h5⟩ := hrun
    cases h5
    obtain ⟨v', k1, k2⟩ := aBin_ok (P := P) t (opd_ok hr h1) (opd_ok hr h2) h4
    have k3 := bin_guard (P := P) (op := op) (t := t) (x := x) (y := y) (opd_ok hr h1) (opd_ok hr h2) h4
    exact OpDoes.val hs (by simp [execOp, k2, k3]) k1
  · rename_i hi
    have hi' : isIntStr P t = false := by simpa using hi
    have fin : ∀ (q : EqT) (neg : Bool), (op = .eql ∧ neg = false ∨ op = .neq ∧ neg = true) → P.eqGuardType P.depth t = false → eqT P 12 t = some q → ao = .eq neg q ax ay → OpDoes P ⟨dst, .binOp op t x y yt, type, pos, after, guard⟩ a G w σ' v := by
     intro q neg hop hg hq hao
     subst hao
     simp only [AOp.run, Option.map_eq_some_iff] at hrun
     obtain ⟨r, h4, h5⟩ := hrun
     cases h5
     have k := eq_ok (P := P) (op := op) (x := x) (y := y) (t := t) (by rcases hop with h | h; exact Or.inl h.1; exact Or.inr h.1) hg hi' hq hs (opd_ok hr h1) (opd_ok hr h2) h4
     refine OpDoes.val (v' := .bool (if op = .neq then !r else r)) hs (by simp only [execOp, Sem.run_bind] at k ⊢; simp [k]) ?_
     rcases hop with ⟨rfl, rfl⟩ | ⟨rfl, rfl⟩ <;> simp only [if_true, reduceCtorEq, if_false, Bool.false_eq_true] <;> exact Rv.bool
    cases op <;> simp only [reduceCtorEq] at hc
    case eql =>
     split at hc
     · cases hc
     · rename_i hg
       rw [Option.map_eq_some_iff] at hc
       obtain ⟨q, hq, rfl⟩ := hc
       exact fin q false (Or.inl ⟨rfl, rfl⟩) (by simpa using hg) hq rfl
    case neq =>
     split at hc
     · cases hc
     · rename_i hg
       rw [Option.map_eq_some_iff] at hc
       obtain ⟨q, hq, rfl⟩ := hc
       exact fin q true (Or.inr ⟨rfl, rfl⟩) (by simpa using hg) hq rfl
 | unOp op t x =>
  simp only [Option.map_eq_some_iff] at hc
  obtain ⟨ax, h1, rfl⟩ := hc
  simp only [AOp.run, Option.map_eq_some_iff] at hrun
  obtain ⟨r, h4, h5⟩ := hrun
  cases h5
  obtain ⟨v', k1, k2⟩ := aUn_ok (P := P) (opd_ok hr h1) h4
  exact OpDoes.val hs (by simp [execOp, k2]) k1
 | convert s d x =>
  simp only [Option.bind_eq_some_iff] at hc
  obtain ⟨ax, h1, hc⟩ := hc
  split at hc
  · rename_i k1 k2 hd1 hd2
    cases hc
    simp only [AOp.run, Option.map_eq_some_iff] at hrun
    obtain ⟨r, h4, h5⟩ := hrun
    cases h5
    unfold aConv at h4
    split at h4
    · rename_i heq
      cases h4
      have hv := opd_ok hr h1
      rw [heq] at hv
      have hv := scv hv
      exact OpDoes.val hs (v' := .int k2 _) (by simp [execOp, convert, run_underlying hd1, run_underlying hd2, hv, Sc.val, Conv.intToInt]) Rv.int
    · cases h4
  · rename_i hd1 hd2
    cases hc
    simp only [AOp.run, Option.map_eq_some_iff] at hrun
    obtain ⟨r, h4, h5⟩ := hrun
    cases h5
    unfold aSame' at h4
    split at h4
    · rename_i heq
      cases h4
      have hv := opd_ok hr h1
      rw [heq] at hv
      obtain ⟨u, hu, hl⟩ := str_of hv
      exact OpDoes.val hs (v' := .string u) (by simp [execOp, convert, run_underlying hd1, run_underlying hd2, hu]) (Rv.str hl)
    · cases h4
  · rename_i e hd1 hd2
    split at hc
    · rename_i he
      cases hc
      simp only [AOp.run] at hrun
      obtain ⟨u, hu, hd⟩ := s2b_ok (P := P) (e := e) hs (opd_ok hr h1) hrun
      obtain ⟨v', w', G', r1, r2⟩ := hd
      exact ⟨v', w', G', Or.inl (by simp [execOp, convert, run_underlying hd1, run_underlying hd2, run_underlying he, hu, r1]), r2⟩
    · cases hc
  · rename_i e hd1 hd2
    split at hc
    · rename_i he
      cases hc
      simp only [AOp.run, Option.map_eq_some_iff] at hrun
      obtain ⟨r, h4, h5⟩ := hrun
      cases h5
      obtain ⟨v', w', G', r1, r2⟩ := b2s_ok (P := P) hs (opd_ok hr h1) h4
      refine ⟨v', w', G', Or.inl ?_, r2⟩
      obtain ⟨b, n, c, hv⟩ := b2s_shape (opd_ok hr h1) h4
      rw [hv] at r1
      cases b <;> simp [execOp, convert, run_underlying hd1, run_underlying hd2, run_underlying he, hv, r1]
    · cases hc
  · cases hc
 | makeFunc fn first captured =>
  cases fn with
  | func f =>
   simp only at hc
   split at hc
   · rename_i hf
     simp only [Option.map_eq_some_iff] at hc
     obtain ⟨cs, h1, rfl⟩ := hc
     simp only [AOp.run, Option.some.injEq, Prod.mk.injEq] at hrun
     obtain ⟨rfl, rfl⟩ := hrun
     have hf' : first = #[] := by simpa using hf
     have hcs := opds_ok hr h1
     refine OpDoes.val (v' := .func (.func f) #[] (captured.map a.eval)) hs (by simp [execOp, Instr.makeFunc, hf']) ?_
     simp only [Rv]
     refine ⟨[], captured.toList.map a.eval, ?_, RvL.nil, hcs⟩
     congr 1
     apply Array.ext'
     simp
   · simp only [Option.bind_eq_some_iff, Option.map_eq_some_iff] at hc
     obtain ⟨fs, h1, cs, h2, rfl⟩ := hc
     simp only [AOp.run, XOp.run, List.map_append, Option.some.injEq, Prod.mk.injEq] at hrun
     obtain ⟨rfl, rfl⟩ := hrun
     have hfs := opds_ok hr h1
     have hcs := opds_ok hr h2
     refine OpDoes.val (v' := .func (.func f) (first.map a.eval) (captured.map a.eval)) hs (by simp [execOp, Instr.makeFunc]) ?_
     simp only [Rv]
     refine ⟨first.toList.map a.eval, captured.toList.map a.eval, ?_, ?_, ?_⟩
     · congr 1 <;> (apply Array.ext'; simp)
     · rw [List.take_left' (by simp)]; exact hfs
     · rw [List.drop_left' (by simp)]; exact hcs
  | _ => cases hc
 | fieldAddr t x k =>
  simp only at hc
  split at hc
  · rename_i fs ht
    simp only [Option.bind_eq_some_iff] at hc
    obtain ⟨f, h1, n, h2, hc⟩ := hc
    split at hc
    · cases hc
    · rename_i hn
      rw [Option.map_eq_some_iff] at hc
      obtain ⟨ax, h3, rfl⟩ := hc
      obtain ⟨i, hi, rfl⟩ := sizeOf_ok h2
      simp only [AOp.run, Option.map_eq_some_iff] at hrun
      obtain ⟨r, h4, h5⟩ := hrun
      cases h5
      exact OpDoes.of (fieldAt_ok hs ht h1 hi hn (opd_ok hr h3) h4) rfl
  · cases hc
 | field t x k =>
  simp only at hc
  split at hc
  · rename_i fs ht
    simp only [Option.bind_eq_some_iff, Option.map_eq_some_iff] at hc
    obtain ⟨f, h1, n, h2, ax, h3, rfl⟩ := hc
    simp only [AOp.run, Option.map_eq_some_iff] at hrun
    obtain ⟨r, h4, h5⟩ := hrun
    cases h5
    unfold aPartOf at h4
    split at h4
    · rename_i cs heq
      have hv := opd_ok hr h3
      rw [heq] at hv
      simp only [Rv] at hv
      obtain ⟨vs, hv, hl⟩ := hv
      obtain ⟨v', p1, p2⟩ := aPart_ok (P := P) (tySize_ok h2) hl h4
      refine OpDoes.val hs ?_ p2
      have : (Instr.field t (a.eval x) k).run P w = .ok v' w := by
       simp [Instr.field, run_underlying ht, h1, hv, asAgg, p1]
      simp [execOp, this]
    · cases h4
  · cases hc
 | indexAddr t x i =>
  simp only [Option.bind_eq_some_iff] at hc
  obtain ⟨ax, h1, ai, h2, hc⟩ := hc
  split at hc
  · rename_i len e ht
    rw [Option.map_eq_some_iff] at hc
    obtain ⟨n, h3, rfl⟩ := hc
    obtain ⟨ei, hi, rfl⟩ := sizeOf_ok h3
    simp only [AOp.run, Option.map_eq_some_iff] at hrun
    obtain ⟨r, h4, h5⟩ := hrun
    cases h5
    exact OpDoes.of (arrAddr_ok hs ht hi (opd_ok hr h1) (opd_ok hr h2) h4) rfl
  · rename_i e ht
    rw [Option.map_eq_some_iff] at hc
    obtain ⟨n, h3, rfl⟩ := hc
    obtain ⟨ei, hi, rfl⟩ := sizeOf_ok h3
    simp only [AOp.run] at hrun
    split at hrun
    · rename_i hsl
      rw [Option.map_eq_some_iff] at hrun
      obtain ⟨r, h4, h5⟩ := hrun
      cases h5
      obtain ⟨k1, k2⟩ := slSize_ok hsl
      refine OpDoes.of (slAddr_ok hs ht hi ?_ (opd_ok hr h1) (opd_ok hr h2) h4) rfl
      rcases k1 with k1 | k1 | ⟨_, k1⟩
      · exact k1
      · rw [k1] at h4; simp [aSlAddr] at h4
      · rw [k1] at h4; simp [aSlAddr] at h4
    · cases hrun
  · cases hc
 | index t x i =>
  simp only [Option.bind_eq_some_iff] at hc
  obtain ⟨ax, h1, ai, h2, hc⟩ := hc
  split at hc
  · rename_i len e ht
    simp only [Option.bind_eq_some_iff, Option.map_eq_some_iff] at hc
    obtain ⟨n, h3, m, h3', rfl⟩ := hc
    obtain ⟨ei, hi, rfl⟩ := sizeOf_ok h3
    obtain ⟨ei', d, hi', hd, hm⟩ := tySize_ok h3'
    rw [hi] at hi'; cases hi'
    simp only [AOp.run, Option.map_eq_some_iff] at hrun
    obtain ⟨r, h4, h5⟩ := hrun
    cases h5
    exact OpDoes.of (arrIdx_ok hs ht hi hd (by cases d <;> exact hm) (opd_ok hr h1) (opd_ok hr h2) h4) rfl
  · rename_i ht
    cases hc
    simp only [AOp.run, Option.map_eq_some_iff] at hrun
    obtain ⟨r, h4, h5⟩ := hrun
    cases h5
    exact OpDoes.of (strIdx_ok hs ht (opd_ok hr h1) (opd_ok hr h2) h4) rfl
  · cases hc
 | slice t x lo hi mx =>
  simp only [Option.bind_eq_some_iff] at hc
  obtain ⟨ax, h1, alo, h2, ahi, h3, amx, h4, hc⟩ := hc
  split at hc
  · rename_i ht
    split at hc
    · cases hc
    · rename_i hmx
      cases hc
      simp only [AOp.run] at hrun
      split at hrun
      · rename_i s heq
        rw [Option.map_eq_some_iff] at hrun
        obtain ⟨r, h5, h6⟩ := hrun
        cases h6
        have hv := opd_ok hr h1
        rw [heq] at hv
        have hmx' : mx = none := by
         unfold cOpt at h4
         split at h4
         · rfl
         · rw [Option.map_eq_some_iff] at h4; obtain ⟨q, _, rfl⟩ := h4; simp at hmx
        subst hmx'
        exact OpDoes.of (sliceStr_ok hs ht hv (opt_ok hr h2) (opt_ok hr h3) h5 rfl) rfl
      · cases hrun
  · rename_i e ht
    rw [Option.map_eq_some_iff] at hc
    obtain ⟨n, h5, rfl⟩ := hc
    obtain ⟨ei, hi', rfl⟩ := sizeOf_ok h5
    simp only [AOp.run] at hrun
    split at hrun
    · rename_i hsl
      rw [Option.map_eq_some_iff] at hrun
      obtain ⟨r, h6, h7⟩ := hrun
      cases h7
      obtain ⟨k1, k2⟩ := slSize_ok hsl
      exact OpDoes.of (sliceR_ok hs ht hi' k1 (opd_ok hr h1) (opt_ok hr h2) (opt_ok hr h3) (opt_ok hr h4) h6 k2) rfl
    · cases hrun
  · rw [Option.bind_eq_some_iff] at hc
    obtain ⟨ne, ht, hc⟩ := hc
    split at hc
    · cases hc
    · rename_i hmx
      rw [Option.map_eq_some_iff] at hc
      obtain ⟨n, h5, rfl⟩ := hc
      obtain ⟨ei, hi', rfl⟩ := sizeOf_ok h5
      have hmx' : mx = none := by
       unfold cOpt at h4
       split at h4
       · rfl
       · rw [Option.map_eq_some_iff] at h4; obtain ⟨q, _, rfl⟩ := h4; simp at hmx
      subst hmx'
      have ho1 := opt_ok hr h2
      have ho2 := opt_ok hr h3
      have key : ∀ (r : V), aSliceArr ne.1 ei.size (AO.eval ρ ax) (alo.map (AO.eval ρ)) (ahi.map (AO.eval ρ)) = some r → r = v ∧ σ = σ' → OpDoes P ⟨dst, .slice t x lo hi none, type, pos, after, guard⟩ a G w σ' v := by
       rintro r hr0 ⟨rfl, rfl⟩
       exact OpDoes.of (sliceArr_ok (P := P) hs (arrT_ok ht) hi' (opd_ok hr h1) ho1 ho2 hr0) rfl
      cases alo <;> cases ahi <;> simp only [AOp.run, XOp.run, Option.isSome, Option.toList, List.append_nil, List.cons_append, List.nil_append, List.map_cons, List.map_nil, Option.map_eq_some_iff, Prod.mk.injEq] at hrun <;>
       (obtain ⟨r, hr0, hr1, hr2⟩ := hrun; exact key r hr0 ⟨hr1, hr2⟩)
 | makeInterface t x =>
  simp only at hc
  split at hc
  · rename_i ht
    rw [Option.map_eq_some_iff] at hc
    obtain ⟨ax, h1, rfl⟩ := hc
    simp only [AOp.run, List.map_cons, List.map_nil] at hrun
    exact OpDoes.of (mkifc_ok (P := P) hs ht (opd_ok hr h1) hrun) rfl
  · cases hc
 | typeAssert x xt t ok =>
  simp only at hc
  split at hc
  · rename_i ht
    rw [Option.map_eq_some_iff] at hc
    obtain ⟨ax, h1, rfl⟩ := hc
    simp only [AOp.run, List.map_cons, List.map_nil] at hrun
    exact OpDoes.of (assert_ok (P := P) (xt := xt) hs ht (opd_ok hr h1) hrun) rfl
  · cases hc
 | makeMap t r =>
  cases r with
  | some _ => cases hc
  | none =>
   cases hc
   simp only [AOp.run, List.map_nil] at hrun
   exact OpDoes.of (mkmap_ok (P := P) (t := t) hs hrun) rfl
 | lookup t m k ok =>
  simp only [Option.bind_eq_some_iff] at hc
  obtain ⟨ke, ht, q, hq, hc⟩ := hc
  split at hc
  · rename_i hkey
    simp only [Option.bind_eq_some_iff, Option.map_eq_some_iff] at hc
    obtain ⟨z, hz, am, h1, ak, h2, rfl⟩ := hc
    simp only [AOp.run, List.map_cons, List.map_nil] at hrun
    exact OpDoes.of (lookup_ok (P := P) hs (mapT_ok ht) (eqT_desc hq) hq hkey hz (opd_ok hr h1) (opd_ok hr h2) hrun) rfl
  · cases hc
 | mapUpdate t m k x =>
  simp only [Option.bind_eq_some_iff] at hc
  obtain ⟨ke, ht, q, hq, hc⟩ := hc
  split at hc
  · rename_i hkey
    simp only [Option.bind_eq_some_iff, Option.map_eq_some_iff] at hc
    obtain ⟨am, h1, ak, h2, ax, h3, rfl⟩ := hc
    simp only [AOp.run, List.map_cons, List.map_nil] at hrun
    obtain ⟨rfl, w', r1, r2, r3⟩ := mapUpd_ok (P := P) hs (mapT_ok ht) (eqT_desc hq) hq hkey (opd_ok hr h1) (opd_ok hr h2) (opd_ok hr h3) hrun
    exact ⟨undef, w', G, Or.inr ⟨by simp [execOp, r1], rfl⟩, r2, r3, Rv.undef⟩
  · cases hc
 | makeSlice t l c =>
  simp only [Option.bind_eq_some_iff, Option.map_eq_some_iff] at hc
  obtain ⟨e, ht, i, hi, z, hz, al, h1, ac, h2, rfl⟩ := hc
  simp only [AOp.run, List.map_cons, List.map_nil] at hrun
  exact OpDoes.of (mkslice_ok (P := P) hs (slT_ok ht) hi hz (opd_ok hr h1) (opd_ok hr h2) hrun) rfl
 | extract x i =>
  simp only [Option.map_eq_some_iff] at hc
  obtain ⟨ax, h1, rfl⟩ := hc
  simp only [AOp.run, Option.map_eq_some_iff] at hrun
  obtain ⟨r, h4, h5⟩ := hrun
  cases h5
  unfold aExtract at h4
  split at h4
  · rename_i xs heq
    have hv := opd_ok hr h1
    rw [heq] at hv
    simp only [Rv] at hv
    obtain ⟨vs, hv, hl⟩ := hv
    obtain ⟨u, g1, g2⟩ := hl.getElem? i _ h4
    exact OpDoes.val hs (by simp [execOp, hv, Instr.extract, g1]) g2
  · cases h4
 | call c =>
  obtain ⟨callee, args, argTypes⟩ := c
  cases callee with
  | builtin b =>
   simp only [Option.bind_eq_some_iff] at hc
   obtain ⟨aos, h1, hc⟩ := hc
   have hargs := opds_ok hr h1
   have hmap : args.map a.eval = (args.toList.map a.eval).toArray := by apply Array.ext'; simp
   have run_b : ∀ (s : Sem Value) (σ' : St) (v : V), Does P s G w σ' v → (∀ cs, builtin b argTypes type cs (args.map a.eval) = (do let v ← s; pure (.value v))) →
     OpDoes P ⟨dst, .call ⟨.builtin b, args, argTypes⟩, type, pos, after, guard⟩ a G w σ' v := by
    intro s σ' v hd hb
    obtain ⟨v', w', G', r1, r2⟩ := hd
    refine ⟨v', w', G', Or.inl ?_, r2⟩
    simp only [execOp, resolve, invoke, Sem.run_bind, Sem.run_pure, Result.andThen_ok, hb, r1]
   split at hc
   · rename_i x t ht1
     have hat : argTypes = #[t] := by apply Array.ext'; simpa using ht1
     simp only [List.map_cons, List.map_nil, RvL] at hargs
     obtain ⟨vx, vs, hl, hvx, rfl⟩ := hargs
     rw [hl] at hmap
     split at hc
     · rename_i ht
       cases hc
       simp only [AOp.run, Option.map_eq_some_iff] at hrun
       obtain ⟨r, h4, h5⟩ := hrun
       cases h5
       exact run_b _ _ _ (lenStr_ok (ty := type) hs hvx ht h4) (fun cs => by rw [hmap, hat]; rfl)
     · rename_i e ht
       cases hc
       simp only [AOp.run, Option.map_eq_some_iff] at hrun
       obtain ⟨r, h4, h5⟩ := hrun
       cases h5
       exact run_b _ _ _ (len_ok (ty := type) hs hvx ht h4) (fun cs => by rw [hmap, hat]; rfl)
     · rw [Option.map_eq_some_iff] at hc
       obtain ⟨ke, ht, rfl⟩ := hc
       simp only [AOp.run, List.map_cons, List.map_nil] at hrun
       exact run_b _ _ _ (mapLen_ok (ty := type) hs (mapT_ok ht) hvx hrun) (fun cs => by rw [hmap, hat]; rfl)
   · rename_i x xs
     cases hc
     simp only [List.map_cons, RvL] at hargs
     obtain ⟨vx, vs, hl, hvx, hvs⟩ := hargs
     rw [hl] at hmap
     simp only [AOp.run, Option.map_eq_some_iff] at hrun
     obtain ⟨r, h4, h5⟩ := hrun
     cases h5
     obtain ⟨u, k1, k2⟩ := aFoldMax_ok (P := P) hvx hvs h4
     refine run_b _ _ _ (Does.pure (s := vs.foldlM Builtin.max2 vx) hs k2 k1) (fun cs => by rw [hmap]; simp [builtin, Builtin.max_])
   · rename_i x xs
     cases hc
     simp only [List.map_cons, RvL] at hargs
     obtain ⟨vx, vs, hl, hvx, hvs⟩ := hargs
     rw [hl] at hmap
     simp only [AOp.run, Option.map_eq_some_iff] at hrun
     obtain ⟨r, h4, h5⟩ := hrun
     cases h5
     obtain ⟨u, k1, k2⟩ := aFoldMin_ok (P := P) hvx hvs h4
     refine run_b _ _ _ (Does.pure (s := vs.foldlM Builtin.min2 vx) hs k2 k1) (fun cs => by rw [hmap]; simp [builtin, Builtin.min_])
   · rename_i m k t ts ht1
     have hat : argTypes = (t :: ts).toArray := by apply Array.ext'; simpa using ht1
     simp only [List.map_cons, List.map_nil, RvL] at hargs
     obtain ⟨vx, vs, hl, hvx, vy, vs', rfl, hvy, rfl⟩ := hargs
     rw [hl] at hmap
     simp only [Option.bind_eq_some_iff] at hc
     obtain ⟨ke, ht, q, hq, hc⟩ := hc
     split at hc
     · rename_i hkey
       cases hc
       simp only [AOp.run, List.map_cons, List.map_nil] at hrun
       exact run_b _ _ _ (mapDel_ok (ty := type) (ts := ts) hs (mapT_ok ht) (eqT_desc hq) hq hkey hvx hvy hrun) (fun cs => by rw [hmap, hat]; rfl)
     · cases hc
   · rename_i x t ht1
     have hat : argTypes = #[t] := by apply Array.ext'; simpa using ht1
     simp only [List.map_cons, List.map_nil, RvL] at hargs
     obtain ⟨vx, vs, hl, hvx, rfl⟩ := hargs
     rw [hl] at hmap
     simp only [Option.bind_eq_some_iff, Option.map_eq_some_iff] at hc
     obtain ⟨e, ht, i, hi, z, hz, rfl⟩ := hc
     simp only [AOp.run, List.map_cons, List.map_nil] at hrun
     exact run_b _ _ _ (clear_ok (ty := type) hs (slT_ok ht) hi hz hvx hrun) (fun cs => by rw [hmap, hat]; rfl)
   · rename_i x y t ts ht1
     have hat : argTypes = (t :: ts).toArray := by apply Array.ext'; simpa using ht1
     simp only [List.map_cons, List.map_nil, RvL] at hargs
     obtain ⟨vx, vs, hl, hvx, vy, vs', rfl, hvy, rfl⟩ := hargs
     rw [hl] at hmap
     simp only [Option.bind_eq_some_iff, Option.map_eq_some_iff] at hc
     obtain ⟨e, ht, i, hi, rfl⟩ := hc
     simp only [AOp.run, List.map_cons, List.map_nil] at hrun
     exact run_b _ _ _ (copy_ok (ty := type) (ts := ts) hs (slT_ok ht) hi hvx hvy hrun) (fun cs => by rw [hmap, hat]; rfl)
   · rename_i x y t u ht1
     have hat : argTypes = #[t, u] := by apply Array.ext'; simpa using ht1
     simp only [List.map_cons, List.map_nil, RvL] at hargs
     obtain ⟨vx, vs, hl, hvx, vy, vs', rfl, hvy, rfl⟩ := hargs
     rw [hl] at hmap
     split at hc
     · rename_i e e' ht hu
       simp only [Option.bind_eq_some_iff] at hc
       obtain ⟨i, hi, z, hz, hc⟩ := hc
       split at hc
       · rename_i hzs
         cases hc
         simp only [AOp.run] at hrun
         exact run_b _ _ _ (append_ok (ty := type) ht hi hz hzs hu (Or.inl ⟨e', rfl⟩) hs hvx hvy hrun) (fun cs => by rw [hmap, hat]; rfl)
       · cases hc
     · rename_i e ht hu
       simp only [Option.bind_eq_some_iff] at hc
       obtain ⟨i, hi, z, hz, hc⟩ := hc
       split at hc
       · rename_i hzs
         cases hc
         simp only [AOp.run] at hrun
         exact run_b _ _ _ (append_ok (ty := type) ht hi hz hzs hu (Or.inr rfl) hs hvx hvy hrun) (fun cs => by rw [hmap, hat]; rfl)
       · cases hc
     · cases hc
   · cases hc
  | value f =>
   cases f <;> simp only [Option.bind_eq_some_iff, Option.map_eq_some_iff] at hc
   case func g =>
    obtain ⟨aos, h1, rfl⟩ := hc
    split at hnc
    · rename_i hcl
      rw [if_pos hcl] at hrun
      simp only [AOp.run] at hrun
      obtain ⟨v', w', G', r1, r2, r3, r4⟩ := clone_ok (P := P) hs hcl (opds_ok hr h1) hrun
      refine ⟨v', w', G', Or.inl ?_, r2, r3, r4⟩
      have hmap : args.map a.eval = (args.toList.map a.eval).toArray := by apply Array.ext'; simp
      simp only [execOp, resolve, Act.eval, Deferred.ofValue, invoke, Sem.run_bind, Sem.run_pure, Result.andThen_ok]
      simpa [hmap] using r1
    · simp [AOp.isCall] at hnc
   all_goals (obtain ⟨f', _, aos, _, rfl⟩ := hc; simp [AOp.isCall] at hnc)
  | invoke r m => cases hc
 | _ => cases hc
end
end Go.Ab
