/-
  Ballots: what is there behind a crash (plain).
  Ballots: what a box writes, what is there behind a crash (plain).
  VoteKept: its run.
-/
import Derived.Test.YtllkidpebjgkeaaVoteU
import Derived.KernelRfl
namespace Go.Proofs.Ytllkidpebjgkeaa.vt
open Go.Ab fr dk
set_option maxRecDepth 100000
set_option maxHeartbeats 8000000
set_option linter.unusedSimpArgs false
set_option linter.unusedVariables false

/-! ## Frames, and a beginning of one -/
def fputs (l : List (List UInt8)) : List UInt8 := (l.map fput).flatten
theorem fputs_append (a b : List (List UInt8)) : fputs (a ++ b) = fputs a ++ fputs b := by simp [fputs]
theorem fputs_one (p : List UInt8) : fputs [p] = fput p := by simp [fputs]
theorem fputs_len (l : List (List UInt8)) : (fputs l).length = flen l := by
  induction l with
  | nil => rfl
  | cons p l ih => simp only [fputs, List.map_cons, List.flatten_cons, List.length_append, flen, fput_len] at ih ⊢; rw [ih]
theorem scan_torn {p : List UInt8} (hp : p.length ≤ 4096) {m : Nat} (hm : m < p.length + 12) : scan ((fput p).take m) = [] := by
  have hl : ((fput p).take m).length = m := by rw [List.length_take, fput_len]; omega
  have hk : (ftk ((fput p).take m)).2.2 ≠ 0 := by
    unfold ftk
    by_cases c1 : ((fput p).take m).length < 8
    · rw [if_pos c1]; decide
    rw [if_neg c1]
    have t4 : ((fput p).take m).take 4 = be 4 p.length := by
      rw [List.take_take, Nat.min_eq_left (by omega)]
      unfold fput
      rw [List.append_assoc, List.append_assoc, List.take_append_of_le_length (by rw [be_len]; decide), List.take_of_length_le (by rw [be_len]; decide)]
    rw [t4, val_be 4 _ (by omega)]
    split
    · decide
    · rw [if_pos (by omega)]; decide
  rw [scan_eq, if_neg hk]
theorem scan_app (l : List (List UInt8)) (r : List UInt8) (h : ∀ p ∈ l, p.length ≤ 4096) : scan (fputs l ++ r) = l ++ scan r := by
  induction l with
  | nil => simp [fputs]
  | cons p l ih =>
    have e : fputs (p :: l) ++ r = fput p ++ (fputs l ++ r) := by simp [fputs, List.append_assoc]
    have hk := ftk_fput p (fputs l ++ r) (h p List.mem_cons_self)
    rw [e, scan_eq, hk]
    simp only [if_true]
    rw [List.drop_append_of_le_length (by rw [fput_len]; exact Nat.le_refl _), List.drop_of_length_le (by rw [fput_len]; exact Nat.le_refl _), List.nil_append, ih fun q hq => h q (List.mem_cons_of_mem _ hq), List.cons_append]
theorem vok_len {p : List UInt8} (h : vok p = true) : p.length = 17 := by
  unfold vok at h; exact (of_decide_eq_true h).1
/-- A beginning of a ballot's frame, or nothing. -/
def Torn (r : List UInt8) : Prop := r = [] ∨ ∃ p m, p.length = 17 ∧ m < 29 ∧ r = (fput p).take m
theorem torn_scan {r : List UInt8} (h : Torn r) : scan r = [] := by
  rcases h with rfl | ⟨p, m, hp, hm, rfl⟩
  · rfl
  · exact scan_torn (by omega) (by omega)
theorem torn_len {r : List UInt8} (h : Torn r) : r.length < 29 := by
  rcases h with rfl | ⟨p, m, hp, hm, rfl⟩
  · simp
  · rw [List.length_take]; omega
theorem vl_app {l : List (List UInt8)} {r : List UInt8} (h : ∀ p ∈ l, vok p = true) (hr : Torn r) : vl (fputs l ++ r) = l := by
  unfold vl
  rw [scan_app l r (fun p hp => by have := vok_len (h p hp); omega), torn_scan hr, List.append_nil]
  have := take_while (l := l) (i := l.length) (by rw [List.take_length]; exact h) (.inl rfl)
  rw [this, List.take_length]
theorem flen_vok {l : List (List UInt8)} (h : ∀ p ∈ l, vok p = true) : flen l = 29 * l.length := by
  induction l with
  | nil => rfl
  | cons p l ih =>
    have h1 := vok_len (h p List.mem_cons_self)
    simp only [flen, List.length_cons]
    rw [ih fun q hq => h q (List.mem_cons_of_mem _ hq), h1]
    omega

/-! ## A file that is read -/
/-- What stands in a file: so many ballots, and perhaps a beginning of one. -/
def Fs (M : DM) (f : Nat) (l : List (List UInt8)) : Prop := (M.f f = ⟨⟨false, []⟩, []⟩ ∧ l = []) ∨ M.f f = ⟨⟨true, fputs l⟩, []⟩
def Fl (M : DM) (f : Nat) (l : List (List UInt8)) : Prop := (M.f f = ⟨⟨false, []⟩, []⟩ ∧ l = []) ∨ ∃ r, M.f f = ⟨⟨true, fputs l ++ r⟩, []⟩ ∧ Torn r
theorem Fs.fl {M : DM} {f : Nat} {l : List (List UInt8)} (h : Fs M f l) : Fl M f l := by
  rcases h with h | h
  · exact .inl h
  · exact .inr ⟨[], by rw [h, List.append_nil], .inl rfl⟩
theorem Fs.same {M M' : DM} {f : Nat} {l : List (List UInt8)} (h : Fs M f l) (e : M'.f f = M.f f) : Fs M' f l := by
  unfold Fs at h ⊢; rw [e]; exact h
theorem Fl.same {M M' : DM} {f : Nat} {l : List (List UInt8)} (h : Fl M f l) (e : M'.f f = M.f f) : Fl M' f l := by
  unfold Fl at h ⊢; rw [e]; exact h
theorem read_n {M : DM} (hp : M.power ≠ 0) {n : Nat} (hn : n < 32) : M.read (n : Int) = if (M.f n).seen.there = false then ([], 4) else ((M.f n).seen.s, 0) := by
  unfold DM.read
  have h0 : ¬ ((n : Int) < 0 ∨ 32 ≤ (n : Int)) := by omega
  rw [if_neg hp, if_neg h0, see_in (by omega) (by omega), Int.toNat_natCast]
def DM.dn (M : DM) : DM := { M with power := if 0 < M.power then M.power - 1 else M.power, ops := M.ops + 1 }
theorem change_0 {M : DM} (hp : M.power = 0) (f : Int) (c : Ch) : M.change f c = (M, 40) := by
  unfold DM.change DM.step
  rw [if_pos hp]
  rfl
theorem change_e {M : DM} (hp : M.power ≠ 0) {f : Nat} (hf : f < 32) {c : Ch} (he : M.may f c ≠ 0) : M.change f c = (M, M.may f c) := by
  have h0 : ¬ ((f : Int) < 0 ∨ 32 ≤ (f : Int)) := by omega
  unfold DM.change DM.step
  rw [if_neg hp, if_neg h0, if_pos he]
  dsimp only
  rw [if_neg he]
theorem change_y {M : DM} (hp : M.power ≠ 0) {f : Nat} (hf : f < 32) {c : Ch} (he : M.may f c = 0) : M.change f c = ((DM.dn M).upd f ((M.f f).add c), 0) := by
  have h0 : ¬ ((f : Int) < 0 ∨ 32 ≤ (f : Int)) := by omega
  unfold DM.change DM.step
  rw [if_neg hp, if_neg h0, he]
  simp only [ne_eq, not_true_eq_false, if_false, if_true, Int.toNat_natCast]
  rfl
theorem sync_0 {M : DM} (hp : M.power = 0) (f : Int) : M.sync f = (M, 40) := by
  unfold DM.sync DM.step
  rw [if_pos hp]
  rfl
theorem sync_y {M : DM} (hp : M.power ≠ 0) {f : Nat} (hf : f < 32) : M.sync f = ((DM.dn M).upd f ⟨(M.f f).seen, []⟩, 0) := by
  have h0 : ¬ ((f : Int) < 0 ∨ 32 ≤ (f : Int)) := by omega
  unfold DM.sync DM.step
  rw [if_neg hp, if_neg h0]
  simp only [ne_eq, not_true_eq_false, if_false, if_true, Int.toNat_natCast]
  rfl
theorem upd_f (M : DM) (f : Nat) (F : FM) : (M.upd f F).f f = F := by simp [DM.upd]
theorem upd_g (M : DM) {f g : Nat} (h : g ≠ f) (F : FM) : (M.upd f F).f g = M.f g := by simp [DM.upd, h]

theorem vfile_fl {M : DM} {f : Nat} {l : List (List UInt8)} (hp : M.power = -1) (hf : f < 32) (h : Fl M f l) (hv : ∀ p ∈ l, vok p = true) (x : VB) :
    ∃ M', vfile M x f = (M', vin x (vfold f x l) l.length, 0) ∧ M'.power = -1 ∧ Fs M' f l ∧ ∀ g, g ≠ f → M'.f g = M.f g := by
  have hp0 : M.power ≠ 0 := by omega
  unfold vfile
  rw [read_n hp0 hf]
  rcases h with ⟨h1, rfl⟩ | ⟨r, h1, hr⟩
  · refine ⟨M, ?_, hp, .inl ⟨h1, rfl⟩, fun _ _ => rfl⟩
    rw [h1]
    simp [FM.seen, seenOf, vin, vfold]
  · have hs : (M.f f).seen = ⟨true, fputs l ++ r⟩ := by rw [h1]; rfl
    rw [hs]
    simp only [Bool.true_eq_false, if_false, (show ¬ ((0 : Int) = 4) by decide), ne_eq, not_true_eq_false]
    rw [vl_app hv hr]
    have hlen : (fputs l ++ r).length = flen l + r.length := by rw [List.length_append, fputs_len]
    by_cases hz : r = []
    · subst hz
      rw [if_neg (by rw [hlen]; simp)]
      exact ⟨M, rfl, hp, .inr (by rw [h1, List.append_nil]), fun _ _ => rfl⟩
    · have hrl : 0 < r.length := List.length_pos_iff.2 hz
      rw [if_pos (by omega)]
      have hm : M.may f ⟨2, [], flen l⟩ = 0 := by
        unfold DM.may
        rw [see_in (by omega) (by omega), Int.toNat_natCast, hs]
        simp only [(show ¬ ((2 : Int) = 1) by decide), if_false, Bool.true_eq_false, true_and]
        rw [if_neg (by omega)]
      rw [change_y hp0 hf hm]
      simp only [not_true_eq_false, if_false]
      have hp2 : ((DM.dn M).upd f ((M.f f).add ⟨2, [], flen l⟩)).power = -1 := by simp [DM.upd, DM.dn, hp]
      have hs2 : (((DM.dn M).upd f ((M.f f).add ⟨2, [], flen l⟩)).f f).seen = ⟨true, fputs l⟩ := by
        rw [upd_f]
        unfold FM.add FM.seen
        rw [seenOf_append]
        have : seenOf (M.f f).sure (M.f f).loose = ⟨true, fputs l ++ r⟩ := hs
        rw [this]
        simp only [done, (show ¬ ((2 : Int) = 1) by decide), if_false, if_true, Int.toNat_natCast]
        rw [List.take_append_of_le_length (by rw [fputs_len]; exact Nat.le_refl _), List.take_of_length_le (by rw [fputs_len]; exact Nat.le_refl _)]
      have ho : ∀ g, g ≠ f → ((DM.dn M).upd f ((M.f f).add ⟨2, [], flen l⟩)).f g = M.f g := fun g hg => by rw [upd_g _ hg]; rfl
      generalize (DM.dn M).upd f ((M.f f).add ⟨2, [], flen l⟩) = M1 at *
      rw [sync_y (by omega) hf, hs2]
      refine ⟨_, rfl, by simp [DM.upd, DM.dn, hp2], .inr (by rw [upd_f]), fun g hg => by rw [upd_g _ hg]; exact ho g hg⟩

/-! ## The newest -/
def top (p : List UInt8) (f n : Nat) : VB := ⟨vtm p, (vwho p : Int) - 1, vcnt p, f, n, 0⟩
theorem vfold_br (f : Nat) (l : List (List UInt8)) : ∀ x : VB, (vfold f x l).br = x.br := by
  induction l with
  | nil => intro x; rfl
  | cons p l ih => intro x; refine (ih _).trans ?_; unfold vadd; split <;> rfl
theorem vin_br (f n : Nat) (l : List (List UInt8)) (x : VB) : (vin x (vfold f x l) n).br = x.br := by
  unfold vin
  split
  · exact vfold_br f l x
  · exact vfold_br f l x
theorem vfold_lt (f m : Nat) (l : List (List UInt8)) : ∀ x : VB, x.c < m → (∀ q ∈ l, vcnt q < m) → (vfold f x l).c < m := by
  induction l with
  | nil => intro x h _; exact h
  | cons p l ih =>
    intro x h hl
    refine ih _ ?_ fun q hq => hl q (List.mem_cons_of_mem _ hq)
    unfold vadd
    split
    · exact hl p List.mem_cons_self
    · exact h
theorem vin_lt (f m n : Nat) (l : List (List UInt8)) (x : VB) (h : x.c < m) (hl : ∀ q ∈ l, vcnt q < m) : (vin x (vfold f x l) n).c < m := by
  unfold vin
  split
  · exact vfold_lt f m l x h hl
  · exact vfold_lt f m l x h hl
theorem fold_miss (f : Nat) (l : List (List UInt8)) (x : VB) (h : ∀ q ∈ l, vcnt q ≤ x.c) : vfold f x l = x := by
  induction l with
  | nil => rfl
  | cons q l ih =>
    have : vadd f x q = x := by unfold vadd; rw [if_neg (by have := h q List.mem_cons_self; omega)]
    show vfold f (vadd f x q) l = x
    rw [this]
    exact ih fun a ha => h a (List.mem_cons_of_mem _ ha)
theorem vin_miss (f n : Nat) (l : List (List UInt8)) (x : VB) (h : ∀ q ∈ l, vcnt q ≤ x.c) : vin x (vfold f x l) n = x := by
  rw [fold_miss f l x h]
  unfold vin
  rw [if_neg (by omega)]
theorem fold_hit (f : Nat) (l : List (List UInt8)) {p : List UInt8} : ∀ x : VB, p ∈ l → (∀ q ∈ l, q = p ∨ vcnt q < vcnt p) → x.c < vcnt p → vfold f x l = { x with t := vtm p, w := (vwho p : Int) - 1, c := vcnt p, f := f } := by
  induction l with
  | nil => intro x h; simp at h
  | cons q l ih =>
    intro x hp hq hs
    show vfold f (vadd f x q) l = _
    by_cases e : q = p
    · subst e
      have : vadd f x q = { x with t := vtm q, w := (vwho q : Int) - 1, c := vcnt q, f := f } := by unfold vadd; rw [if_pos hs]
      rw [this]
      refine fold_miss f l _ fun a ha => ?_
      rcases hq a (List.mem_cons_of_mem _ ha) with rfl | h
      · exact Nat.le_refl _
      · dsimp only; omega
    · have hp' : p ∈ l := by
        rcases List.mem_cons.1 hp with h | h
        · exact absurd h.symm e
        · exact h
      have hlt : vcnt q < vcnt p := (hq q List.mem_cons_self).resolve_left e
      have hc : (vadd f x q).c < vcnt p := by
        unfold vadd
        split
        · exact hlt
        · exact hs
      rw [ih _ hp' (fun a ha => hq a (List.mem_cons_of_mem _ ha)) hc]
      unfold vadd
      split <;> rfl
theorem vin_hit (f n : Nat) (l : List (List UInt8)) {p : List UInt8} (x : VB) (hp : p ∈ l) (hq : ∀ q ∈ l, q = p ∨ vcnt q < vcnt p) (hs : x.c < vcnt p) (hb : x.br = 0) : vin x (vfold f x l) n = top p f n := by
  rw [fold_hit f l x hp hq hs]
  unfold vin
  rw [if_pos (by exact hs)]
  unfold top
  rw [hb]

/-- What stands in both files, and what is the newest. -/
structure CI (R : DM → Nat → List (List UInt8) → Prop) (N : Nat) (M : DM) (L : Nat → List (List UInt8)) (x : VB) : Prop where
  s : ∀ f, f ≤ 1 → R M f (L f)
  v : ∀ f, f ≤ 1 → ∀ q ∈ L f, vok q = true
  n8 : ∀ f, f ≤ 1 → (L f).length ≤ 8
  t : (L 0 = [] ∧ L 1 = [] ∧ x = x0) ∨ ∃ p f, f ≤ 1 ∧ p ∈ L f ∧ x = top p f (L f).length ∧ ∀ g, g ≤ 1 → ∀ q ∈ L g, (q = p ∧ g = f) ∨ vcnt q < vcnt p
  c : x.c ≤ N
theorem CI.fl {N : Nat} {M : DM} {L : Nat → List (List UInt8)} {x : VB} (h : CI Fs N M L x) : CI Fl N M L x := ⟨fun f hf => (h.s f hf).fl, h.v, h.n8, h.t, h.c⟩
theorem CI.more {R : DM → Nat → List (List UInt8) → Prop} {N K : Nat} {M : DM} {L : Nat → List (List UInt8)} {x : VB} (h : CI R N M L x) (hk : N ≤ K) : CI R K M L x := ⟨h.s, h.v, h.n8, h.t, Nat.le_trans h.c hk⟩
theorem vopen_ci {N : Nat} {M : DM} {L : Nat → List (List UInt8)} {x : VB} (h : CI Fl N M L x) (hp : M.power = -1) : ∃ M', vopen M = (M', x, 0) ∧ M'.power = -1 ∧ CI Fs N M' L x := by
  obtain ⟨M1, e1, p1, f1, g1⟩ := vfile_fl hp (by decide) (h.s 0 (by decide)) (h.v 0 (by decide)) x0
  obtain ⟨M2, e2, p2, f2, g2⟩ := vfile_fl p1 (by decide) ((h.s 1 (by decide)).same (g1 1 (by decide))) (h.v 1 (by decide)) (vin x0 (vfold 0 x0 (L 0)) (L 0).length)
  have hx : vin (vin x0 (vfold 0 x0 (L 0)) (L 0).length) (vfold 1 (vin x0 (vfold 0 x0 (L 0)) (L 0).length) (L 1)) (L 1).length = x := by
    rcases h.t with ⟨h0, h1, rfl⟩ | ⟨p, f, hf, hpl, rfl, hq⟩
    · rw [h0, h1]; rfl
    · have cp : 1 ≤ vcnt p := by have := h.v f hf p hpl; unfold vok at this; exact (of_decide_eq_true this).2.1
      by_cases f0 : f = 0
      · subst f0
        rw [vin_hit 0 _ (L 0) x0 hpl (fun q hq' => (hq 0 (by decide) q hq').imp (fun a => a.1) id) (by simp [x0]; omega) rfl]
        exact vin_miss 1 _ _ _ fun q hq' => by
          rcases hq 1 (by decide) q hq' with ⟨_, h⟩ | h
          · exact absurd h (by decide)
          · simp only [top]; omega
      · obtain rfl : f = 1 := by omega
        refine vin_hit 1 _ (L 1) _ hpl (fun q hq' => (hq 1 (by decide) q hq').imp (fun a => a.1) id) ?_ (vin_br _ _ _ _)
        refine vin_lt 0 _ _ _ _ (by simp [x0]; omega) fun q hq' => ?_
        rcases hq 0 (by decide) q hq' with ⟨_, h⟩ | h
        · exact absurd h (by decide)
        · exact h
  refine ⟨M2, ?_, p2, ⟨fun f hf => ?_, h.v, h.n8, h.t, h.c⟩⟩
  · unfold vopen
    rw [if_neg (by omega)]
    unfold vrest vrest vrest
    simp only [Nat.sub_self, Nat.sub_zero, Int.natCast_zero, e1, e2, ne_eq, not_true_eq_false, if_false]
    rw [hx]
  · by_cases f0 : f = 0
    · subst f0; exact f1.same (g2 0 (by decide))
    · obtain rfl : f = 1 := by omega
      exact f2

/-! ## Written -/
theorem crash_cases (F : FM) (keep torn : Int) : ∃ n, n ≤ F.loose.length ∧ (F.crash keep torn = ⟨seenOf F.sure (F.loose.take n), []⟩ ∨ ∃ c m, F.loose[n]? = some c ∧ c.k = 1 ∧ m < c.s.length ∧ F.crash keep torn = ⟨done (seenOf F.sure (F.loose.take n)) ⟨1, c.s.take m, 0⟩, []⟩) := by
  refine ⟨(min (max keep 0) F.loose.length).toNat, by omega, ?_⟩
  unfold FM.crash
  generalize (min (max keep 0) F.loose.length).toNat = n
  unfold FM.crashN
  dsimp only
  cases hc : F.loose[n]? with
  | none => exact .inl rfl
  | some c =>
    dsimp only
    split
    · rename_i h
      exact .inr ⟨c, _, rfl, h.1, by omega, rfl⟩
    · exact .inl rfl
/-- Up: what a ballot may be behind another one. -/
def Up (x : VB) (t w : Int) : Prop := x.t < t ∨ (t = x.t ∧ (w = x.w ∨ x.w < 0))
def vbal (x : VB) (t w : Int) : List UInt8 := vpay (x.c + 1) t.toNat (w + 1).toNat
theorem vbal_ok {x : VB} {t w : Int} (hm : vmay t w) (hc : x.c < 4611686018427387904) : vok (vbal x t w) = true ∧ vcnt (vbal x t w) = x.c + 1 ∧ (vtm (vbal x t w) : Int) = t ∧ (vwho (vbal x t w) : Int) - 1 = w := by
  unfold vmay at hm
  have e1 : vcnt (vbal x t w) = x.c + 1 := by
    unfold vcnt vbal vpay
    rw [List.append_assoc, List.take_append_of_le_length (by rw [be_len]; exact Nat.le_refl _), List.take_of_length_le (by rw [be_len]; exact Nat.le_refl _), val_be 8 _ (by omega)]
  have e2 : vtm (vbal x t w) = t.toNat := by
    unfold vtm vbal vpay
    rw [List.append_assoc, List.drop_append_of_le_length (by rw [be_len]; exact Nat.le_refl _), List.drop_of_length_le (by rw [be_len]; exact Nat.le_refl _), List.nil_append, List.take_append_of_le_length (by rw [be_len]; exact Nat.le_refl _), List.take_of_length_le (by rw [be_len]; exact Nat.le_refl _), val_be 8 _ (by omega)]
  have e3 : vwho (vbal x t w) = (w + 1).toNat := by
    unfold vwho vbal vpay
    rw [List.drop_append_of_le_length (by simp [be_len]), List.drop_of_length_le (by simp [be_len]), List.nil_append, List.take_of_length_le (by rw [be_len]; exact Nat.le_refl _), val_be 1 _ (by omega)]
  refine ⟨?_, e1, by rw [e2]; omega, by rw [e3]; omega⟩
  unfold vok
  rw [decide_eq_true_iff, e1, e2, e3]
  exact ⟨vpay_len _ _ _, by omega, by omega, by omega, by omega⟩
/-- A ballot put: nothing was done; or it is not sure; or it stands. -/
theorem vput_res {M : DM} {x : VB} {t w : Int} {f n : Nat} (hf : f < 32) (hs : (M.f f).seen.s.length ≤ 1000) :
    vput M x t w f n = (M, { x with br := 40 }, 40) ∨
    (∃ M1, vput M x t w f n = (M1, { x with br := 40 }, 40) ∧ M1.f f = (M.f f).add ⟨1, fput (vbal x t w), 0⟩ ∧ ∀ g, g ≠ f → M1.f g = M.f g) ∨
    (∃ M1, vput M x t w f n = (M1, ⟨t, w, x.c + 1, f, n + 1, 0⟩, 0) ∧ M1.f f = ⟨⟨true, (M.f f).seen.s ++ fput (vbal x t w)⟩, []⟩ ∧ ∀ g, g ≠ f → M1.f g = M.f g) := by
  unfold vput
  have hb : vpay (x.c + 1) t.toNat (w + 1).toNat = vbal x t w := rfl
  have hbl : (fput (vbal x t w)).length = 29 := by rw [fput_len]; unfold vbal; rw [vpay_len]
  rw [hb]
  by_cases hp : M.power = 0
  · left
    rw [change_0 hp, if_pos (show (40 : Int) ≠ 0 by decide)]
  · right
    have hm : M.may f ⟨1, fput (vbal x t w), 0⟩ = 0 := by
      unfold DM.may
      rw [see_in (by omega) (by omega), Int.toNat_natCast, if_pos rfl, if_neg (by dsimp only; rw [hbl]; omega)]
    rw [change_y hp hf hm]
    simp only [ne_eq, not_true_eq_false, if_false]
    have ho : ∀ g, g ≠ f → ((DM.dn M).upd f ((M.f f).add ⟨1, fput (vbal x t w), 0⟩)).f g = M.f g := fun g hg => by rw [upd_g _ hg]; rfl
    have hme : ((DM.dn M).upd f ((M.f f).add ⟨1, fput (vbal x t w), 0⟩)).f f = (M.f f).add ⟨1, fput (vbal x t w), 0⟩ := upd_f _ _ _
    generalize (DM.dn M).upd f ((M.f f).add ⟨1, fput (vbal x t w), 0⟩) = M1 at *
    by_cases hp1 : M1.power = 0
    · left
      refine ⟨M1, ?_, hme, ho⟩
      rw [sync_0 hp1, if_pos (show (40 : Int) ≠ 0 by decide)]
    · right
      rw [sync_y hp1 hf]
      refine ⟨_, rfl, ?_, fun g hg => by rw [upd_g _ hg]; exact ho g hg⟩
      rw [upd_f, hme]
      unfold FM.add FM.seen
      rw [seenOf_append]
      simp [done]
end Go.Proofs.Ytllkidpebjgkeaa.vt
namespace Go.Proofs.Ytllkidpebjgkeaa.vt
open Go.Ab fr dk
set_option maxRecDepth 100000
set_option maxHeartbeats 8000000
set_option linter.unusedSimpArgs false
set_option linter.unusedVariables false

theorem CI.le {R : DM → Nat → List (List UInt8) → Prop} {N : Nat} {M : DM} {L : Nat → List (List UInt8)} {x : VB} (h : CI R N M L x) {f : Nat} (hf : f ≤ 1) {q : List UInt8} (hq : q ∈ L f) : vcnt q ≤ x.c := by
  rcases h.t with ⟨h0, h1, rfl⟩ | ⟨p, g, hg, hpl, rfl, ha⟩
  · by_cases f0 : f = 0
    · subst f0; rw [h0] at hq; simp at hq
    · obtain rfl : f = 1 := by omega
      rw [h1] at hq; simp at hq
  · rcases ha f hf q hq with ⟨rfl, _⟩ | h
    · exact Nat.le_refl _
    · simp only [top]; omega
theorem CI.br {R : DM → Nat → List (List UInt8) → Prop} {N : Nat} {M : DM} {L : Nat → List (List UInt8)} {x : VB} (h : CI R N M L x) : x.br = 0 := by
  rcases h.t with ⟨h0, h1, rfl⟩ | ⟨p, g, hg, hpl, rfl, ha⟩ <;> rfl
theorem CI.f1 {R : DM → Nat → List (List UInt8) → Prop} {N : Nat} {M : DM} {L : Nat → List (List UInt8)} {x : VB} (h : CI R N M L x) : x.f ≤ 1 := by
  rcases h.t with ⟨h0, h1, rfl⟩ | ⟨p, g, hg, hpl, rfl, ha⟩
  · exact Nat.le_refl _
  · exact hg
theorem CI.nn {R : DM → Nat → List (List UInt8) → Prop} {N : Nat} {M : DM} {L : Nat → List (List UInt8)} {x : VB} (h : CI R N M L x) : x.n ≤ 8 := by
  rcases h.t with ⟨h0, h1, rfl⟩ | ⟨p, g, hg, hpl, rfl, ha⟩
  · exact Nat.le_refl _
  · exact h.n8 g hg
theorem CI.vm {R : DM → Nat → List (List UInt8) → Prop} {N : Nat} {M : DM} {L : Nat → List (List UInt8)} {x : VB} (h : CI R N M L x) : 0 ≤ x.t := by
  rcases h.t with ⟨h0, h1, rfl⟩ | ⟨p, g, hg, hpl, rfl, ha⟩
  · exact Int.le_refl _
  · simp only [top]; omega
/-- The same ballot as ahead, the other file as it was or empty. -/
theorem CI.keep {R S : DM → Nat → List (List UInt8) → Prop} {N : Nat} {M M' : DM} {L L' : Nat → List (List UInt8)} {x : VB} (h : CI R N M L x) (hs : ∀ f, f ≤ 1 → S M' f (L' f)) (he : ∀ f, f ≤ 1 → L' f = L f ∨ (f = 1 - x.f ∧ L' f = [])) : CI S N M' L' x := by
  have sub : ∀ f, f ≤ 1 → ∀ q ∈ L' f, q ∈ L f := fun f hf q hq => by
    rcases he f hf with e | ⟨_, e⟩
    · rwa [e] at hq
    · rw [e] at hq; simp at hq
  refine ⟨hs, fun f hf q hq => h.v f hf q (sub f hf q hq), fun f hf => ?_, ?_, h.c⟩
  · rcases he f hf with e | ⟨_, e⟩
    · rw [e]; exact h.n8 f hf
    · rw [e]; simp
  · rcases h.t with ⟨h0, h1, rfl⟩ | ⟨p, g, hg, hpl, rfl, ha⟩
    · left
      refine ⟨?_, ?_, rfl⟩
      · rcases he 0 (by decide) with e | ⟨_, e⟩
        · rw [e, h0]
        · exact e
      · rcases he 1 (by decide) with e | ⟨_, e⟩
        · rw [e, h1]
        · exact e
    · right
      have e : L' g = L g := by
        rcases he g hg with e | ⟨e, _⟩
        · exact e
        · simp only [top] at e; omega
      exact ⟨p, g, hg, by rw [e]; exact hpl, by rw [e], fun f hf q hq => ha f hf q (sub f hf q hq)⟩
/-- One more ballot. -/
theorem CI.put {R S : DM → Nat → List (List UInt8) → Prop} {N : Nat} {M M' : DM} {L L' : Nat → List (List UInt8)} {x : VB} (h : CI R N M L x) {g : Nat} (hg : g ≤ 1) {t w : Int} (hm : vmay t w) (hc : x.c < 4611686018427387904) (hs : ∀ f, f ≤ 1 → S M' f (L' f)) (he : ∀ f, f ≤ 1 → f ≠ g → L' f = L f) (hL : (L' g = L g ++ [vbal x t w] ∧ (L g).length < 8) ∨ L' g = [vbal x t w]) : CI S (N + 1) M' L' ⟨t, w, x.c + 1, g, (L' g).length, 0⟩ := by
  obtain ⟨b1, b2, b3, b4⟩ := vbal_ok (x := x) hm hc
  have mem : ∀ f, f ≤ 1 → ∀ q ∈ L' f, (q = vbal x t w ∧ f = g) ∨ q ∈ L f := fun f hf q hq => by
    by_cases e : f = g
    · subst e
      rcases hL with ⟨e, _⟩ | e
      · rw [e] at hq
        rcases List.mem_append.1 hq with h | h
        · exact .inr h
        · exact .inl ⟨by simpa using h, rfl⟩
      · rw [e] at hq
        exact .inl ⟨by simpa using hq, rfl⟩
    · rw [he f hf e] at hq; exact .inr hq
  refine ⟨hs, fun f hf q hq => ?_, fun f hf => ?_, .inr ⟨vbal x t w, g, hg, ?_, ?_, fun f hf q hq => ?_⟩, ?_⟩
  · rcases mem f hf q hq with ⟨rfl, _⟩ | h1
    · exact b1
    · exact h.v f hf q h1
  · by_cases e : f = g
    · subst e
      rcases hL with ⟨e, h8⟩ | e
      · rw [e]; simp; omega
      · rw [e]; simp
    · rw [he f hf e]; exact h.n8 f hf
  · rcases hL with ⟨e, h8⟩ | e <;> rw [e] <;> simp
  · unfold top; rw [b2, b3, b4]
  · rcases mem f hf q hq with h1 | h1
    · exact .inl h1
    · exact .inr (by have := h.le hf h1; omega)
  · have := h.c; dsimp only; omega

theorem fs_crash {M : DM} {f : Nat} {l : List (List UInt8)} (h : Fs M f l) (keep : List Int) (torn : Int) : Fs (M.crash keep torn) f l := by
  have : ∀ s : S2, FM.crash ⟨s, []⟩ ((keep[f]?).getD 0) torn = ⟨s, []⟩ := fun s => by
    unfold FM.crash FM.crashN
    simp [seenOf]
  unfold Fs at h ⊢
  unfold DM.crash
  dsimp only
  rcases h with ⟨h, e⟩ | h
  · rw [h, this]; exact .inl ⟨rfl, e⟩
  · rw [h, this]; exact .inr rfl
theorem fs_seen {M : DM} {f : Nat} {l : List (List UInt8)} (h : Fs M f l) : (M.f f).loose = [] ∧ (M.f f).sure.s = fputs l ∧ ((M.f f).sure.there = false → l = []) ∧ ((M.f f).sure.there = false → (M.f f).sure = ⟨false, []⟩) := by
  rcases h with ⟨h, rfl⟩ | h <;> rw [h] <;> simp [fputs]
theorem sure_fl {M M' : DM} {f : Nat} {l : List (List UInt8)} (h : Fs M f l) (e : M'.f f = ⟨(M.f f).sure, []⟩) : Fl M' f l := by
  refine (Fs.same h ?_).fl
  rw [e]
  rcases h with ⟨h, rfl⟩ | h <;> rw [h]
theorem two {n : Nat} (h : n ≤ 2) : n = 0 ∨ n = 1 ∨ n = 2 := by omega
/-- A ballot that is not sure. -/
theorem add_crash {M M1 : DM} {f : Nat} {l : List (List UInt8)} {b : List UInt8} (hb : b.length = 17) (h : Fs M f l) (e : M1.f f = (M.f f).add ⟨1, fput b, 0⟩) (keep : List Int) (torn : Int) : Fl (M1.crash keep torn) f l ∨ Fl (M1.crash keep torn) f (l ++ [b]) := by
  obtain ⟨q1, q2, q3, q4⟩ := fs_seen h
  obtain ⟨n, hn, hc⟩ := crash_cases (M1.f f) ((keep[f]?).getD 0) torn
  have hf : (M1.crash keep torn).f f = (M1.f f).crash ((keep[f]?).getD 0) torn := rfl
  rw [← hf] at hc
  rw [e] at hn hc
  simp only [FM.add, q1, List.nil_append, List.length_singleton] at hn hc
  rcases two (Nat.le_trans hn (by decide)) with rfl | rfl | rfl
  · rcases hc with hc | ⟨c, m, h1, h2, h3, hc⟩
    · exact .inl (sure_fl h hc)
    · left
      simp at h1
      subst h1
      refine .inr ⟨(fput b).take m, ?_, .inr ⟨b, m, hb, by rw [fput_len] at h3; omega, rfl⟩⟩
      rw [hc]
      simp [seenOf, done, q2]
  · rcases hc with hc | ⟨c, m, h1, h2, h3, hc⟩
    · right
      refine .inr ⟨[], ?_, .inl rfl⟩
      rw [hc]
      simp [seenOf, done, q2, fputs_append, fputs_one]
    · simp at h1
  · omega
theorem rm_crash {M M1 : DM} {f : Nat} {l : List (List UInt8)} (h : Fs M f l) (e : M1.f f = (M.f f).add ⟨3, [], 0⟩) (keep : List Int) (torn : Int) : Fl (M1.crash keep torn) f l ∨ Fl (M1.crash keep torn) f [] := by
  obtain ⟨q1, q2, q3, q4⟩ := fs_seen h
  obtain ⟨n, hn, hc⟩ := crash_cases (M1.f f) ((keep[f]?).getD 0) torn
  have hf : (M1.crash keep torn).f f = (M1.f f).crash ((keep[f]?).getD 0) torn := rfl
  rw [← hf] at hc
  rw [e] at hn hc
  simp only [FM.add, q1, List.nil_append, List.length_singleton] at hn hc
  rcases two (Nat.le_trans hn (by decide)) with rfl | rfl | rfl
  · rcases hc with hc | ⟨c, m, h1, h2, h3, hc⟩
    · exact .inl (sure_fl h hc)
    · simp at h1
      subst h1
      simp at h2
  · rcases hc with hc | ⟨c, m, h1, h2, h3, hc⟩
    · right
      refine .inl ⟨?_, rfl⟩
      rw [hc]
      simp [seenOf, done]
    · simp at h1
  · omega
theorem rm_add_crash {M M1 : DM} {f : Nat} {l : List (List UInt8)} {b : List UInt8} (hb : b.length = 17) (h : Fs M f l) (e : M1.f f = ((M.f f).add ⟨3, [], 0⟩).add ⟨1, fput b, 0⟩) (keep : List Int) (torn : Int) : Fl (M1.crash keep torn) f l ∨ Fl (M1.crash keep torn) f [] ∨ Fl (M1.crash keep torn) f [b] := by
  obtain ⟨q1, q2, q3, q4⟩ := fs_seen h
  obtain ⟨n, hn, hc⟩ := crash_cases (M1.f f) ((keep[f]?).getD 0) torn
  have hf : (M1.crash keep torn).f f = (M1.f f).crash ((keep[f]?).getD 0) torn := rfl
  rw [← hf] at hc
  rw [e] at hn hc
  simp only [FM.add, q1, List.nil_append, List.length_append, List.length_singleton, List.cons_append] at hn hc
  rcases two hn with rfl | rfl | rfl
  · rcases hc with hc | ⟨c, m, h1, h2, h3, hc⟩
    · exact .inl (sure_fl h hc)
    · simp at h1
      subst h1
      simp at h2
  · rcases hc with hc | ⟨c, m, h1, h2, h3, hc⟩
    · right; left
      refine .inl ⟨?_, rfl⟩
      rw [hc]
      simp [seenOf, done]
    · right; left
      simp at h1
      subst h1
      refine .inr ⟨(fput b).take m, ?_, .inr ⟨b, m, hb, by rw [fput_len] at h3; omega, rfl⟩⟩
      rw [hc]
      simp [seenOf, done, fputs]
  · rcases hc with hc | ⟨c, m, h1, h2, h3, hc⟩
    · right; right
      refine .inr ⟨[], ?_, .inl rfl⟩
      rw [hc]
      simp [seenOf, done, fputs_one]
    · simp at h1

/-- What a write comes to. -/
theorem vwrite_ci {N : Nat} {M : DM} {L : Nat → List (List UInt8)} {x : VB} (h : CI Fs N M L x) (hN : N < 4611686018427387904) (t w : Int) :
    ((vwrite M x t w).1 = M ∧ (vwrite M x t w).2.1 = x ∧ ((vwrite M x t w).2.2 = 2 ∨ (vwrite M x t w).2.2 = 5)) ∨
    (∃ L', (vwrite M x t w).2.2 = 0 ∧ CI Fs (N + 1) (vwrite M x t w).1 L' (vwrite M x t w).2.1 ∧ (vwrite M x t w).2.1.t = t ∧ (vwrite M x t w).2.1.w = w ∧ Up x t w) ∨
    ((vwrite M x t w).2.2 = 40 ∧ Up x t w ∧ ∀ keep torn, ∃ L' x', CI Fl (N + 1) ((vwrite M x t w).1.crash keep torn) L' x' ∧ ((x'.t = x.t ∧ x'.w = x.w) ∨ (x'.t = t ∧ x'.w = w))) := by
  have hxc := h.c
  have hc : x.c < 4611686018427387904 := by omega
  have hbr := h.br
  have hf1 := h.f1
  have hn8 := h.nn
  unfold vwrite
  rw [if_neg (by simp [hbr])]
  by_cases c1 : vmay t w
  · rw [if_neg (by simp [c1])]
    by_cases c2 : t < x.t ∨ (t = x.t ∧ w ≠ x.w ∧ x.w ≥ 0)
    · rw [if_pos c2]; exact .inl ⟨rfl, rfl, .inr rfl⟩
    rw [if_neg c2]
    have up : Up x t w := by unfold Up; omega
    by_cases c4 : t = x.t ∧ w = x.w
    · rw [if_pos c4]
      exact .inr (.inl ⟨L, rfl, h.more (Nat.le_succ _), c4.1.symm, c4.2.symm, up⟩)
    rw [if_neg c4, if_neg (by omega)]
    obtain ⟨b1, b2, b3, b4⟩ := vbal_ok (x := x) c1 hc
    have bl := vok_len b1
    have keepM : ∀ keep torn, ∃ L' x', CI Fl (N + 1) (M.crash keep torn) L' x' ∧ ((x'.t = x.t ∧ x'.w = x.w) ∨ (x'.t = t ∧ x'.w = w)) := fun keep torn =>
      ⟨L, x, ⟨fun f hf => (fs_crash (h.s f hf) keep torn).fl, h.v, h.n8, h.t, by omega⟩, .inl ⟨rfl, rfl⟩⟩
    by_cases c8 : x.n ≥ 8
    · rw [if_pos c8]
      obtain ⟨g, hg⟩ : ∃ g, 1 - x.f = g := ⟨_, rfl⟩
      rw [hg]
      have hg1 : g ≤ 1 := by omega
      have hgs := h.s g hg1
      obtain ⟨q1, q2, q3, q4⟩ := fs_seen hgs
      have other : ∀ f, f ≤ 1 → f ≠ g → f = x.f := fun f h1 h2 => by omega
      -- what is there when the other file was begun
      have done' : ∀ (M1 M2 : DM), (∀ f, f ≠ g → M2.f f = M.f f) → M2.f g = ⟨⟨true, [] ++ fput (vbal x t w)⟩, []⟩ → CI Fs (N + 1) M2 (fun i => if i = g then [vbal x t w] else L i) ⟨t, w, x.c + 1, g, 0 + 1, 0⟩ := fun M1 M2 h1 h2 => by
        have := CI.put (S := Fs) (M' := M2) (L' := fun i => if i = g then [vbal x t w] else L i) h hg1 c1 hc (fun f hf => by
          by_cases e : f = g
          · subst e; (try dsimp only); rw [if_pos rfl]; exact .inr (by rw [h2, fputs_one]; rfl)
          · (try dsimp only); rw [if_neg e]; exact (h.s f hf).same (h1 f e)) (fun f _ e => if_neg e) (.inr (if_pos rfl))
        simpa using this
      have half : ∀ M2 : DM, (∀ f, f ≠ g → M2.f f = M.f f) → (∀ keep torn, Fl (M2.crash keep torn) g (L g) ∨ Fl (M2.crash keep torn) g [] ∨ Fl (M2.crash keep torn) g [vbal x t w]) → ∀ keep torn, ∃ L' x', CI Fl (N + 1) (M2.crash keep torn) L' x' ∧ ((x'.t = x.t ∧ x'.w = x.w) ∨ (x'.t = t ∧ x'.w = w)) := fun M2 h1 h2 keep torn => by
        have ho : ∀ f, f ≤ 1 → f ≠ g → Fl (M2.crash keep torn) f (L f) := fun f hf e => by
          have := fs_crash ((h.s f hf).same (h1 f e)) keep torn
          exact this.fl
        rcases h2 keep torn with h3 | h3 | h3
        · refine ⟨L, x, ⟨fun f hf => ?_, h.v, h.n8, h.t, by omega⟩, .inl ⟨rfl, rfl⟩⟩
          by_cases e : f = g
          · subst e; exact h3
          · exact ho f hf e
        · refine ⟨fun i => if i = g then [] else L i, x, (CI.keep h (fun f hf => ?_) (fun f hf => ?_)).more (Nat.le_succ _), .inl ⟨rfl, rfl⟩⟩
          · by_cases e : f = g
            · subst e; (try dsimp only); rw [if_pos rfl]; exact h3
            · (try dsimp only); rw [if_neg e]; exact ho f hf e
          · by_cases e : f = g
            · right; exact ⟨by omega, if_pos e⟩
            · left; exact if_neg e
        · refine ⟨fun i => if i = g then [vbal x t w] else L i, _, CI.put h hg1 c1 hc (fun f hf => ?_) (fun f _ e => if_neg e) (.inr (if_pos rfl)), .inr ⟨rfl, rfl⟩⟩
          by_cases e : f = g
          · subst e; (try dsimp only); rw [if_pos rfl]; exact h3
          · (try dsimp only); rw [if_neg e]; exact ho f hf e
      by_cases hp : M.power = 0
      · rw [change_0 hp, if_pos (show (40 : Int) ≠ 0 ∧ (40 : Int) ≠ 4 by decide)]
        exact .inr (.inr ⟨rfl, up, keepM⟩)
      by_cases ht : (M.f g).sure.there = true
      · have hm : M.may g ⟨3, [], 0⟩ = 0 := by
          unfold DM.may
          rw [see_in (by omega) (by omega), Int.toNat_natCast]
          unfold FM.seen
          rw [q1]
          simp [seenOf, ht]
        rw [change_y hp (by omega) hm, if_neg (show ¬ ((0 : Int) ≠ 0 ∧ (0 : Int) ≠ 4) by decide)]
        dsimp only
        have ho : ∀ i, i ≠ g → ((DM.dn M).upd g ((M.f g).add ⟨3, [], 0⟩)).f i = M.f i := fun i hi => by rw [upd_g _ hi]; rfl
        have hme : ((DM.dn M).upd g ((M.f g).add ⟨3, [], 0⟩)).f g = (M.f g).add ⟨3, [], 0⟩ := upd_f _ _ _
        generalize (DM.dn M).upd g ((M.f g).add ⟨3, [], 0⟩) = M1 at *
        have hsn : (M1.f g).seen = ⟨false, []⟩ := by
          rw [hme]; unfold FM.seen FM.add; rw [q1]; simp [seenOf, done]
        rcases vput_res (M := M1) (x := x) (t := t) (w := w) (n := 0) (f := g) (by omega) (by rw [hsn]; simp) with e | ⟨M2, e, e1, e2⟩ | ⟨M2, e, e1, e2⟩
        · rw [e]
          refine .inr (.inr ⟨rfl, up, half M1 ho fun keep torn => ?_⟩)
          rcases rm_crash hgs hme keep torn with h1 | h1
          · exact .inl h1
          · exact .inr (.inl h1)
        · rw [e]
          refine .inr (.inr ⟨rfl, up, half M2 (fun f hf => by rw [e2 f hf, ho f hf]) fun keep torn => ?_⟩)
          exact rm_add_crash bl hgs (by rw [e1, hme]) keep torn
        · rw [e]
          rw [hsn] at e1
          exact .inr (.inl ⟨_, rfl, done' M1 M2 (fun f hf => by rw [e2 f hf, ho f hf]) e1, rfl, rfl, up⟩)
      · have ht : (M.f g).sure.there = false := by simpa using ht
        have hl := q3 ht
        have hsn : (M.f g).seen = ⟨false, []⟩ := by
          unfold FM.seen; rw [q1, q4 ht]; rfl
        have hm : M.may g ⟨3, [], 0⟩ = 4 := by
          unfold DM.may
          rw [see_in (by omega) (by omega), Int.toNat_natCast, hsn]
          simp
        rw [change_e hp (by omega) (by rw [hm]; decide), hm, if_neg (show ¬ ((4 : Int) ≠ 0 ∧ (4 : Int) ≠ 4) by decide)]
        dsimp only
        rcases vput_res (M := M) (x := x) (t := t) (w := w) (n := 0) (f := g) (by omega) (by rw [hsn]; simp) with e | ⟨M2, e, e1, e2⟩ | ⟨M2, e, e1, e2⟩
        · rw [e]; exact .inr (.inr ⟨rfl, up, keepM⟩)
        · rw [e]
          refine .inr (.inr ⟨rfl, up, half M2 e2 fun keep torn => ?_⟩)
          rcases add_crash bl hgs e1 keep torn with h1 | h1
          · exact .inl h1
          · rw [hl] at h1; exact .inr (.inr h1)
        · rw [e]
          rw [hsn] at e1
          exact .inr (.inl ⟨_, rfl, done' M M2 e2 e1, rfl, rfl, up⟩)
    · rw [if_neg c8]
      obtain ⟨g, hg⟩ : ∃ g, x.f = g := ⟨_, rfl⟩
      rw [hg] at hf1 ⊢
      have hgs := h.s g hf1
      obtain ⟨q1, q2, q3, q4⟩ := fs_seen hgs
      have hxn : x.n = (L g).length := by
        rcases h.t with ⟨h0, h1, rfl⟩ | ⟨p, g', hg', hpl, rfl, ha⟩
        · exact absurd (Nat.le_refl 8) c8
        · simp only [top] at hg ⊢; rw [hg]
      have hsn : (M.f g).seen.s = fputs (L g) := by
        unfold FM.seen; rw [q1]; exact q2
      have hlen : (M.f g).seen.s.length ≤ 1000 := by
        rw [hsn, fputs_len, flen_vok (h.v g hf1)]
        have := h.n8 g hf1
        omega
      rcases vput_res (M := M) (x := x) (t := t) (w := w) (n := x.n) (f := g) (by omega) hlen with e | ⟨M2, e, e1, e2⟩ | ⟨M2, e, e1, e2⟩
      · rw [e]; exact .inr (.inr ⟨rfl, up, keepM⟩)
      · rw [e]
        refine .inr (.inr ⟨rfl, up, fun keep torn => ?_⟩)
        have ho : ∀ f, f ≤ 1 → f ≠ g → Fl (M2.crash keep torn) f (L f) := fun f hf e => by
          have := fs_crash ((h.s f hf).same (e2 f e)) keep torn
          exact this.fl
        rcases add_crash bl hgs e1 keep torn with h1 | h1
        · refine ⟨L, x, ⟨fun f hf => ?_, h.v, h.n8, h.t, by omega⟩, .inl ⟨rfl, rfl⟩⟩
          by_cases e : f = g
          · subst e; exact h1
          · exact ho f hf e
        · refine ⟨fun i => if i = g then L g ++ [vbal x t w] else L i, _, CI.put h hf1 c1 hc (fun f hf => ?_) (fun f _ e => if_neg e) (.inl ⟨if_pos rfl, by omega⟩), .inr ⟨rfl, rfl⟩⟩
          by_cases e : f = g
          · subst e; (try dsimp only); rw [if_pos rfl]; exact h1
          · (try dsimp only); rw [if_neg e]; exact ho f hf e
      · rw [e]
        have := CI.put (S := Fs) (M' := M2) (L' := fun i => if i = g then L g ++ [vbal x t w] else L i) h hf1 c1 hc (fun f hf => by
          by_cases e : f = g
          · subst e; (try dsimp only); rw [if_pos rfl]; exact .inr (by rw [e1, hsn, fputs_append, fputs_one])
          · (try dsimp only); rw [if_neg e]; exact (h.s f hf).same (e2 f e)) (fun f _ e => if_neg e) (.inl ⟨if_pos rfl, by omega⟩)
        refine .inr (.inl ⟨fun i => if i = g then L g ++ [vbal x t w] else L i, rfl, ?_, rfl, rfl, up⟩)
        have e3 : ((if g = g then L g ++ [vbal x t w] else L g)).length = x.n + 1 := by rw [if_pos rfl, List.length_append, hxn]; rfl
        dsimp only at this ⊢
        rw [e3] at this
        exact this
  · rw [if_pos c1]; exact .inl ⟨rfl, rfl, .inl rfl⟩
theorem CI.crash {N : Nat} {M : DM} {L : Nat → List (List UInt8)} {x : VB} (h : CI Fs N M L x) (keep : List Int) (torn : Int) : CI Fl N (M.crash keep torn) L x := ⟨fun f hf => (fs_crash (h.s f hf) keep torn).fl, h.v, h.n8, h.t, h.c⟩
theorem CI.zero : CI Fl 0 D0 (fun _ => []) x0 := ⟨fun f _ => .inl ⟨rfl, rfl⟩, fun f _ q hq => by simp at hq, fun f _ => by simp, .inl ⟨rfl, rfl, rfl⟩, Nat.le_refl _⟩
/-- The power is given anew. -/
theorem CI.pow {N : Nat} {M M' : DM} {L : Nat → List (List UInt8)} {x : VB} (h : CI Fs N M L x) (e : M'.f = M.f) : CI Fs N M' L x := ⟨fun f hf => (h.s f hf).same (by rw [e]), h.v, h.n8, h.t, h.c⟩
end Go.Proofs.Ytllkidpebjgkeaa.vt
namespace Go.Proofs.Ytllkidpebjgkeaa.vt
open Go.Ab fr dk
set_option maxRecDepth 100000
set_option maxHeartbeats 8000000
set_option linter.unusedSimpArgs false
set_option linter.unusedVariables false

theorem vopen_ok {M : DM} {B : Nat} (h : M.Ok B) : (vopen M).1.Ok (B + 4) := by
  unfold vopen
  split
  · exact h.more (by omega)
  · unfold vrest vrest vrest
    have h1 := vfile_ok h x0 (1 - 1)
    split
    · exact h1.more (by omega)
    · have h2 := vfile_ok h1 (vfile M x0 (1 - 1)).2.1 (1 - 0)
      split
      · exact h2
      · exact h2
theorem vput_ok {M : DM} {B : Nat} (h : M.Ok B) (x : VB) (t w : Int) (f n : Nat) : (vput M x t w f n).1.Ok (B + 2) := by
  have h1 := h.change (f := (f : Int)) (c := ⟨1, fput (vpay (x.c + 1) t.toNat (w + 1).toNat), 0⟩) (.inl rfl)
  unfold vput
  split
  · exact h1.more (by omega)
  · split
    · exact h1.sync _
    · exact h1.sync _
theorem vwrite_ok {M : DM} {B : Nat} (h : M.Ok B) (x : VB) (t w : Int) : (vwrite M x t w).1.Ok (B + 3) := by
  have h3 := h.more (show B ≤ B + 3 by omega)
  have h1 := h.change (f := ((1 - x.f : Nat) : Int)) (c := ⟨3, [], 0⟩) (.inr (.inr rfl))
  unfold vwrite
  split
  · exact h3
  split
  · exact h3
  split
  · exact h3
  split
  · exact h3
  split
  · exact h3
  split
  · split
    · exact h1.more (by omega)
    · exact vput_ok h1 _ _ _ _ _
  · exact (vput_ok h _ _ _ _ _).more (by omega)
def bc (p : Int × Int) : List V := [.sc (.int .i64 p.1), .sc (.int .i64 p.2)]

theorem kept_run (k : Nat) (σ0 : St) (x : V) (l : List (Int × Int)) (pw : Int) (kv : V) (ks : List Int) (torn : Int) (h : RV 2 x (l.map bc)) (hll : l.length ≤ 140737488355328) (hkv : RV 1 kv (ks.map kc)) (hpw : pw ≤ 9223372036854775807) (hk : 9223372036854775808 ≤ k) (σ1 : St) (hw : callY Tab.tb (k + 7) noYl 8 [] σ0 = some (.sc (.bool true), σ1)) :
    W (callY Tab.tb (k + 8) noYl 4 [x, .sc (.int .i64 pw), kv, .sc (.int .i64 torn)] σ0) fun r => r.1 = .sc (.bool true) := by
  rw [s_call (af := Tab.b4) rfl (Nat.le_of_ble_eq_true rfl)]
  have hnew := fun σ => dk.new_ok (k + 6) noYl σ
  have hpow := fun σ d M n h => power_ok (k + 6) noYl σ d M n h
  have hopen := fun σ d M h B hm hB => open_ok (B := B) (k + 1) noYl σ d M h hm hB (by omega)
  have hnow := fun σ b d x h => now_ok (k + 6) noYl σ b d x h
  have hwrite := fun σ b d x M t w hb hd hbd B hm hB h1 h2 h3 => write_ok (B := B) k noYl σ b d x M t w hb hd hbd hm hB h1 h2 h3 (by omega)
  have hcra := fun σ d M h B hm hB => crash_ok (B := B) (k + 4) noYl σ d M kv ks torn h hkv hm hB (by omega)
  generalize callY Tab.tb (k + 7) = cy at hw hnew hpow hopen hnow hwrite hcra ⊢
  have hlen := h.len
  rw [List.length_map] at hlen
  have hsize := h.size
  have elt : ∀ i (hi : i < l.length), aSlAddr x (.sc (.int .i64 i)) = some (.elt (l.map bc).flatten (i * 2)) ∧ (i * 2 + 2 ≤ (l.map bc).flatten.length) = True ∧ ((l.map bc).flatten.drop (i * 2)).take 2 = [.sc (.int .i64 l[i].1), .sc (.int .i64 l[i].2)] := by
    intro i hi
    have := h.at (i := i) (by simpa using hi)
    simpa [bc] using this
  by_cases q1 : (l.length : Int) > 60
  · have c1 : decide ((l.length : Int) > 60) = true := by simpa using q1
    simp -implicitDefEqProofs (disch := first | exact nbf rfl | exact nbt rfl | (simp only [ne_eq, reduceCtorEq, not_false_eq_true]; done) | omega | (simp -implicitDefEqProofs only [St.n_push, St.n_put, St.n_bump, List.length_set] <;> omega) | fail) only [Tab.b4, hw, hlen, c1, aCallv, aPtrEq, XOp.kind, AOp.run, AO.eval, put, reduceCtorEq, aInt, Nat.reduceEqDiff, initEnv, V.bool, V.i64, resultsOf, AR.get, aExtract, aUn, Int.reduceEq, Int.reduceBEq, Int.reduceBNe, aBox, aLoad, aStore, aPart, aPlace, aArrAddr, aArrIdx, aIdx, aLenStr, aConv, aFold, aMinMax, aEqV, aNilCheck, fillV, aEqBool, aEqInt, aEqStr, Nat.reduceAdd, Nat.reduceLeDiff, Nat.reduceMul, Int.reduceLT, Int.reduceLE, Int.reduceToNat, Int.reduceGT, Int.reduceGE, Int.reduceNeg, Int.reduceAdd, Int.reduceSub, wrap64, chkAdd, effAdd, AOp.kind, chkAll, chkSee, Nat.reduceLT, zP.down, zQ.down]
  have c1 : decide ((l.length : Int) > 60) = false := by simpa using q1
  by_cases q2 : pw < 0
  · have c2 : decide (pw < 0) = true := by simpa using q2
    simp -implicitDefEqProofs (disch := first | exact nbf rfl | exact nbt rfl | (simp only [ne_eq, reduceCtorEq, not_false_eq_true]; done) | omega | (simp -implicitDefEqProofs only [St.n_push, St.n_put, St.n_bump, List.length_set] <;> omega) | fail) only [Tab.b4, hw, hlen, c1, c2, aCallv, aPtrEq, XOp.kind, AOp.run, AO.eval, put, reduceCtorEq, aInt, Nat.reduceEqDiff, initEnv, V.bool, V.i64, resultsOf, AR.get, aExtract, aUn, Int.reduceEq, Int.reduceBEq, Int.reduceBNe, aBox, aLoad, aStore, aPart, aPlace, aArrAddr, aArrIdx, aIdx, aLenStr, aConv, aFold, aMinMax, aEqV, aNilCheck, fillV, aEqBool, aEqInt, aEqStr, Nat.reduceAdd, Nat.reduceLeDiff, Nat.reduceMul, Int.reduceLT, Int.reduceLE, Int.reduceToNat, Int.reduceGT, Int.reduceGE, Int.reduceNeg, Int.reduceAdd, Int.reduceSub, wrap64, chkAdd, effAdd, AOp.kind, chkAll, chkSee, Nat.reduceLT, zP.down, zQ.down]
  have c2 : decide (pw < 0) = false := by simpa using q2
  simp -implicitDefEqProofs (disch := first | exact nbf rfl | exact nbt rfl | (simp only [ne_eq, reduceCtorEq, not_false_eq_true]; done) | omega | (simp -implicitDefEqProofs only [St.n_push, St.n_put, St.n_bump, List.length_set] <;> omega) | fail) only [Tab.b4, hw, hlen, c1, c2, aCallv, aPtrEq, XOp.kind, AOp.run, AO.eval, put, reduceCtorEq, aInt, Nat.reduceEqDiff, initEnv, V.bool, V.i64, resultsOf, AR.get, aExtract, aUn, Int.reduceEq, Int.reduceBEq, Int.reduceBNe, aBox, aLoad, aStore, aPart, aPlace, aArrAddr, aArrIdx, aIdx, aLenStr, aConv, aFold, aMinMax, aEqV, aNilCheck, fillV, aEqBool, aEqInt, aEqStr, Nat.reduceAdd, Nat.reduceLeDiff, Nat.reduceMul, Int.reduceLT, Int.reduceLE, Int.reduceToNat, Int.reduceGT, Int.reduceGE, Int.reduceNeg, Int.reduceAdd, Int.reduceSub, wrap64, chkAdd, effAdd, AOp.kind, chkAll, chkSee, Nat.reduceLT, zP.down, zQ.down]
  repeat (first | refine w_fin ?_ | refine w_seq ?_ | refine w_block ?_ | refine w_reg ?_ | refine w_op ?_ | refine w_dop ?_)
  refine (hnew σ1).mono ?_
  rintro ⟨_, σ2⟩ ⟨rfl, hd2, _, _⟩
  dsimp only at hd2
  generalize σ1.n = d at *
  simp -implicitDefEqProofs (disch := first | exact nbf rfl | exact nbt rfl | (simp only [ne_eq, reduceCtorEq, not_false_eq_true]; done) | omega | (simp -implicitDefEqProofs only [St.n_push, St.n_put, St.n_bump, List.length_set] <;> omega) | fail) only [aCallv, aPtrEq, XOp.kind, AOp.run, AO.eval, put, reduceCtorEq, aInt, Nat.reduceEqDiff, initEnv, V.bool, V.i64, resultsOf, AR.get, aExtract, aUn, Int.reduceEq, Int.reduceBEq, Int.reduceBNe, aBox, aLoad, aStore, aPart, aPlace, aArrAddr, aArrIdx, aIdx, aLenStr, aConv, aFold, aMinMax, aEqV, aNilCheck, fillV, aEqBool, aEqInt, aEqStr, Nat.reduceAdd, Nat.reduceLeDiff, Nat.reduceMul, Int.reduceLT, Int.reduceLE, Int.reduceToNat, Int.reduceGT, Int.reduceGE, Int.reduceNeg, Int.reduceAdd, Int.reduceSub, wrap64, chkAdd, effAdd, AOp.kind, chkAll, chkSee, Nat.reduceLT, zP.down, zQ.down]
  repeat (first | refine w_fin ?_ | refine w_seq ?_ | refine w_block ?_ | refine w_reg ?_ | refine w_op ?_ | refine w_dop ?_)
  obtain ⟨M1, v1, v2, v3⟩ := vopen_ci CI.zero rfl
  have ho1 := vopen_ok (DM.Ok.zero 0)
  refine (hopen σ2 d D0 hd2 0 (DM.Ok.zero 0) (by omega)).mono ?_
  rintro ⟨_, σ3⟩ ⟨b, rfl, hb3, hd3, _⟩
  rw [v1] at hb3 hd3 ho1 ⊢
  dsimp only at hb3 hd3 ho1
  obtain ⟨hb3, hbn⟩ := hb3 rfl
  have hbd : b ≠ d := by have := hd2.lt; omega
  simp -implicitDefEqProofs (disch := first | exact nbf rfl | exact nbt rfl | (simp only [ne_eq, reduceCtorEq, not_false_eq_true]; done) | omega | (simp -implicitDefEqProofs only [St.n_push, St.n_put, St.n_bump, List.length_set] <;> omega) | fail) only [aCallv, aPtrEq, XOp.kind, AOp.run, AO.eval, put, reduceCtorEq, aInt, Nat.reduceEqDiff, initEnv, V.bool, V.i64, resultsOf, AR.get, aExtract, aUn, Int.reduceEq, Int.reduceBEq, Int.reduceBNe, aBox, aLoad, aStore, aPart, aPlace, aArrAddr, aArrIdx, aIdx, aLenStr, aConv, aFold, aMinMax, aEqV, aNilCheck, fillV, aEqBool, aEqInt, aEqStr, Nat.reduceAdd, Nat.reduceLeDiff, Nat.reduceMul, Int.reduceLT, Int.reduceLE, Int.reduceToNat, Int.reduceGT, Int.reduceGE, Int.reduceNeg, Int.reduceAdd, Int.reduceSub, wrap64, chkAdd, effAdd, AOp.kind, chkAll, chkSee, Nat.reduceLT, zP.down, zQ.down]
  repeat (first | refine w_fin ?_ | refine w_seq ?_ | refine w_block ?_ | refine w_reg ?_ | refine w_op ?_ | refine w_dop ?_)
  refine (hpow σ3 d M1 pw hd3).mono ?_
  rintro ⟨_, σ4⟩ ⟨rfl, hd4, k4, _⟩
  dsimp only at hd4 k4
  have hb4 : BR σ4 b d x0 := k4.get _ _ hbd hb3
  have n1 := hnow σ4 b d x0 hb4
  have hb5 : BR σ4.bump b d x0 := ((Kept.refl noX σ4).bump).get _ _ (fun h => h) hb4
  have n2 := hnow σ4.bump b d x0 hb5
  have hv4 : CI Fs 0 { M1 with power := max pw (-1) } (fun _ => []) x0 := v3.pow rfl
  have ho4 := ho1.power hpw
  generalize ({ M1 with power := max pw (-1) } : DM) = M4 at *
  simp -implicitDefEqProofs (disch := first | exact nbf rfl | exact nbt rfl | (simp only [ne_eq, reduceCtorEq, not_false_eq_true]; done) | omega | (simp -implicitDefEqProofs only [St.n_push, St.n_put, St.n_bump, List.length_set] <;> omega) | fail) only [hlen, n1, n2, aCallv, aPtrEq, XOp.kind, AOp.run, AO.eval, put, reduceCtorEq, aInt, Nat.reduceEqDiff, initEnv, V.bool, V.i64, resultsOf, AR.get, aExtract, aUn, Int.reduceEq, Int.reduceBEq, Int.reduceBNe, aBox, aLoad, aStore, aPart, aPlace, aArrAddr, aArrIdx, aIdx, aLenStr, aConv, aFold, aMinMax, aEqV, aNilCheck, fillV, aEqBool, aEqInt, aEqStr, Nat.reduceAdd, Nat.reduceLeDiff, Nat.reduceMul, Int.reduceLT, Int.reduceLE, Int.reduceToNat, Int.reduceGT, Int.reduceGE, Int.reduceNeg, Int.reduceAdd, Int.reduceSub, wrap64, chkAdd, effAdd, AOp.kind, chkAll, chkSee, Nat.reduceLT, zP.down, zQ.down]
  repeat (first | refine w_fin ?_ | refine w_seq ?_ | refine w_block ?_ | refine w_reg ?_ | refine w_op ?_ | refine w_dop ?_)
  refine W.mono (Q := fun r => ∃ (ρ : Env) (σ : St) (M : DM) (a1 a2 c1 c2 : Int), r = ((.exit 0 : Ex), ρ, σ) ∧ DR σ d M ∧ M.Ok 1000 ∧ (∀ keep torn, ∃ L x', CI Fl 100 (M.crash keep torn) L x' ∧ ((x'.t = a1 ∧ x'.w = a2) ∨ (x'.t = c1 ∧ x'.w = c2))) ∧ ρ 2 = kv ∧ ρ 3 = .sc (.int .i64 torn) ∧ ρ 9 = .ptr d 0 ∧ ρ 12 = .agg [.sc (.int .i64 a1), .sc (.int .i64 a2)] ∧ ρ 13 = .agg [.sc (.int .i64 c1), .sc (.int .i64 c2)]) ?_ ?_
  · refine w_loop (fun m ρ σ => ∃ (i : Nat) (M : DM) (L : Nat → List (List UInt8)) (y : VB), m = l.length - i ∧ i ≤ l.length ∧ DR σ d M ∧ BR σ b d y ∧ M.Ok (4 + 3 * i) ∧ CI Fs i M L y ∧ ρ 2 = kv ∧ ρ 3 = .sc (.int .i64 torn) ∧ ρ 9 = .ptr d 0 ∧ ρ 10 = .ptr b 0 ∧ ρ 12 = .agg [.sc (.int .i64 y.t), .sc (.int .i64 y.w)] ∧ ρ 13 = .agg [.sc (.int .i64 y.t), .sc (.int .i64 y.w)] ∧ ρ 43 = x ∧ ρ 44 = .sc (.int .i64 l.length) ∧ ρ 45 = .sc (.int .i64 i)) l.length (by omega) ?_ ?_
    · refine ⟨0, M4, fun _ => [], x0, rfl, Nat.zero_le _, ?_, ?_, ho4.more (by omega), hv4, ?_, ?_, ?_, ?_, ?_, ?_, ?_, ?_, ?_⟩
      · exact hd4.kept (Kept.refl noX σ4).bump.bump.bump.bump (fun h => h)
      · exact ((Kept.refl noX σ4).bump.bump.bump.bump).get _ _ (fun h => h) hb4
      all_goals first | rfl | (simp -implicitDefEqProofs (disch := first | exact nbf rfl | exact nbt rfl | (simp only [ne_eq, reduceCtorEq, not_false_eq_true]; done) | omega | (simp -implicitDefEqProofs only [St.n_push, St.n_put, St.n_bump, List.length_set] <;> omega) | fail) only [aCallv, aPtrEq, XOp.kind, AOp.run, AO.eval, put, reduceCtorEq, aInt, Nat.reduceEqDiff, initEnv, V.bool, V.i64, resultsOf, AR.get, aExtract, aUn, Int.reduceEq, Int.reduceBEq, Int.reduceBNe, aBox, aLoad, aStore, aPart, aPlace, aArrAddr, aArrIdx, aIdx, aLenStr, aConv, aFold, aMinMax, aEqV, aNilCheck, fillV, aEqBool, aEqInt, aEqStr, Nat.reduceAdd, Nat.reduceLeDiff, Nat.reduceMul, Int.reduceLT, Int.reduceLE, Int.reduceToNat, Int.reduceGT, Int.reduceGE, Int.reduceNeg, Int.reduceAdd, Int.reduceSub, wrap64, chkAdd, effAdd, AOp.kind, chkAll, chkSee, Nat.reduceLT, zP.down, zQ.down]; done) | (simp -implicitDefEqProofs (disch := first | exact nbf rfl | exact nbt rfl | (simp only [ne_eq, reduceCtorEq, not_false_eq_true]; done) | omega | (simp -implicitDefEqProofs only [St.n_push, St.n_put, St.n_bump, List.length_set] <;> omega) | fail) only [aCallv, aPtrEq, XOp.kind, AOp.run, AO.eval, put, reduceCtorEq, aInt, Nat.reduceEqDiff, initEnv, V.bool, V.i64, resultsOf, AR.get, aExtract, aUn, Int.reduceEq, Int.reduceBEq, Int.reduceBNe, aBox, aLoad, aStore, aPart, aPlace, aArrAddr, aArrIdx, aIdx, aLenStr, aConv, aFold, aMinMax, aEqV, aNilCheck, fillV, aEqBool, aEqInt, aEqStr, Nat.reduceAdd, Nat.reduceLeDiff, Nat.reduceMul, Int.reduceLT, Int.reduceLE, Int.reduceToNat, Int.reduceGT, Int.reduceGE, Int.reduceNeg, Int.reduceAdd, Int.reduceSub, wrap64, chkAdd, effAdd, AOp.kind, chkAll, chkSee, Nat.reduceLT, zP.down, zQ.down]; rfl)
    · rintro m ρ σ ⟨i, M, L, y, hm, hi, hd, hb, hM, hci, e2, e3, e9, e10, e12, e13, e43, e44, e45⟩
      by_cases hl : i < l.length
      · have d1 : decide ((i : Int) < (l.length : Int)) = true := by simpa using hl
        obtain ⟨a1, a2, a3⟩ := elt i hl
        have w3 : IntKind.i64.wrap ((i : Int) + 1) = ((i + 1 : Nat) : Int) := wrap64 (by omega) (by omega)
        have f1 := hwrite σ.bump b d y M l[i].1 l[i].2 (((Kept.refl noX σ).bump).get _ _ (fun h => h) hb) (hd.kept (Kept.refl noX σ).bump (fun h => h)) hbd (4 + 3 * i) hM (by omega) (by have := hci.c; omega) hci.f1 (by have := hci.nn; omega)
        have hmo := vwrite_ok hM y l[i].1 l[i].2
        have hr := vwrite_ci hci (by omega) l[i].1 l[i].2
        simp -implicitDefEqProofs (disch := first | exact nbf rfl | exact nbt rfl | (simp only [ne_eq, reduceCtorEq, not_false_eq_true]; done) | omega | (simp -implicitDefEqProofs only [St.n_push, St.n_put, St.n_bump, List.length_set] <;> omega) | fail) only [d1, e2, e3, e9, e10, e12, e13, e43, e44, e45, a1, a2, a3, hsize, w3, aCallv, aPtrEq, XOp.kind, AOp.run, AO.eval, put, reduceCtorEq, aInt, Nat.reduceEqDiff, initEnv, V.bool, V.i64, resultsOf, AR.get, aExtract, aUn, Int.reduceEq, Int.reduceBEq, Int.reduceBNe, aBox, aLoad, aStore, aPart, aPlace, aArrAddr, aArrIdx, aIdx, aLenStr, aConv, aFold, aMinMax, aEqV, aNilCheck, fillV, aEqBool, aEqInt, aEqStr, Nat.reduceAdd, Nat.reduceLeDiff, Nat.reduceMul, Int.reduceLT, Int.reduceLE, Int.reduceToNat, Int.reduceGT, Int.reduceGE, Int.reduceNeg, Int.reduceAdd, Int.reduceSub, wrap64, chkAdd, effAdd, AOp.kind, chkAll, chkSee, Nat.reduceLT, zP.down, zQ.down]
        repeat (first | refine w_fin ?_ | refine w_seq ?_ | refine w_block ?_ | refine w_reg ?_ | refine w_op ?_ | refine w_dop ?_)
        refine f1.mono ?_
        rintro ⟨_, σ5⟩ ⟨rfl, hb5, hd5, _⟩
        dsimp only at hb5 hd5
        generalize vwrite M y l[i].1 l[i].2 = q at *
        rcases hr with ⟨h1, h2, h3⟩ | ⟨L', h1, h2, h3, h4, _⟩ | ⟨h1, _, h2⟩
        · rw [h1] at hd5 hmo
          rw [h2] at hb5
          have g1 : (q.2.2 == 0) = false := by rcases h3 with h | h <;> rw [h] <;> rfl
          have g2 : (q.2.2 == 40) = false := by rcases h3 with h | h <;> rw [h] <;> rfl
          simp -implicitDefEqProofs (disch := first | exact nbf rfl | exact nbt rfl | (simp only [ne_eq, reduceCtorEq, not_false_eq_true]; done) | omega | (simp -implicitDefEqProofs only [St.n_push, St.n_put, St.n_bump, List.length_set] <;> omega) | fail) only [g1, g2, e2, e3, e9, e10, e12, e13, e43, e44, e45, w3, aCallv, aPtrEq, XOp.kind, AOp.run, AO.eval, put, reduceCtorEq, aInt, Nat.reduceEqDiff, initEnv, V.bool, V.i64, resultsOf, AR.get, aExtract, aUn, Int.reduceEq, Int.reduceBEq, Int.reduceBNe, aBox, aLoad, aStore, aPart, aPlace, aArrAddr, aArrIdx, aIdx, aLenStr, aConv, aFold, aMinMax, aEqV, aNilCheck, fillV, aEqBool, aEqInt, aEqStr, Nat.reduceAdd, Nat.reduceLeDiff, Nat.reduceMul, Int.reduceLT, Int.reduceLE, Int.reduceToNat, Int.reduceGT, Int.reduceGE, Int.reduceNeg, Int.reduceAdd, Int.reduceSub, wrap64, chkAdd, effAdd, AOp.kind, chkAll, chkSee, Nat.reduceLT, zP.down, zQ.down]
          exact ⟨l.length - (i + 1), by omega, i + 1, M, L, y, rfl, hl, hd5, hb5, hmo.more (by omega), hci.more (Nat.le_succ _), rfl, rfl, rfl⟩
        · rw [h1]
          simp -implicitDefEqProofs (disch := first | exact nbf rfl | exact nbt rfl | (simp only [ne_eq, reduceCtorEq, not_false_eq_true]; done) | omega | (simp -implicitDefEqProofs only [St.n_push, St.n_put, St.n_bump, List.length_set] <;> omega) | fail) only [e2, e3, e9, e10, e12, e13, e43, e44, e45, w3, aCallv, aPtrEq, XOp.kind, AOp.run, AO.eval, put, reduceCtorEq, aInt, Nat.reduceEqDiff, initEnv, V.bool, V.i64, resultsOf, AR.get, aExtract, aUn, Int.reduceEq, Int.reduceBEq, Int.reduceBNe, aBox, aLoad, aStore, aPart, aPlace, aArrAddr, aArrIdx, aIdx, aLenStr, aConv, aFold, aMinMax, aEqV, aNilCheck, fillV, aEqBool, aEqInt, aEqStr, Nat.reduceAdd, Nat.reduceLeDiff, Nat.reduceMul, Int.reduceLT, Int.reduceLE, Int.reduceToNat, Int.reduceGT, Int.reduceGE, Int.reduceNeg, Int.reduceAdd, Int.reduceSub, wrap64, chkAdd, effAdd, AOp.kind, chkAll, chkSee, Nat.reduceLT, zP.down, zQ.down]
          exact ⟨l.length - (i + 1), by omega, i + 1, q.1, L', q.2.1, rfl, hl, hd5, hb5, hmo.more (by omega), h2, by rw [h3, h4], by rw [h3, h4], rfl⟩
        · rw [h1]
          simp -implicitDefEqProofs (disch := first | exact nbf rfl | exact nbt rfl | (simp only [ne_eq, reduceCtorEq, not_false_eq_true]; done) | omega | (simp -implicitDefEqProofs only [St.n_push, St.n_put, St.n_bump, List.length_set] <;> omega) | fail) only [e2, e3, e9, e10, e12, e13, e43, e44, e45, w3, aCallv, aPtrEq, XOp.kind, AOp.run, AO.eval, put, reduceCtorEq, aInt, Nat.reduceEqDiff, initEnv, V.bool, V.i64, resultsOf, AR.get, aExtract, aUn, Int.reduceEq, Int.reduceBEq, Int.reduceBNe, aBox, aLoad, aStore, aPart, aPlace, aArrAddr, aArrIdx, aIdx, aLenStr, aConv, aFold, aMinMax, aEqV, aNilCheck, fillV, aEqBool, aEqInt, aEqStr, Nat.reduceAdd, Nat.reduceLeDiff, Nat.reduceMul, Int.reduceLT, Int.reduceLE, Int.reduceToNat, Int.reduceGT, Int.reduceGE, Int.reduceNeg, Int.reduceAdd, Int.reduceSub, wrap64, chkAdd, effAdd, AOp.kind, chkAll, chkSee, Nat.reduceLT, zP.down, zQ.down]
          refine ⟨_, _, q.1, y.t, y.w, l[i].1, l[i].2, rfl, hd5, hmo.more (by omega), fun keep torn => ?_, ?_, ?_, ?_, ?_, ?_⟩
          · obtain ⟨L', x', h3, h4⟩ := h2 keep torn
            exact ⟨L', x', h3.more (by omega), h4⟩
          all_goals (simp -implicitDefEqProofs (disch := first | exact nbf rfl | exact nbt rfl | (simp only [ne_eq, reduceCtorEq, not_false_eq_true]; done) | omega | (simp -implicitDefEqProofs only [St.n_push, St.n_put, St.n_bump, List.length_set] <;> omega) | fail) only [e2, e3, e9, e12, aCallv, aPtrEq, XOp.kind, AOp.run, AO.eval, put, reduceCtorEq, aInt, Nat.reduceEqDiff, initEnv, V.bool, V.i64, resultsOf, AR.get, aExtract, aUn, Int.reduceEq, Int.reduceBEq, Int.reduceBNe, aBox, aLoad, aStore, aPart, aPlace, aArrAddr, aArrIdx, aIdx, aLenStr, aConv, aFold, aMinMax, aEqV, aNilCheck, fillV, aEqBool, aEqInt, aEqStr, Nat.reduceAdd, Nat.reduceLeDiff, Nat.reduceMul, Int.reduceLT, Int.reduceLE, Int.reduceToNat, Int.reduceGT, Int.reduceGE, Int.reduceNeg, Int.reduceAdd, Int.reduceSub, wrap64, chkAdd, effAdd, AOp.kind, chkAll, chkSee, Nat.reduceLT, zP.down, zQ.down]; done)
      · have d1 : decide ((i : Int) < (l.length : Int)) = false := by simpa using hl
        simp -implicitDefEqProofs (disch := first | exact nbf rfl | exact nbt rfl | (simp only [ne_eq, reduceCtorEq, not_false_eq_true]; done) | omega | (simp -implicitDefEqProofs only [St.n_push, St.n_put, St.n_bump, List.length_set] <;> omega) | fail) only [d1, e44, e45, aCallv, aPtrEq, XOp.kind, AOp.run, AO.eval, put, reduceCtorEq, aInt, Nat.reduceEqDiff, initEnv, V.bool, V.i64, resultsOf, AR.get, aExtract, aUn, Int.reduceEq, Int.reduceBEq, Int.reduceBNe, aBox, aLoad, aStore, aPart, aPlace, aArrAddr, aArrIdx, aIdx, aLenStr, aConv, aFold, aMinMax, aEqV, aNilCheck, fillV, aEqBool, aEqInt, aEqStr, Nat.reduceAdd, Nat.reduceLeDiff, Nat.reduceMul, Int.reduceLT, Int.reduceLE, Int.reduceToNat, Int.reduceGT, Int.reduceGE, Int.reduceNeg, Int.reduceAdd, Int.reduceSub, wrap64, chkAdd, effAdd, AOp.kind, chkAll, chkSee, Nat.reduceLT, zP.down, zQ.down]
        refine ⟨_, _, M, y.t, y.w, y.t, y.w, rfl, hd, hM.more (by omega), fun keep torn => ⟨L, y, (hci.crash keep torn).more (by omega), .inl ⟨rfl, rfl⟩⟩, ?_, ?_, ?_, ?_, ?_⟩
        all_goals (simp -implicitDefEqProofs (disch := first | exact nbf rfl | exact nbt rfl | (simp only [ne_eq, reduceCtorEq, not_false_eq_true]; done) | omega | (simp -implicitDefEqProofs only [St.n_push, St.n_put, St.n_bump, List.length_set] <;> omega) | fail) only [e2, e3, e9, e12, e13, aCallv, aPtrEq, XOp.kind, AOp.run, AO.eval, put, reduceCtorEq, aInt, Nat.reduceEqDiff, initEnv, V.bool, V.i64, resultsOf, AR.get, aExtract, aUn, Int.reduceEq, Int.reduceBEq, Int.reduceBNe, aBox, aLoad, aStore, aPart, aPlace, aArrAddr, aArrIdx, aIdx, aLenStr, aConv, aFold, aMinMax, aEqV, aNilCheck, fillV, aEqBool, aEqInt, aEqStr, Nat.reduceAdd, Nat.reduceLeDiff, Nat.reduceMul, Int.reduceLT, Int.reduceLE, Int.reduceToNat, Int.reduceGT, Int.reduceGE, Int.reduceNeg, Int.reduceAdd, Int.reduceSub, wrap64, chkAdd, effAdd, AOp.kind, chkAll, chkSee, Nat.reduceLT, zP.down, zQ.down]; done)
  · rintro _ ⟨ρ, σ, M, a1, a2, b1, b2, rfl, hd, hM, hcr, e2, e3, e9, e12, e13⟩
    simp -implicitDefEqProofs (disch := first | exact nbf rfl | exact nbt rfl | (simp only [ne_eq, reduceCtorEq, not_false_eq_true]; done) | omega | (simp -implicitDefEqProofs only [St.n_push, St.n_put, St.n_bump, List.length_set] <;> omega) | fail) only [e2, e3, e9, aCallv, aPtrEq, XOp.kind, AOp.run, AO.eval, put, reduceCtorEq, aInt, Nat.reduceEqDiff, initEnv, V.bool, V.i64, resultsOf, AR.get, aExtract, aUn, Int.reduceEq, Int.reduceBEq, Int.reduceBNe, aBox, aLoad, aStore, aPart, aPlace, aArrAddr, aArrIdx, aIdx, aLenStr, aConv, aFold, aMinMax, aEqV, aNilCheck, fillV, aEqBool, aEqInt, aEqStr, Nat.reduceAdd, Nat.reduceLeDiff, Nat.reduceMul, Int.reduceLT, Int.reduceLE, Int.reduceToNat, Int.reduceGT, Int.reduceGE, Int.reduceNeg, Int.reduceAdd, Int.reduceSub, wrap64, chkAdd, effAdd, AOp.kind, chkAll, chkSee, Nat.reduceLT, zP.down, zQ.down]
    repeat (first | refine w_fin ?_ | refine w_seq ?_ | refine w_block ?_ | refine w_reg ?_ | refine w_op ?_ | refine w_dop ?_)
    refine (hcra σ d M hd 1000 hM (by decide)).mono ?_
    rintro ⟨_, σ5⟩ ⟨rfl, hd5, _⟩
    dsimp only at hd5
    obtain ⟨L, y, hci, hy⟩ := hcr ks torn
    have hM5 := hM.crash ks torn
    have hp5 : (M.crash ks torn).power = -1 := rfl
    generalize M.crash ks torn = M5 at *
    obtain ⟨M6, u1, u2, u3⟩ := vopen_ci hci hp5
    have hM6 := vopen_ok hM5
    simp -implicitDefEqProofs (disch := first | exact nbf rfl | exact nbt rfl | (simp only [ne_eq, reduceCtorEq, not_false_eq_true]; done) | omega | (simp -implicitDefEqProofs only [St.n_push, St.n_put, St.n_bump, List.length_set] <;> omega) | fail) only [e9, aCallv, aPtrEq, XOp.kind, AOp.run, AO.eval, put, reduceCtorEq, aInt, Nat.reduceEqDiff, initEnv, V.bool, V.i64, resultsOf, AR.get, aExtract, aUn, Int.reduceEq, Int.reduceBEq, Int.reduceBNe, aBox, aLoad, aStore, aPart, aPlace, aArrAddr, aArrIdx, aIdx, aLenStr, aConv, aFold, aMinMax, aEqV, aNilCheck, fillV, aEqBool, aEqInt, aEqStr, Nat.reduceAdd, Nat.reduceLeDiff, Nat.reduceMul, Int.reduceLT, Int.reduceLE, Int.reduceToNat, Int.reduceGT, Int.reduceGE, Int.reduceNeg, Int.reduceAdd, Int.reduceSub, wrap64, chkAdd, effAdd, AOp.kind, chkAll, chkSee, Nat.reduceLT, zP.down, zQ.down]
    repeat (first | refine w_fin ?_ | refine w_seq ?_ | refine w_block ?_ | refine w_reg ?_ | refine w_op ?_ | refine w_dop ?_)
    refine (hopen σ5 d M5 hd5 1000 hM5 (by omega)).mono ?_
    rintro ⟨_, σ6⟩ ⟨b6, rfl, hb6, hd6, _⟩
    rw [u1] at hb6 hd6 hM6 ⊢
    dsimp only at hb6 hd6 hM6
    obtain ⟨hb6, hbn6⟩ := hb6 rfl
    obtain ⟨M7, t1, t2, t3⟩ := vopen_ci u3.fl u2
    have n1 := hnow σ6 b6 d y hb6
    have n2 := hnow σ6.bump b6 d y (((Kept.refl noX σ6).bump).get _ _ (fun h => h) hb6)
    have last : ∀ σ7, Kept noX σ6 σ7 → W (cy noYl 12 [.ptr d 0] σ7) fun r => ∃ b, r.1 = .tup [.ptr b 0, .sc (.int .i64 0)] ∧ BR r.2 b d y ∧ BR r.2 b6 d y := fun σ7 k7 => by
      refine (hopen σ7 d M6 (hd6.kept k7 (fun h => h)) 1004 hM6 (by omega)).mono ?_
      rintro ⟨_, σ8⟩ ⟨b8, rfl, hb8, _, k8⟩
      rw [t1] at hb8 ⊢
      refine ⟨b8, rfl, (hb8 rfl).1, k8.get _ _ ?_ (k7.get _ _ (fun h => h) hb6)⟩
      have := hd5.lt
      omega
    have fin : ∀ σ8 b8, BR σ8 b8 d y → BR σ8 b6 d y → cy noYl 14 [.ptr b8 0] σ8 = some (.agg [.sc (.int .i64 y.t), .sc (.int .i64 y.w)], σ8.bump) ∧ cy noYl 14 [.ptr b6 0] σ8.bump = some (.agg [.sc (.int .i64 y.t), .sc (.int .i64 y.w)], σ8.bump.bump) := fun σ8 b8 h1 h2 => ⟨hnow σ8 b8 d y h1, hnow σ8.bump b6 d y (((Kept.refl noX σ8).bump).get _ _ (fun h => h) h2)⟩
    have yy : (y.t == y.t && y.w == y.w) = true := by simp
    by_cases g1 : y.t = a1 ∧ y.w = a2
    · have z1 : (y.t == a1 && y.w == a2) = true := by simp [g1.1, g1.2]
      simp -implicitDefEqProofs (disch := first | exact nbf rfl | exact nbt rfl | (simp only [ne_eq, reduceCtorEq, not_false_eq_true]; done) | omega | (simp -implicitDefEqProofs only [St.n_push, St.n_put, St.n_bump, List.length_set] <;> omega) | fail) only [e9, e12, e13, n1, eq2, z1, dk.pnil, aCallv, aPtrEq, XOp.kind, AOp.run, AO.eval, put, reduceCtorEq, aInt, Nat.reduceEqDiff, initEnv, V.bool, V.i64, resultsOf, AR.get, aExtract, aUn, Int.reduceEq, Int.reduceBEq, Int.reduceBNe, aBox, aLoad, aStore, aPart, aPlace, aArrAddr, aArrIdx, aIdx, aLenStr, aConv, aFold, aMinMax, aNilCheck, fillV, aEqBool, aEqInt, aEqStr, Nat.reduceAdd, Nat.reduceLeDiff, Nat.reduceMul, Int.reduceLT, Int.reduceLE, Int.reduceToNat, Int.reduceGT, Int.reduceGE, Int.reduceNeg, Int.reduceAdd, Int.reduceSub, wrap64, chkAdd, effAdd, AOp.kind, chkAll, chkSee, Nat.reduceLT, zP.down, zQ.down]
      repeat (first | refine w_fin ?_ | refine w_seq ?_ | refine w_block ?_ | refine w_reg ?_ | refine w_op ?_ | refine w_dop ?_)
      refine (last _ (by ((repeat (first | refine Kept.push ?_ _ | refine Kept.bump ?_ | refine Kept.put ?_ (.inr (by omega)) (by first | omega | (simp only [St.n_put, St.n_push]; omega)) _)); first | exact Kept.refl _ _ | assumption))).mono ?_
      rintro ⟨_, σ8⟩ ⟨b8, rfl, h1, h2⟩
      obtain ⟨o1, o2⟩ := fin σ8 b8 h1 h2
      simp -implicitDefEqProofs (disch := first | exact nbf rfl | exact nbt rfl | (simp only [ne_eq, reduceCtorEq, not_false_eq_true]; done) | omega | (simp -implicitDefEqProofs only [St.n_push, St.n_put, St.n_bump, List.length_set] <;> omega) | fail) only [o1, o2, eq2, yy, dk.pnil, aCallv, aPtrEq, XOp.kind, AOp.run, AO.eval, put, reduceCtorEq, aInt, Nat.reduceEqDiff, initEnv, V.bool, V.i64, resultsOf, AR.get, aExtract, aUn, Int.reduceEq, Int.reduceBEq, Int.reduceBNe, aBox, aLoad, aStore, aPart, aPlace, aArrAddr, aArrIdx, aIdx, aLenStr, aConv, aFold, aMinMax, aNilCheck, fillV, aEqBool, aEqInt, aEqStr, Nat.reduceAdd, Nat.reduceLeDiff, Nat.reduceMul, Int.reduceLT, Int.reduceLE, Int.reduceToNat, Int.reduceGT, Int.reduceGE, Int.reduceNeg, Int.reduceAdd, Int.reduceSub, wrap64, chkAdd, effAdd, AOp.kind, chkAll, chkSee, Nat.reduceLT, zP.down, zQ.down]
    · have z1 : (y.t == a1 && y.w == a2) = false := by
        rw [Bool.eq_false_iff]; simpa using g1
      have g2 := hy.resolve_left g1
      have z2 : (y.t == b1 && y.w == b2) = true := by simp [g2.1, g2.2]
      simp -implicitDefEqProofs (disch := first | exact nbf rfl | exact nbt rfl | (simp only [ne_eq, reduceCtorEq, not_false_eq_true]; done) | omega | (simp -implicitDefEqProofs only [St.n_push, St.n_put, St.n_bump, List.length_set] <;> omega) | fail) only [e9, e12, e13, n1, n2, eq2, z1, z2, dk.pnil, aCallv, aPtrEq, XOp.kind, AOp.run, AO.eval, put, reduceCtorEq, aInt, Nat.reduceEqDiff, initEnv, V.bool, V.i64, resultsOf, AR.get, aExtract, aUn, Int.reduceEq, Int.reduceBEq, Int.reduceBNe, aBox, aLoad, aStore, aPart, aPlace, aArrAddr, aArrIdx, aIdx, aLenStr, aConv, aFold, aMinMax, aNilCheck, fillV, aEqBool, aEqInt, aEqStr, Nat.reduceAdd, Nat.reduceLeDiff, Nat.reduceMul, Int.reduceLT, Int.reduceLE, Int.reduceToNat, Int.reduceGT, Int.reduceGE, Int.reduceNeg, Int.reduceAdd, Int.reduceSub, wrap64, chkAdd, effAdd, AOp.kind, chkAll, chkSee, Nat.reduceLT, zP.down, zQ.down]
      repeat (first | refine w_fin ?_ | refine w_seq ?_ | refine w_block ?_ | refine w_reg ?_ | refine w_op ?_ | refine w_dop ?_)
      refine (last _ (by ((repeat (first | refine Kept.push ?_ _ | refine Kept.bump ?_ | refine Kept.put ?_ (.inr (by omega)) (by first | omega | (simp only [St.n_put, St.n_push]; omega)) _)); first | exact Kept.refl _ _ | assumption))).mono ?_
      rintro ⟨_, σ8⟩ ⟨b8, rfl, h1, h2⟩
      obtain ⟨o1, o2⟩ := fin σ8 b8 h1 h2
      simp -implicitDefEqProofs (disch := first | exact nbf rfl | exact nbt rfl | (simp only [ne_eq, reduceCtorEq, not_false_eq_true]; done) | omega | (simp -implicitDefEqProofs only [St.n_push, St.n_put, St.n_bump, List.length_set] <;> omega) | fail) only [o1, o2, eq2, yy, dk.pnil, aCallv, aPtrEq, XOp.kind, AOp.run, AO.eval, put, reduceCtorEq, aInt, Nat.reduceEqDiff, initEnv, V.bool, V.i64, resultsOf, AR.get, aExtract, aUn, Int.reduceEq, Int.reduceBEq, Int.reduceBNe, aBox, aLoad, aStore, aPart, aPlace, aArrAddr, aArrIdx, aIdx, aLenStr, aConv, aFold, aMinMax, aNilCheck, fillV, aEqBool, aEqInt, aEqStr, Nat.reduceAdd, Nat.reduceLeDiff, Nat.reduceMul, Int.reduceLT, Int.reduceLE, Int.reduceToNat, Int.reduceGT, Int.reduceGE, Int.reduceNeg, Int.reduceAdd, Int.reduceSub, wrap64, chkAdd, effAdd, AOp.kind, chkAll, chkSee, Nat.reduceLT, zP.down, zQ.down]
theorem works_run : (callY Tab.tb 9223372036854775999 noYl 8 [] St.empty).map (·.1) = some (.sc (.bool true)) := by kernel_rfl
theorem works_ok : ∃ σ1, callY Tab.tb (9223372036854775992 + 7) noYl 8 [] St.empty = some (.sc (.bool true), σ1) := by
  have h := works_run
  rw [Option.map_eq_some_iff] at h
  obtain ⟨⟨v, σ1⟩, h1, h2⟩ := h
  exact ⟨σ1, by rw [show (9223372036854775992 + 7 : Nat) = 9223372036854775999 from rfl, h1]; simp only at h2; rw [h2]⟩
theorem bals_of {es : List (List V)} (h : ∀ e ∈ es, Arg (.agg [.int .i64, .int .i64]) e) : ∃ l : List (Int × Int), es = l.map bc := by
  induction es with
  | nil => exact ⟨[], rfl⟩
  | cons e es ih =>
    obtain ⟨l, hl⟩ := ih fun x hx => h x (List.mem_cons_of_mem _ hx)
    have h1 := h e List.mem_cons_self
    simp only [Arg, ArgL] at h1
    obtain ⟨a1, b1, rfl, ⟨n1, rfl, _⟩, ⟨a2, b2, rfl, ⟨n2, rfl, _⟩, rfl⟩⟩ := h1
    exact ⟨(n1, n2) :: l, by rw [hl]; rfl⟩
theorem kept_good (x : V) (w : ArgA (.sl (.agg [.int .i64, .int .i64])) x) (p : Int) (wp : (Lit.int .i64 p).wf = true) (kv : V) (wk : ArgA (.sl (.int .i64)) kv) (n : Int) (_wn : (Lit.int .i64 n).wf = true) : good (callN Tab.tbl 9223372036854776000 4 [x, .sc (.int .i64 p), kv, .sc (.int .i64 n)] St.empty) = true := by
  obtain ⟨es, h1, h2, _, h4⟩ := rv_slA w
  obtain ⟨l, rfl⟩ := bals_of h2
  obtain ⟨es2, g1, g2, _, _⟩ := rv_slA wk
  obtain ⟨ks, rfl⟩ := ints_of g2
  obtain ⟨σ1, hw⟩ := works_ok
  have h5 : l.length * 16 ≤ 140737488351232 := by simpa [Ty.low, Ty.lowL, reachBytes, IntKind.bits] using h4
  exact call_turned Tab.turned (w_good (kept_run 9223372036854775992 St.empty x l p kv ks n h1 (by omega) g1 (wf64 wp).2 (by decide) σ1 hw))
end Go.Proofs.Ytllkidpebjgkeaa.vt
