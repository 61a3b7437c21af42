/-
  Snapshots: what is there behind a crash (plain).
  Snapshots: saves, one behind the other, and a crash (plain).
  Snapshots: a save (plain).
  SnapKept: its run.
  SnapKept, its abstract run.
-/
import Derived.Test.YtjcobnjnjliehaaFrU
import Derived.Test.YtjcobnjnjliehaaSnapU
namespace Go.Proofs.Ytjcobnjnjliehaa.sn
open Go.Ab fr dk
set_option maxRecDepth 100000
set_option maxHeartbeats 8000000
set_option linter.unusedSimpArgs false
set_option linter.unusedVariables false

theorem sfile_eq (i t : Nat) (x : List UInt8) : sfile i t x = ((shead i t x.length :: pcs x).map fput).flatten := by simp [sfile, fputs]
theorem sfile_scan (i t : Nat) (x : List UInt8) : scan (sfile i t x) = shead i t x.length :: pcs x := by
  rw [sfile_eq]
  refine scan_fputs _ fun p hp => ?_
  rcases List.mem_cons.1 hp with rfl | hp
  · rw [shead_len]; decide
  · have := pcs_small hp; omega
theorem flen_flat (l : List (List UInt8)) : flen l = l.flatten.length + 12 * l.length := by
  induction l with
  | nil => rfl
  | cons p l ih => simp only [flen, ih, List.flatten_cons, List.length_append, List.length_cons]; omega
theorem sfile_len (i t : Nat) (x : List UInt8) : (sfile i t x).length = 44 + (x.length + 12 * ((x.length + 2047) / 2048)) := by
  unfold sfile
  rw [List.length_append, fput_len, shead_len, fputs_len, flen_flat, pcs_flat, pcs_len]
theorem shead_i (i t n : Nat) (hi : i < 18446744073709551616) : val (((shead i t n).drop 8).take 8) = i := by
  have : ((shead i t n).drop 8).take 8 = be 8 i := by
    unfold shead
    rw [List.append_assoc, List.append_assoc, List.drop_append_of_le_length (by decide), List.drop_of_length_le (by decide), List.nil_append, List.take_append_of_le_length (by rw [be_len]; decide), List.take_of_length_le (by rw [be_len]; decide)]
  rw [this]; exact val_be 8 i hi
theorem shead_t (i t n : Nat) (ht : t < 18446744073709551616) : val (((shead i t n).drop 16).take 8) = t := by
  have : ((shead i t n).drop 16).take 8 = be 8 t := by
    unfold shead
    rw [List.append_assoc, List.drop_append_of_le_length (by simp [be_len, magic]), List.drop_of_length_le (by simp [be_len, magic]), List.nil_append, List.take_append_of_le_length (by rw [be_len]; decide), List.take_of_length_le (by rw [be_len]; decide)]
  rw [this]; exact val_be 8 t ht
theorem shead_n (i t n : Nat) (hn : n < 18446744073709551616) : val (((shead i t n).drop 24).take 8) = n := by
  have : ((shead i t n).drop 24).take 8 = be 8 n := by
    unfold shead
    rw [List.drop_append_of_le_length (by simp [be_len, magic]), List.drop_of_length_le (by simp [be_len, magic]), List.nil_append, List.take_of_length_le (by rw [be_len]; decide)]
  rw [this]; exact val_be 8 n hn
theorem shead_m (i t n : Nat) : (shead i t n).take 8 = magic := by
  unfold shead
  rw [List.append_assoc, List.append_assoc, List.take_append_of_le_length (by decide), List.take_of_length_le (by decide)]
/-- What was written is read. -/
theorem sread_file {i t : Nat} {x : List UInt8} (h1 : 1 ≤ i) (h2 : i ≤ 1048576) (h3 : t ≤ 1099511627776) (h4 : x.length ≤ 262144) : sread (sfile i t x) = ⟨i, t, x, true⟩ := by
  unfold sread
  rw [sfile_scan]
  dsimp only
  have hl : flen (shead i t x.length :: pcs x) = (sfile i t x).length := by
    rw [sfile_len]
    simp only [flen, shead_len, flen_flat, pcs_flat, pcs_len]
  rw [shead_i _ _ _ (by omega), shead_t _ _ _ (by omega), shead_n _ _ _ (by omega), shead_m, if_neg (by simp [hl, shead_len]), if_neg (by omega), pcs_flat]
  simp
/-- What is read as one was written so. -/
theorem sread_ok {s : List UInt8} (h : (sread s).ok = true) : ∃ i t x, s = sfile i t x ∧ sread s = ⟨i, t, x, true⟩ ∧ x.length < 18446744073709551616 := by
  unfold sread at h ⊢
  cases hs : scan s with
  | nil => rw [hs] at h; cases h
  | cons p l =>
    rw [hs] at h
    dsimp only at h ⊢
    split at h
    · cases h
    · rename_i c1
      rw [if_neg c1]
      split at h
      · cases h
      · rename_i c2
        rw [if_neg c2]
        dsimp only at h
        simp only [Bool.and_eq_true, decide_eq_true_eq] at h
        refine ⟨_, _, _, h.1.symm, ?_, by omega⟩
        simp [h.1, h.2]
/-- A beginning of one is none. -/
theorem sread_pre {i t m : Nat} {x : List UInt8} (h4 : x.length < 18446744073709551616) (h : (sread ((sfile i t x).take m)).ok = true) : (sfile i t x).take m = sfile i t x := by
  obtain ⟨i', t', x', e, _, hx'⟩ := sread_ok h
  have hl := sfile_len i t x
  have hl' := sfile_len i' t' x'
  have ht : ((sfile i t x).take m).length = (sfile i' t' x').length := by rw [e]
  rw [List.length_take] at ht
  have hm : 44 ≤ m := by omega
  -- the heads
  have h1 : ((sfile i t x).drop 8).take 32 = shead i t x.length := by
    have := fput_mid (shead i t x.length) (fputs (pcs x))
    rw [shead_len] at this
    exact this
  have h2 : ((sfile i' t' x').drop 8).take 32 = shead i' t' x'.length := by
    have := fput_mid (shead i' t' x'.length) (fputs (pcs x'))
    rw [shead_len] at this
    exact this
  rw [← e, List.drop_take, List.take_take, Nat.min_eq_left (by omega), h1] at h2
  have h3 := congrArg (fun s => val ((s.drop 24).take 8)) h2
  rw [shead_n _ _ _ h4, shead_n _ _ _ hx'] at h3
  rw [← h3] at hl'
  exact List.take_of_length_le (by omega)
end Go.Proofs.Ytjcobnjnjliehaa.sn
namespace Go.Proofs.Ytjcobnjnjliehaa.sn
open Go.Ab fr dk
set_option maxRecDepth 100000
set_option maxHeartbeats 8000000
set_option linter.unusedSimpArgs false
set_option linter.unusedVariables false

section
variable (l : List (List UInt8))
def txt (n : Nat) : List UInt8 := (l[n]?).getD []
def fc (n : Nat) : S2 := if n = 0 then ⟨false, []⟩ else ⟨true, sfile n (n - 1) (txt l (n - 1))⟩
def sr (n : Nat) : Sr := if n = 0 then bad0 else ⟨n, n - 1, txt l (n - 1), true⟩
theorem sr_i (n : Nat) : (sr l n).i = n := by unfold sr; split <;> simp_all [bad0]
theorem sr_ok (n : Nat) : (sr l n).ok = decide (n ≠ 0) := by unfold sr; split <;> simp_all [bad0]
/-- What a file tells. -/
def tells (y : S2) (n : Nat) : Prop := (n = 0 → y.there = false ∨ (sread y.s).ok = false) ∧ (n ≠ 0 → y.there = true ∧ sread y.s = sr l n)
structure Few : Prop where
  len : l.length ≤ 30
  tx : ∀ n, (txt l n).length ≤ 131072
variable {l}
theorem fc_tells (h : Few l) {n : Nat} (hn : n ≤ 31) : tells l (fc l n) n := by
  refine ⟨fun h0 => .inl (by unfold fc; rw [if_pos h0]), fun h0 => ?_⟩
  unfold fc
  rw [if_neg h0]
  refine ⟨rfl, ?_⟩
  have := h.tx (n - 1)
  dsimp only
  rw [sread_file (by omega) (by omega) (by omega) (by omega)]
  unfold sr
  rw [if_neg h0]
theorem pre_tells (h : Few l) {i m : Nat} (hi : i ≤ 30) {y : S2} (hy : y = ⟨true, (sfile (i + 1) i (txt l i)).take m⟩) : tells l y 0 ∨ tells l y (i + 1) := by
  have hx := h.tx i
  cases hok : (sread y.s).ok with
  | false => exact .inl ⟨fun _ => .inr hok, fun h => absurd rfl h⟩
  | true =>
    right
    subst hy
    have he := sread_pre (by omega) hok
    refine ⟨fun h => by omega, fun _ => ⟨rfl, ?_⟩⟩
    dsimp only
    rw [he, sread_file (by omega) (by omega) (by omega) (by omega)]
    unfold sr
    rw [if_neg (by omega)]
    rfl
theorem none_tells {y : S2} (h : y.there = false) : tells l y 0 := ⟨fun _ => .inl h, fun h => absurd rfl h⟩

theorem read_n {M : DM} (hp : M.power ≠ 0) {n : Nat} (hn : n < 32) : M.read (n : Int) = if (M.f n).seen.there = false then ([], 4) else ((M.f n).seen.s, 0) := by
  unfold DM.read
  have h0 : ¬ ((n : Int) < 0 ∨ 32 ≤ (n : Int)) := by omega
  rw [if_neg hp, if_neg h0, see_in (by omega) (by omega), Int.toNat_natCast]
theorem mst_tells {M : DM} (hp : M.power ≠ 0) {f n m : Nat} (hf : f < 32) (h : tells l (M.f f).seen n) : mst M f (sr l m) = sr l (max n m) := by
  unfold mst
  rw [read_n hp hf]
  by_cases hn : n = 0
  · subst hn
    have e : max 0 m = m := by omega
    rw [e]
    cases ht : (M.f f).seen.there with
    | false => simp
    | true =>
      have h2 := h.1 rfl
      rw [ht] at h2
      have h3 : (sread (M.f f).seen.s).ok = false := by simpa using h2
      simp [h3]
  · obtain ⟨h1, h2⟩ := h.2 hn
    rw [h1]
    simp only [Bool.true_eq_false, if_false, ne_eq, not_true_eq_false, h2, sr_i, sr_ok]
    by_cases hm : n > m
    · rw [if_pos ⟨by simpa using hn, hm⟩, show max n m = n by omega]
      unfold sr
      rw [if_neg hn]
    · rw [if_neg (by simp only [not_and]; intro _; exact hm), show max n m = m by omega]
theorem mac_tells {M : DM} (hp : M.power ≠ 0) {p q : Nat} (h2 : tells l (M.f 2).seen p) (h3 : tells l (M.f 3).seen q) : mac M 2 = sr l (max q p) := by
  have b0 : bad0 = sr l 0 := rfl
  show mst M 3 (mst M 2 bad0) = _
  rw [b0, mst_tells hp (by decide) h2, show max p 0 = p by omega, mst_tells hp (by decide) h3]
theorem mld_tells {M : DM} (hp : M.power ≠ 0) {p q : Nat} (h2 : tells l (M.f 2).seen p) (h3 : tells l (M.f 3).seen q) : mld M = (sr l (max q p), if max q p = 0 then 4 else 0) := by
  unfold mld
  rw [if_neg hp, mac_tells hp h2 h3, sr_ok]
  by_cases h : max q p = 0
  · rw [if_neg (by simp [h]), if_pos h, h]; rfl
  · rw [if_pos (decide_eq_true h), if_neg h]
theorem sfl_tells {M : DM} (hp : M.power ≠ 0) {p q : Nat} (h2 : tells l (M.f 2).seen p) (h3 : tells l (M.f 3).seen q) : sfl M = if p ≠ 0 ∧ q ≤ p then 3 else 2 := by
  have rd2 : M.read 2 = if (M.f 2).seen.there = false then ([], 4) else ((M.f 2).seen.s, 0) := read_n hp (n := 2) (by decide)
  unfold sfl
  rw [mld_tells hp h2 h3, rd2]
  dsimp only
  rw [sr_i]
  by_cases hn : p = 0
  · subst hn
    have r0 : (if (0 : Nat) ≠ 0 ∧ q ≤ 0 then 3 else 2 : Nat) = 2 := by simp
    rw [r0]
    refine if_neg ?_
    rintro ⟨a1, a2, _⟩
    cases ht : (M.f 2).seen.there with
    | false => rw [ht] at a1; simp at a1
    | true =>
      have h4 := h2.1 rfl
      rw [ht] at h4 a2
      simp only [Bool.true_eq_false, if_false, false_or] at a2 h4
      rw [h4] at a2
      cases a2
  · obtain ⟨h4, h5⟩ := h2.2 hn
    rw [h4]
    simp only [Bool.true_eq_false, if_false, true_and, h5, sr_i, sr_ok, ne_eq, hn, not_false_eq_true, decide_true]
    by_cases hq : q ≤ p
    · rw [if_pos hq, if_pos]
      rw [show max q p = p by omega]
      exact ⟨rfl, rfl⟩
    · rw [if_neg hq, if_neg]
      omega

def fa (i : Nat) : Nat := if i % 2 = 1 then 2 else 3
def fb (i : Nat) : Nat := if i % 2 = 1 then 3 else 2
theorem fa_succ (i : Nat) : fa (i + 1) = fb i := by unfold fa fb; split <;> split <;> omega
theorem fb_succ (i : Nat) : fb (i + 1) = fa i := by unfold fa fb; split <;> split <;> omega
def rmv : Ch := ⟨3, [], 0⟩
variable (l)
def app (i : Nat) : Ch := ⟨1, sfile (i + 1) i (txt l i), 0⟩
/-- Where it stands: so many are sure; what is under way in the other file. -/
structure Wk (M : DM) (i : Nat) (L : List Ch) : Prop where
  a : M.f (fa i) = ⟨fc l i, []⟩
  b : M.f (fb i) = ⟨fc l (i - 1), L⟩
  L : L = [] ∨ L = [rmv] ∨ L = [rmv, app l i] ∨ (L = [app l i] ∧ i - 1 = 0)
variable {l}
theorem two {M : DM} {i : Nat} {P Q : S2 → Prop} (ha : P (M.f (fa i)).seen) (hb : Q (M.f (fb i)).seen) : (i % 2 = 1 ∧ P (M.f 2).seen ∧ Q (M.f 3).seen) ∨ (i % 2 = 0 ∧ Q (M.f 2).seen ∧ P (M.f 3).seen) := by
  unfold fa at ha
  unfold fb at hb
  by_cases h : i % 2 = 1
  · rw [if_pos h] at ha hb; exact .inl ⟨h, ha, hb⟩
  · rw [if_neg h] at ha hb; exact .inr ⟨by omega, hb, ha⟩
/-- What stands behind a crash. -/
theorem crash_wk {M : DM} {i : Nat} {L : List Ch} (h : Few l) (hi : i ≤ 30) (hw : Wk l M i L) (keep : List Int) (torn : Int) :
    ∃ r, mld (M.crash keep torn) = (sr l r, if r = 0 then 4 else 0) ∧ (r = i ∨ (r = i + 1 ∧ L ≠ [])) := by
  have hp : (M.crash keep torn).power ≠ 0 := by simp [DM.crash]
  have ha : ((M.crash keep torn).f (fa i)).seen = fc l i := by
    simp only [DM.crash, hw.a, FM.crash, FM.crashN, List.take_nil, List.getElem?_nil]
    rfl
  have ta : tells l ((M.crash keep torn).f (fa i)).seen i := by rw [ha]; exact fc_tells h (by omega)
  have hbt : ∃ j, tells l ((M.crash keep torn).f (fb i)).seen j ∧ (j = i - 1 ∨ j = 0 ∨ (j = i + 1 ∧ L ≠ [])) := by
    have hc := fc_tells h (n := i - 1) (by omega)
    have hb : ∃ y, ((M.crash keep torn).f (fb i)).seen = y ∧ (y = fc l (i - 1) ∨ y.there = false ∨ (L ≠ [] ∧ ∃ m, y = ⟨true, (sfile (i + 1) i (txt l i)).take m⟩)) := by
      refine ⟨_, rfl, ?_⟩
      have e : ((M.crash keep torn).f (fb i)) = FM.crash ⟨fc l (i - 1), L⟩ ((keep[fb i]?).getD 0) torn := by simp only [DM.crash, hw.b]
      rw [e]
      generalize (keep[fb i]?).getD 0 = k
      unfold FM.crash
      dsimp only
      have hnl : (min (max k 0) (L.length : Int)).toNat ≤ L.length := by omega
      generalize (min (max k 0) (L.length : Int)).toNat = n at *
      have t0 : (done ⟨false, []⟩ (app l i)) = ⟨true, sfile (i + 1) i (txt l i)⟩ := by simp [done, app]
      have full : (⟨true, sfile (i + 1) i (txt l i)⟩ : S2) = ⟨true, (sfile (i + 1) i (txt l i)).take (sfile (i + 1) i (txt l i)).length⟩ := by rw [List.take_length]
      have rm0 : ∀ c, done c rmv = ⟨false, []⟩ := fun c => by simp [done, rmv]
      -- a part of the growing
      have part : ∀ (x : S2), x = ⟨false, []⟩ → L ≠ [] → (FM.seen (if (app l i).k = 1 ∧ 0 < (app l i).s.length ∧ 0 < torn then ⟨done x ⟨1, (app l i).s.take (min torn ((app l i).s.length - 1)).toNat, 0⟩, []⟩ else ⟨x, []⟩)) = fc l (i - 1) ∨ (FM.seen (if (app l i).k = 1 ∧ 0 < (app l i).s.length ∧ 0 < torn then ⟨done x ⟨1, (app l i).s.take (min torn ((app l i).s.length - 1)).toNat, 0⟩, []⟩ else ⟨x, []⟩)).there = false ∨ (L ≠ [] ∧ ∃ m, (FM.seen (if (app l i).k = 1 ∧ 0 < (app l i).s.length ∧ 0 < torn then ⟨done x ⟨1, (app l i).s.take (min torn ((app l i).s.length - 1)).toNat, 0⟩, []⟩ else ⟨x, []⟩)) = ⟨true, (sfile (i + 1) i (txt l i)).take m⟩) := by
        intro x hx hL
        subst hx
        split
        · right; right
          exact ⟨hL, (min torn ((app l i).s.length - 1)).toNat, by simp [FM.seen, seenOf, done, app]⟩
        · right; left; rfl
      rcases hw.L with rfl | rfl | rfl | ⟨rfl, hi0⟩
      · left
        simp [FM.crashN, FM.seen, seenOf]
      · -- removed
        have : n = 0 ∨ n = 1 := by simp at hnl; omega
        rcases this with rfl | rfl
        · left; simp [FM.crashN, FM.seen, seenOf, rmv]
        · right; left; simp [FM.crashN, FM.seen, seenOf, rm0]
      · have : n = 0 ∨ n = 1 ∨ n = 2 := by simp at hnl; omega
        rcases this with rfl | rfl | rfl
        · left; simp [FM.crashN, FM.seen, seenOf, rmv]
        · have := part ⟨false, []⟩ rfl (by simp)
          simp only [FM.crashN, List.take_succ_cons, List.take_zero, seenOf, List.foldl_cons, List.foldl_nil, rm0, List.getElem?_cons_succ, List.getElem?_cons_zero]
          exact this
        · right; right
          refine ⟨by simp, (sfile (i + 1) i (txt l i)).length, ?_⟩
          rw [← full]
          simp [FM.crashN, FM.seen, seenOf, rm0, t0]
      · have hc0 : fc l (i - 1) = ⟨false, []⟩ := by unfold fc; rw [if_pos hi0]
        have : n = 0 ∨ n = 1 := by simp at hnl; omega
        rcases this with rfl | rfl
        · have := part ⟨false, []⟩ rfl (by simp)
          rw [hc0] at this ⊢
          simp only [FM.crashN, List.take_zero, seenOf, List.foldl_nil, List.getElem?_cons_zero]
          exact this
        · right; right
          refine ⟨by simp, (sfile (i + 1) i (txt l i)).length, ?_⟩
          rw [← full, hc0]
          simp [FM.crashN, FM.seen, seenOf, t0]
    obtain ⟨y, hy, hcase⟩ := hb
    rw [hy]
    rcases hcase with rfl | h0 | ⟨hL, m, h1⟩
    · exact ⟨i - 1, hc, .inl rfl⟩
    · exact ⟨0, none_tells h0, .inr (.inl rfl)⟩
    · rcases pre_tells h hi h1 with h2 | h2
      · exact ⟨0, h2, .inr (.inl rfl)⟩
      · exact ⟨i + 1, h2, .inr (.inr ⟨rfl, hL⟩)⟩
  obtain ⟨j, tb, hj⟩ := hbt
  rcases two (M := M.crash keep torn) (i := i) (P := fun y => tells l y i) (Q := fun y => tells l y j) ta tb with ⟨_, h2, h3⟩ | ⟨_, h2, h3⟩
  · refine ⟨max j i, mld_tells hp h2 h3, ?_⟩
    rcases hj with hj | hj | ⟨hj, hL⟩
    · left; omega
    · left; omega
    · right; exact ⟨by omega, hL⟩
  · refine ⟨max i j, mld_tells hp h2 h3, ?_⟩
    rcases hj with hj | hj | ⟨hj, hL⟩
    · left; omega
    · left; omega
    · right; exact ⟨by omega, hL⟩
end
end Go.Proofs.Ytjcobnjnjliehaa.sn
namespace Go.Proofs.Ytjcobnjnjliehaa.sn
open Go.Ab fr dk
set_option maxRecDepth 100000
set_option maxHeartbeats 8000000
set_option linter.unusedSimpArgs false
set_option linter.unusedVariables false

section
variable {l : List (List UInt8)}
def DM.dn (M : DM) : DM := { M with power := if 0 < M.power then M.power - 1 else M.power, ops := M.ops + 1 }
theorem change_0 {M : DM} (hp : M.power = 0) (f : Int) (c : Ch) : M.change f c = (M, 40) := by
  unfold DM.change DM.step
  rw [if_pos hp]
  rfl
theorem change_e {M : DM} (hp : M.power ≠ 0) {f : Nat} (hf : f < 32) {c : Ch} (he : M.may f c ≠ 0) : M.change f c = (M, M.may f c) := by
  have h0 : ¬ ((f : Int) < 0 ∨ 32 ≤ (f : Int)) := by omega
  unfold DM.change DM.step
  rw [if_neg hp, if_neg h0, if_pos he]
  dsimp only
  rw [if_neg he]
theorem change_y {M : DM} (hp : M.power ≠ 0) {f : Nat} (hf : f < 32) {c : Ch} (he : M.may f c = 0) : M.change f c = ((DM.dn M).upd f ((M.f f).add c), 0) := by
  have h0 : ¬ ((f : Int) < 0 ∨ 32 ≤ (f : Int)) := by omega
  unfold DM.change DM.step
  rw [if_neg hp, if_neg h0, he]
  simp only [ne_eq, not_true_eq_false, if_false, if_true, Int.toNat_natCast]
  rfl
theorem sync_0 {M : DM} (hp : M.power = 0) (f : Int) : M.sync f = (M, 40) := by
  unfold DM.sync DM.step
  rw [if_pos hp]
  rfl
theorem sync_y {M : DM} (hp : M.power ≠ 0) {f : Nat} (hf : f < 32) : M.sync f = ((DM.dn M).upd f ⟨(M.f f).seen, []⟩, 0) := by
  have h0 : ¬ ((f : Int) < 0 ∨ 32 ≤ (f : Int)) := by omega
  unfold DM.sync DM.step
  rw [if_neg hp, if_neg h0]
  simp only [ne_eq, not_true_eq_false, if_false, if_true, Int.toNat_natCast]
  rfl
theorem upd_f (M : DM) (f : Nat) (F : FM) : (M.upd f F).f f = F := by simp [DM.upd]
theorem upd_g (M : DM) {f g : Nat} (h : g ≠ f) (F : FM) : (M.upd f F).f g = M.f g := by simp [DM.upd, h]
theorem fab (i : Nat) : fa i ≠ fb i := by unfold fa fb; split <;> omega
theorem fb_lt (i : Nat) : fb i < 32 := by unfold fb; split <;> omega
theorem dn_pos {M : DM} (h : 0 ≤ M.power) : 0 ≤ (DM.dn M).power := by unfold DM.dn; dsimp only; split <;> omega

theorem save_wk {M : DM} {i : Nat} (h : Few l) (hi : i < l.length) (hw : Wk l M i []) (hp : 0 ≤ M.power) :
    ((msave M ((i + 1 : Nat) : Int) (i : Int) (txt l i)).2 = 0 ∧ Wk l (msave M ((i + 1 : Nat) : Int) (i : Int) (txt l i)).1 (i + 1) [] ∧ 0 ≤ (msave M ((i + 1 : Nat) : Int) (i : Int) (txt l i)).1.power)
    ∨ ((msave M ((i + 1 : Nat) : Int) (i : Int) (txt l i)).2 = 40 ∧ ∃ L, Wk l (msave M ((i + 1 : Nat) : Int) (i : Int) (txt l i)).1 i L) := by
  have hl := h.len
  have hx := h.tx i
  by_cases hp0 : M.power = 0
  · right
    unfold msave
    rw [if_pos hp0]
    exact ⟨rfl, [], hw⟩
  -- where it goes
  have ta : tells l (M.f (fa i)).seen i := by rw [hw.a]; exact fc_tells h (by omega)
  have tb : tells l (M.f (fb i)).seen (i - 1) := by rw [hw.b]; exact fc_tells h (by omega)
  have hf : sfl M = fb i := by
    rcases two (P := fun y => tells l y i) (Q := fun y => tells l y (i - 1)) ta tb with ⟨h1, h2, h3⟩ | ⟨h1, h2, h3⟩
    · rw [sfl_tells hp0 h2 h3]
      unfold fb
      rw [if_pos h1, if_pos (by omega)]
    · rw [sfl_tells hp0 h2 h3]
      unfold fb
      rw [if_neg (by omega), if_neg (by omega)]
  have hld : mld M = (sr l i, if i = 0 then 4 else 0) := by
    rcases two (P := fun y => tells l y i) (Q := fun y => tells l y (i - 1)) ta tb with ⟨h1, h2, h3⟩ | ⟨h1, h2, h3⟩
    · rw [mld_tells hp0 h2 h3, show max (i - 1) i = i by omega]
    · rw [mld_tells hp0 h2 h3, show max i (i - 1) = i by omega]
  have hms : msave M ((i + 1 : Nat) : Int) (i : Int) (txt l i) = msw M (fb i) (sfile (i + 1) i (txt l i)) := by
    unfold msave
    rw [if_neg hp0, if_neg (by omega), if_neg (by omega), if_neg, hf, Int.toNat_natCast, Int.toNat_natCast]
    rw [hld]
    rintro ⟨_, h2⟩
    dsimp only at h2
    rw [sr_i] at h2
    omega
  rw [hms]
  have hsl := sfile_len (i + 1) i (txt l i)
  have hfl := fb_lt i
  have hne := fab i
  unfold msw
  -- the growing, over what is gone
  have grow : ∀ (M1 : DM) (L1 : List Ch), M1.f (fa i) = ⟨fc l i, []⟩ → M1.f (fb i) = ⟨fc l (i - 1), L1⟩ → seenOf (fc l (i - 1)) L1 = ⟨false, []⟩ → 0 ≤ M1.power → (L1 = [rmv] ∨ (L1 = [] ∧ i - 1 = 0)) →
      let q := M1.change (fb i) ⟨1, sfile (i + 1) i (txt l i), 0⟩
      let r := if q.2 ≠ 0 then q else q.1.sync (fb i)
      (r.2 = 0 ∧ Wk l r.1 (i + 1) [] ∧ 0 ≤ r.1.power) ∨ (r.2 = 40 ∧ ∃ L, Wk l r.1 i L) := by
    intro M1 L1 ha hb hs hp1 hL
    dsimp only
    by_cases hz : M1.power = 0
    · right
      rw [change_0 hz]
      refine ⟨rfl, L1, ha, hb, ?_⟩
      rcases hL with rfl | ⟨rfl, _⟩
      · exact .inr (.inl rfl)
      · exact .inl rfl
    · have hsee : M1.see (fb i) = ⟨false, []⟩ := by
        rw [see_in (by omega) (by omega), Int.toNat_natCast, hb]; exact hs
      have hm : M1.may (fb i) ⟨1, sfile (i + 1) i (txt l i), 0⟩ = 0 := by
        unfold DM.may
        rw [hsee]
        simp only [if_true, List.length_nil]
        rw [if_neg (by omega)]
      rw [change_y hz hfl hm]
      simp only [ne_eq, not_true_eq_false, if_false]
      have hb2 : ((DM.dn M1).upd (fb i) ((M1.f (fb i)).add ⟨1, sfile (i + 1) i (txt l i), 0⟩)).f (fb i) = ⟨fc l (i - 1), L1 ++ [app l i]⟩ := by
        rw [upd_f, hb]; rfl
      have ha2 : ((DM.dn M1).upd (fb i) ((M1.f (fb i)).add ⟨1, sfile (i + 1) i (txt l i), 0⟩)).f (fa i) = ⟨fc l i, []⟩ := by
        rw [upd_g _ hne]; exact ha
      have hp2 : 0 ≤ ((DM.dn M1).upd (fb i) ((M1.f (fb i)).add ⟨1, sfile (i + 1) i (txt l i), 0⟩)).power := dn_pos hp1
      generalize (DM.dn M1).upd (fb i) ((M1.f (fb i)).add ⟨1, sfile (i + 1) i (txt l i), 0⟩) = M2 at *
      by_cases hz2 : M2.power = 0
      · right
        rw [sync_0 hz2]
        refine ⟨rfl, _, ha2, hb2, ?_⟩
        rcases hL with rfl | ⟨rfl, h0⟩
        · exact .inr (.inr (.inl rfl))
        · exact .inr (.inr (.inr ⟨rfl, h0⟩))
      · left
        rw [sync_y hz2 hfl]
        refine ⟨rfl, ⟨?_, ?_, .inl rfl⟩, dn_pos hp2⟩
        · rw [fa_succ, upd_f, hb2]
          simp only [FM.seen]
          rw [seenOf_append, hs]
          simp [done, app, fc]
        · rw [fb_succ, upd_g _ hne]; exact ha2
  have hseen : (M.f (fb i)).seen = fc l (i - 1) := by rw [hw.b]; rfl
  have hmay : M.may (fb i) ⟨3, [], 0⟩ = if (fc l (i - 1)).there = false then 4 else 0 := by
    unfold DM.may
    rw [see_in (by omega) (by omega), Int.toNat_natCast, hseen]
    simp
  by_cases h0 : i - 1 = 0
  · have hc0 : fc l (i - 1) = ⟨false, []⟩ := by unfold fc; rw [if_pos h0]
    have hm4 : M.may (fb i) ⟨3, [], 0⟩ = 4 := by rw [hmay, hc0]; rfl
    rw [change_e hp0 hfl (by rw [hm4]; decide), hm4]
    simp only [ne_eq, not_true_eq_false, and_false, if_false]
    exact grow M [] hw.a hw.b hc0 hp (.inr ⟨rfl, h0⟩)
  · have hm0 : M.may (fb i) ⟨3, [], 0⟩ = 0 := by
      rw [hmay]; unfold fc; rw [if_neg h0]; rfl
    rw [change_y hp0 hfl hm0]
    simp only [ne_eq, not_true_eq_false, false_and, if_false]
    refine grow _ [rmv] ?_ ?_ (by simp [seenOf, done, rmv]) (dn_pos hp) (.inl rfl)
    · rw [upd_g _ hne]; exact hw.a
    · rw [upd_f, hw.b]; rfl
theorem wk_zero (M : DM) (h2 : M.f 2 = F0) (h3 : M.f 3 = F0) : Wk l M 0 [] := ⟨by show M.f 3 = _; rw [h3]; rfl, by show M.f 2 = _; rw [h2]; rfl, .inl rfl⟩
end
end Go.Proofs.Ytjcobnjnjliehaa.sn
namespace Go.Proofs.Ytjcobnjnjliehaa.sn
open Go.Ab fr dk
set_option maxRecDepth 100000
set_option maxHeartbeats 8000000
set_option linter.unusedSimpArgs false
set_option linter.unusedVariables false

def sm (l : List (List UInt8)) : Nat := (l.map fun p => min p.length 262144).sum
theorem sm_succ {l : List (List UInt8)} {i : Nat} (h : i < l.length) : sm (l.take (i + 1)) = sm (l.take i) + min l[i].length 262144 := by
  unfold sm
  rw [List.take_add_one, List.getElem?_eq_getElem h, List.map_append, List.sum_append]
  simp
theorem sm_mem {l : List (List UInt8)} : ∀ {p}, p ∈ l → min p.length 262144 ≤ sm l := by
  induction l with
  | nil => intro p h; simp at h
  | cons q l ih =>
    intro p h
    have e : sm (q :: l) = min q.length 262144 + sm l := by simp [sm]
    rw [e]
    rcases List.mem_cons.1 h with rfl | h
    · omega
    · have := ih h; omega
theorem sm_le (l : List (List UInt8)) : sm l ≤ l.length * 262144 := by
  induction l with
  | nil => simp [sm]
  | cons q l ih =>
    have e : sm (q :: l) = min q.length 262144 + sm l := by simp [sm]
    rw [e, List.length_cons, Nat.succ_mul]
    omega
theorem few_of {l : List (List UInt8)} (h : sm l ≤ 131072) (hl : l.length ≤ 30) : Few l := by
  refine ⟨hl, fun n => ?_⟩
  unfold txt
  rcases Nat.lt_or_ge n l.length with hn | hn
  · rw [List.getElem?_eq_getElem hn, Option.getD_some]
    have := sm_mem (List.getElem_mem hn)
    omega
  · rw [List.getElem?_eq_none hn]; simp
theorem msave_ok {M : DM} {B : Nat} (h : M.Ok B) (i t : Int) (x : List UInt8) : (msave M i t x).1.Ok (B + 3) := by
  have h3 := h.more (show B ≤ B + 3 by omega)
  unfold msave
  repeat' split
  all_goals first | exact h3 | skip
  unfold msw
  dsimp only
  have h1 := h.change (f := (sfl M : Int)) (c := ⟨3, [], 0⟩) (.inr (.inr rfl))
  split
  · exact h1.more (by omega)
  · have h2 := h1.change (f := (sfl M : Int)) (c := ⟨1, sfile i.toNat t.toNat x, 0⟩) (.inl rfl)
    split
    · exact h2.more (by omega)
    · exact h2.sync _

theorem kept_run (k : Nat) (σ0 : St) (x : V) (l : List (List UInt8)) (pw : Int) (kv : V) (ks : List Int) (torn : Int) (h : RV 1 x (l.map sc1)) (hll : l.length * 16 ≤ 140737488355328) (hkv : RV 1 kv (ks.map kc)) (hpw : pw ≤ 9223372036854775807) (hk : 9223372036854775808 ≤ k) (σ1 : St) (hw : callY Tab.tb (k + 9) noYl 8 [] σ0 = some (.sc (.bool true), σ1)) :
    W (callY Tab.tb (k + 10) noYl 5 [x, .sc (.int .i64 pw), kv, .sc (.int .i64 torn)] σ0) fun r => r.1 = .sc (.bool true) := by
  rw [s_call (af := Tab.b5) rfl (Nat.le_of_ble_eq_true rfl)]
  have hnew := fun σ => dk.new_ok (k + 8) noYl σ
  have hpow := fun σ d M n h => power_ok (k + 8) noYl σ d M n h
  have hsave := fun σ d M i t x h B hm hB => save_ok (B := B) k noYl σ d M i t x h hm hB (by omega)
  have hcra := fun σ d M h B hm hB => crash_ok (B := B) (k + 6) noYl σ d M kv ks torn h hkv hm hB (by omega)
  have hload := fun σ d M h B hm => load_ok (B := B) (k + 1) noYl σ d M h hm (by omega)
  generalize callY Tab.tb (k + 9) = cy at hw hnew hpow hsave hcra hload ⊢
  have hlen := h.len
  rw [List.length_map] at hlen
  have hsize := h.size
  have mm : ∀ n : Nat, (if (262144 : Int) < (n : Int) then (262144 : Int) else (n : Int)) = ((min n 262144 : Nat) : Int) := fun n => by split <;> omega
  have elt : ∀ (σ : St) i (hi : i < l.length), aSlAddr x (.sc (.int .i64 i)) = some (.elt (l.map sc1).flatten i) ∧ aLoad σ (.elt (l.map sc1).flatten i) none = some (.str l[i]) := by
    intro σ i hi
    obtain ⟨a1, _, _⟩ := h.at (i := i) (by simpa using hi)
    have a4 := h.cellAt (i := i) (j := 0) (by simpa using hi) (by omega)
    simp only [List.getElem_map, Nat.add_zero, sc1, List.getElem?_cons_zero, Nat.mul_one] at a4
    rw [Nat.mul_one] at a1
    exact ⟨a1, by simp only [aLoad, aPart]; exact a4⟩
  simp -implicitDefEqProofs (disch := first | exact nbf rfl | exact nbt rfl | (simp only [ne_eq, reduceCtorEq, not_false_eq_true]; done) | omega | (simp -implicitDefEqProofs only [St.n_push, St.n_put, St.n_bump, List.length_set] <;> omega) | fail) only [Tab.b5, hw, hlen, aCallv, aPtrEq, XOp.kind, AOp.run, AO.eval, put, reduceCtorEq, aInt, Nat.reduceEqDiff, initEnv, V.bool, V.i64, resultsOf, AR.get, aExtract, aUn, Int.reduceEq, Int.reduceBEq, Int.reduceBNe, aBox, aLoad, aStore, aPart, aPlace, aArrAddr, aArrIdx, aIdx, aLenStr, aConv, aFold, aMinMax, aEqV, aNilCheck, fillV, aEqBool, aEqInt, aEqStr, Nat.reduceAdd, Nat.reduceLeDiff, Nat.reduceMul, Int.reduceLT, Int.reduceLE, Int.reduceToNat, Int.reduceGT, Int.reduceGE, Int.reduceNeg, Int.reduceAdd, Int.reduceSub, wrap64, chkAdd, effAdd, AOp.kind, chkAll, chkSee, Nat.reduceLT, zP.down, zQ.down]
  repeat (first | refine w_fin ?_ | refine w_seq ?_ | refine w_block ?_ | refine w_reg ?_ | refine w_op ?_ | refine w_dop ?_)
  refine W.mono (Q := fun r => ∃ (ρ : Env), r = ((.exit 0 : Ex), ρ, σ1) ∧ ρ 0 = x ∧ ρ 1 = .sc (.int .i64 pw) ∧ ρ 2 = kv ∧ ρ 3 = .sc (.int .i64 torn) ∧ ρ 9 = .sc (.int .i64 (sm l : Nat))) ?_ ?_
  · refine w_loop (fun m ρ σ' => ∃ i, m = l.length - i ∧ i ≤ l.length ∧ σ' = σ1 ∧ ρ 0 = x ∧ ρ 1 = .sc (.int .i64 pw) ∧ ρ 2 = kv ∧ ρ 3 = .sc (.int .i64 torn) ∧ ρ 9 = .sc (.int .i64 (sm (l.take i) : Nat)) ∧ ρ 23 = x ∧ ρ 24 = .sc (.int .i64 l.length) ∧ ρ 25 = .sc (.int .i64 i)) l.length (by omega) ?_ ?_
    · refine ⟨0, rfl, Nat.zero_le _, rfl, ?_, ?_, ?_, ?_, ?_, ?_, ?_, ?_⟩
      all_goals first | rfl | (simp -implicitDefEqProofs (disch := first | exact nbf rfl | exact nbt rfl | (simp only [ne_eq, reduceCtorEq, not_false_eq_true]; done) | omega | (simp -implicitDefEqProofs only [St.n_push, St.n_put, St.n_bump, List.length_set] <;> omega) | fail) only [aCallv, aPtrEq, XOp.kind, AOp.run, AO.eval, put, reduceCtorEq, aInt, Nat.reduceEqDiff, initEnv, V.bool, V.i64, resultsOf, AR.get, aExtract, aUn, Int.reduceEq, Int.reduceBEq, Int.reduceBNe, aBox, aLoad, aStore, aPart, aPlace, aArrAddr, aArrIdx, aIdx, aLenStr, aConv, aFold, aMinMax, aEqV, aNilCheck, fillV, aEqBool, aEqInt, aEqStr, Nat.reduceAdd, Nat.reduceLeDiff, Nat.reduceMul, Int.reduceLT, Int.reduceLE, Int.reduceToNat, Int.reduceGT, Int.reduceGE, Int.reduceNeg, Int.reduceAdd, Int.reduceSub, wrap64, chkAdd, effAdd, AOp.kind, chkAll, chkSee, Nat.reduceLT, zP.down, zQ.down]; done) | (simp -implicitDefEqProofs (disch := first | exact nbf rfl | exact nbt rfl | (simp only [ne_eq, reduceCtorEq, not_false_eq_true]; done) | omega | (simp -implicitDefEqProofs only [St.n_push, St.n_put, St.n_bump, List.length_set] <;> omega) | fail) only [aCallv, aPtrEq, XOp.kind, AOp.run, AO.eval, put, reduceCtorEq, aInt, Nat.reduceEqDiff, initEnv, V.bool, V.i64, resultsOf, AR.get, aExtract, aUn, Int.reduceEq, Int.reduceBEq, Int.reduceBNe, aBox, aLoad, aStore, aPart, aPlace, aArrAddr, aArrIdx, aIdx, aLenStr, aConv, aFold, aMinMax, aEqV, aNilCheck, fillV, aEqBool, aEqInt, aEqStr, Nat.reduceAdd, Nat.reduceLeDiff, Nat.reduceMul, Int.reduceLT, Int.reduceLE, Int.reduceToNat, Int.reduceGT, Int.reduceGE, Int.reduceNeg, Int.reduceAdd, Int.reduceSub, wrap64, chkAdd, effAdd, AOp.kind, chkAll, chkSee, Nat.reduceLT, zP.down, zQ.down]; rfl)
    · rintro m ρ σ' ⟨i, hm, hi, rfl, e0, e1, e2, e3, e9, e23, e24, e25⟩
      by_cases hl : i < l.length
      · have c1 : decide ((i : Int) < (l.length : Int)) = true := by simpa using hl
        obtain ⟨a1, a2⟩ := elt σ' i hl
        have hs := sm_succ hl
        have hs2 := sm_le (l.take (i + 1))
        rw [List.length_take] at hs2
        have w2 : IntKind.i64.wrap ((sm (l.take i) : Int) + ((min l[i].length 262144 : Nat) : Int)) = ((sm (l.take (i + 1)) : Nat) : Int) := by rw [wrap64 (by omega) (by omega), hs]; omega
        have w3 : IntKind.i64.wrap ((i : Int) + 1) = ((i + 1 : Nat) : Int) := wrap64 (by omega) (by omega)
        simp -implicitDefEqProofs (disch := first | exact nbf rfl | exact nbt rfl | (simp only [ne_eq, reduceCtorEq, not_false_eq_true]; done) | omega | (simp -implicitDefEqProofs only [St.n_push, St.n_put, St.n_bump, List.length_set] <;> omega) | fail) only [c1, e0, e1, e2, e3, e9, e23, e24, e25, a1, a2, hsize, mm, w2, w3, aCallv, aPtrEq, XOp.kind, AOp.run, AO.eval, put, reduceCtorEq, aInt, Nat.reduceEqDiff, initEnv, V.bool, V.i64, resultsOf, AR.get, aExtract, aUn, Int.reduceEq, Int.reduceBEq, Int.reduceBNe, aBox, aStore, aPart, aPlace, aArrAddr, aArrIdx, aIdx, aLenStr, aConv, aFold, aMinMax, aEqV, aNilCheck, fillV, aEqBool, aEqInt, aEqStr, Nat.reduceAdd, Nat.reduceLeDiff, Nat.reduceMul, Int.reduceLT, Int.reduceLE, Int.reduceToNat, Int.reduceGT, Int.reduceGE, Int.reduceNeg, Int.reduceAdd, Int.reduceSub, wrap64, chkAdd, effAdd, AOp.kind, chkAll, chkSee, Nat.reduceLT, zP.down, zQ.down]
        exact ⟨l.length - (i + 1), by omega, i + 1, rfl, hl, rfl, rfl⟩
      · have c1 : decide ((i : Int) < (l.length : Int)) = false := by simpa using hl
        have : i = l.length := by omega
        subst this
        rw [List.take_length] at e9
        simp -implicitDefEqProofs (disch := first | exact nbf rfl | exact nbt rfl | (simp only [ne_eq, reduceCtorEq, not_false_eq_true]; done) | omega | (simp -implicitDefEqProofs only [St.n_push, St.n_put, St.n_bump, List.length_set] <;> omega) | fail) only [c1, e24, e25, aCallv, aPtrEq, XOp.kind, AOp.run, AO.eval, put, reduceCtorEq, aInt, Nat.reduceEqDiff, initEnv, V.bool, V.i64, resultsOf, AR.get, aExtract, aUn, Int.reduceEq, Int.reduceBEq, Int.reduceBNe, aBox, aLoad, aStore, aPart, aPlace, aArrAddr, aArrIdx, aIdx, aLenStr, aConv, aFold, aMinMax, aEqV, aNilCheck, fillV, aEqBool, aEqInt, aEqStr, Nat.reduceAdd, Nat.reduceLeDiff, Nat.reduceMul, Int.reduceLT, Int.reduceLE, Int.reduceToNat, Int.reduceGT, Int.reduceGE, Int.reduceNeg, Int.reduceAdd, Int.reduceSub, wrap64, chkAdd, effAdd, AOp.kind, chkAll, chkSee, Nat.reduceLT, zP.down, zQ.down]
        refine ⟨_, rfl, ?_, ?_, ?_, ?_, ?_⟩
        all_goals (simp -implicitDefEqProofs (disch := first | exact nbf rfl | exact nbt rfl | (simp only [ne_eq, reduceCtorEq, not_false_eq_true]; done) | omega | (simp -implicitDefEqProofs only [St.n_push, St.n_put, St.n_bump, List.length_set] <;> omega) | fail) only [e0, e1, e2, e3, e9, aCallv, aPtrEq, XOp.kind, AOp.run, AO.eval, put, reduceCtorEq, aInt, Nat.reduceEqDiff, initEnv, V.bool, V.i64, resultsOf, AR.get, aExtract, aUn, Int.reduceEq, Int.reduceBEq, Int.reduceBNe, aBox, aLoad, aStore, aPart, aPlace, aArrAddr, aArrIdx, aIdx, aLenStr, aConv, aFold, aMinMax, aEqV, aNilCheck, fillV, aEqBool, aEqInt, aEqStr, Nat.reduceAdd, Nat.reduceLeDiff, Nat.reduceMul, Int.reduceLT, Int.reduceLE, Int.reduceToNat, Int.reduceGT, Int.reduceGE, Int.reduceNeg, Int.reduceAdd, Int.reduceSub, wrap64, chkAdd, effAdd, AOp.kind, chkAll, chkSee, Nat.reduceLT, zP.down, zQ.down]; done)
  · rintro _ ⟨ρ, rfl, e0, e1, e2, e3, e9⟩
    by_cases q1 : (sm l : Int) > 131072
    · have c1 : decide ((sm l : Int) > 131072) = true := by simpa using q1
      simp -implicitDefEqProofs (disch := first | exact nbf rfl | exact nbt rfl | (simp only [ne_eq, reduceCtorEq, not_false_eq_true]; done) | omega | (simp -implicitDefEqProofs only [St.n_push, St.n_put, St.n_bump, List.length_set] <;> omega) | fail) only [e0, e1, e9, c1, aCallv, aPtrEq, XOp.kind, AOp.run, AO.eval, put, reduceCtorEq, aInt, Nat.reduceEqDiff, initEnv, V.bool, V.i64, resultsOf, AR.get, aExtract, aUn, Int.reduceEq, Int.reduceBEq, Int.reduceBNe, aBox, aLoad, aStore, aPart, aPlace, aArrAddr, aArrIdx, aIdx, aLenStr, aConv, aFold, aMinMax, aEqV, aNilCheck, fillV, aEqBool, aEqInt, aEqStr, Nat.reduceAdd, Nat.reduceLeDiff, Nat.reduceMul, Int.reduceLT, Int.reduceLE, Int.reduceToNat, Int.reduceGT, Int.reduceGE, Int.reduceNeg, Int.reduceAdd, Int.reduceSub, wrap64, chkAdd, effAdd, AOp.kind, chkAll, chkSee, Nat.reduceLT, zP.down, zQ.down]
    have c1 : decide ((sm l : Int) > 131072) = false := by simpa using q1
    by_cases q2 : (l.length : Int) > 30
    · have c2 : decide ((l.length : Int) > 30) = true := by simpa using q2
      simp -implicitDefEqProofs (disch := first | exact nbf rfl | exact nbt rfl | (simp only [ne_eq, reduceCtorEq, not_false_eq_true]; done) | omega | (simp -implicitDefEqProofs only [St.n_push, St.n_put, St.n_bump, List.length_set] <;> omega) | fail) only [e0, e1, e9, c1, c2, hlen, aCallv, aPtrEq, XOp.kind, AOp.run, AO.eval, put, reduceCtorEq, aInt, Nat.reduceEqDiff, initEnv, V.bool, V.i64, resultsOf, AR.get, aExtract, aUn, Int.reduceEq, Int.reduceBEq, Int.reduceBNe, aBox, aLoad, aStore, aPart, aPlace, aArrAddr, aArrIdx, aIdx, aLenStr, aConv, aFold, aMinMax, aEqV, aNilCheck, fillV, aEqBool, aEqInt, aEqStr, Nat.reduceAdd, Nat.reduceLeDiff, Nat.reduceMul, Int.reduceLT, Int.reduceLE, Int.reduceToNat, Int.reduceGT, Int.reduceGE, Int.reduceNeg, Int.reduceAdd, Int.reduceSub, wrap64, chkAdd, effAdd, AOp.kind, chkAll, chkSee, Nat.reduceLT, zP.down, zQ.down]
    have c2 : decide ((l.length : Int) > 30) = false := by simpa using q2
    by_cases q3 : pw < 0
    · have c3 : decide (pw < 0) = true := by simpa using q3
      simp -implicitDefEqProofs (disch := first | exact nbf rfl | exact nbt rfl | (simp only [ne_eq, reduceCtorEq, not_false_eq_true]; done) | omega | (simp -implicitDefEqProofs only [St.n_push, St.n_put, St.n_bump, List.length_set] <;> omega) | fail) only [e0, e1, e9, c1, c2, c3, hlen, aCallv, aPtrEq, XOp.kind, AOp.run, AO.eval, put, reduceCtorEq, aInt, Nat.reduceEqDiff, initEnv, V.bool, V.i64, resultsOf, AR.get, aExtract, aUn, Int.reduceEq, Int.reduceBEq, Int.reduceBNe, aBox, aLoad, aStore, aPart, aPlace, aArrAddr, aArrIdx, aIdx, aLenStr, aConv, aFold, aMinMax, aEqV, aNilCheck, fillV, aEqBool, aEqInt, aEqStr, Nat.reduceAdd, Nat.reduceLeDiff, Nat.reduceMul, Int.reduceLT, Int.reduceLE, Int.reduceToNat, Int.reduceGT, Int.reduceGE, Int.reduceNeg, Int.reduceAdd, Int.reduceSub, wrap64, chkAdd, effAdd, AOp.kind, chkAll, chkSee, Nat.reduceLT, zP.down, zQ.down]
    have c3 : decide (pw < 0) = false := by simpa using q3
    have few := few_of (l := l) (by omega) (by omega)
    simp -implicitDefEqProofs (disch := first | exact nbf rfl | exact nbt rfl | (simp only [ne_eq, reduceCtorEq, not_false_eq_true]; done) | omega | (simp -implicitDefEqProofs only [St.n_push, St.n_put, St.n_bump, List.length_set] <;> omega) | fail) only [e0, e1, e9, c1, c2, c3, hlen, aCallv, aPtrEq, XOp.kind, AOp.run, AO.eval, put, reduceCtorEq, aInt, Nat.reduceEqDiff, initEnv, V.bool, V.i64, resultsOf, AR.get, aExtract, aUn, Int.reduceEq, Int.reduceBEq, Int.reduceBNe, aBox, aLoad, aStore, aPart, aPlace, aArrAddr, aArrIdx, aIdx, aLenStr, aConv, aFold, aMinMax, aEqV, aNilCheck, fillV, aEqBool, aEqInt, aEqStr, Nat.reduceAdd, Nat.reduceLeDiff, Nat.reduceMul, Int.reduceLT, Int.reduceLE, Int.reduceToNat, Int.reduceGT, Int.reduceGE, Int.reduceNeg, Int.reduceAdd, Int.reduceSub, wrap64, chkAdd, effAdd, AOp.kind, chkAll, chkSee, Nat.reduceLT, zP.down, zQ.down]
    repeat (first | refine w_fin ?_ | refine w_seq ?_ | refine w_block ?_ | refine w_reg ?_ | refine w_op ?_ | refine w_dop ?_)
    refine (hnew σ1).mono ?_
    rintro ⟨_, σ2⟩ ⟨rfl, hd2, _, _⟩
    dsimp only at hd2
    generalize σ1.n = d at *
    simp -implicitDefEqProofs (disch := first | exact nbf rfl | exact nbt rfl | (simp only [ne_eq, reduceCtorEq, not_false_eq_true]; done) | omega | (simp -implicitDefEqProofs only [St.n_push, St.n_put, St.n_bump, List.length_set] <;> omega) | fail) only [e0, e1, aCallv, aPtrEq, XOp.kind, AOp.run, AO.eval, put, reduceCtorEq, aInt, Nat.reduceEqDiff, initEnv, V.bool, V.i64, resultsOf, AR.get, aExtract, aUn, Int.reduceEq, Int.reduceBEq, Int.reduceBNe, aBox, aLoad, aStore, aPart, aPlace, aArrAddr, aArrIdx, aIdx, aLenStr, aConv, aFold, aMinMax, aEqV, aNilCheck, fillV, aEqBool, aEqInt, aEqStr, Nat.reduceAdd, Nat.reduceLeDiff, Nat.reduceMul, Int.reduceLT, Int.reduceLE, Int.reduceToNat, Int.reduceGT, Int.reduceGE, Int.reduceNeg, Int.reduceAdd, Int.reduceSub, wrap64, chkAdd, effAdd, AOp.kind, chkAll, chkSee, Nat.reduceLT, zP.down, zQ.down]
    repeat (first | refine w_fin ?_ | refine w_seq ?_ | refine w_block ?_ | refine w_reg ?_ | refine w_op ?_ | refine w_dop ?_)
    refine (hpow σ2 d D0 pw hd2).mono ?_
    rintro ⟨_, σ3⟩ ⟨rfl, hd3, _, _⟩
    dsimp only at hd3
    simp -implicitDefEqProofs (disch := first | exact nbf rfl | exact nbt rfl | (simp only [ne_eq, reduceCtorEq, not_false_eq_true]; done) | omega | (simp -implicitDefEqProofs only [St.n_push, St.n_put, St.n_bump, List.length_set] <;> omega) | fail) only [e0, hlen, aCallv, aPtrEq, XOp.kind, AOp.run, AO.eval, put, reduceCtorEq, aInt, Nat.reduceEqDiff, initEnv, V.bool, V.i64, resultsOf, AR.get, aExtract, aUn, Int.reduceEq, Int.reduceBEq, Int.reduceBNe, aBox, aLoad, aStore, aPart, aPlace, aArrAddr, aArrIdx, aIdx, aLenStr, aConv, aFold, aMinMax, aEqV, aNilCheck, fillV, aEqBool, aEqInt, aEqStr, Nat.reduceAdd, Nat.reduceLeDiff, Nat.reduceMul, Int.reduceLT, Int.reduceLE, Int.reduceToNat, Int.reduceGT, Int.reduceGE, Int.reduceNeg, Int.reduceAdd, Int.reduceSub, wrap64, chkAdd, effAdd, AOp.kind, chkAll, chkSee, Nat.reduceLT, zP.down, zQ.down]
    repeat (first | refine w_fin ?_ | refine w_seq ?_ | refine w_block ?_ | refine w_reg ?_ | refine w_op ?_ | refine w_dop ?_)
    refine W.mono (Q := fun r => ∃ (ρ : Env) (σ : St) (M : DM) (i last : Nat) (L : List Ch), r = ((.exit 2 : Ex), ρ, σ) ∧ DR σ d M ∧ M.Ok 100 ∧ Wk l M i L ∧ i ≤ l.length ∧ (last = i ∨ last = i + 1) ∧ (L ≠ [] → last = i + 1) ∧ (last = i + 1 → i < l.length) ∧ ρ 0 = x ∧ ρ 2 = kv ∧ ρ 3 = .sc (.int .i64 torn) ∧ ρ 12 = .ptr d 0 ∧ ρ 13 = .sc (.int .i64 i) ∧ ρ 14 = .sc (.int .i64 last)) ?_ ?_
    · refine w_loop (fun m ρ σ => ∃ (i : Nat) (M : DM), m = l.length - i ∧ i ≤ l.length ∧ DR σ d M ∧ M.Ok (3 * i) ∧ Wk l M i [] ∧ 0 ≤ M.power ∧ ρ 0 = x ∧ ρ 2 = kv ∧ ρ 3 = .sc (.int .i64 torn) ∧ ρ 12 = .ptr d 0 ∧ ρ 13 = .sc (.int .i64 i) ∧ ρ 14 = .sc (.int .i64 i) ∧ ρ 50 = x ∧ ρ 51 = .sc (.int .i64 l.length) ∧ ρ 52 = .sc (.int .i64 i)) l.length (by omega) ?_ ?_
      · refine ⟨0, _, rfl, Nat.zero_le _, hd3, (DM.Ok.zero 0).power hpw, wk_zero _ rfl rfl, by dsimp only; omega, ?_, ?_, ?_, ?_, ?_, ?_, ?_, ?_, ?_⟩
        all_goals first | rfl | (simp -implicitDefEqProofs (disch := first | exact nbf rfl | exact nbt rfl | (simp only [ne_eq, reduceCtorEq, not_false_eq_true]; done) | omega | (simp -implicitDefEqProofs only [St.n_push, St.n_put, St.n_bump, List.length_set] <;> omega) | fail) only [e0, e2, e3, aCallv, aPtrEq, XOp.kind, AOp.run, AO.eval, put, reduceCtorEq, aInt, Nat.reduceEqDiff, initEnv, V.bool, V.i64, resultsOf, AR.get, aExtract, aUn, Int.reduceEq, Int.reduceBEq, Int.reduceBNe, aBox, aLoad, aStore, aPart, aPlace, aArrAddr, aArrIdx, aIdx, aLenStr, aConv, aFold, aMinMax, aEqV, aNilCheck, fillV, aEqBool, aEqInt, aEqStr, Nat.reduceAdd, Nat.reduceLeDiff, Nat.reduceMul, Int.reduceLT, Int.reduceLE, Int.reduceToNat, Int.reduceGT, Int.reduceGE, Int.reduceNeg, Int.reduceAdd, Int.reduceSub, wrap64, chkAdd, effAdd, AOp.kind, chkAll, chkSee, Nat.reduceLT, zP.down, zQ.down]; done) | (simp -implicitDefEqProofs (disch := first | exact nbf rfl | exact nbt rfl | (simp only [ne_eq, reduceCtorEq, not_false_eq_true]; done) | omega | (simp -implicitDefEqProofs only [St.n_push, St.n_put, St.n_bump, List.length_set] <;> omega) | fail) only [aCallv, aPtrEq, XOp.kind, AOp.run, AO.eval, put, reduceCtorEq, aInt, Nat.reduceEqDiff, initEnv, V.bool, V.i64, resultsOf, AR.get, aExtract, aUn, Int.reduceEq, Int.reduceBEq, Int.reduceBNe, aBox, aLoad, aStore, aPart, aPlace, aArrAddr, aArrIdx, aIdx, aLenStr, aConv, aFold, aMinMax, aEqV, aNilCheck, fillV, aEqBool, aEqInt, aEqStr, Nat.reduceAdd, Nat.reduceLeDiff, Nat.reduceMul, Int.reduceLT, Int.reduceLE, Int.reduceToNat, Int.reduceGT, Int.reduceGE, Int.reduceNeg, Int.reduceAdd, Int.reduceSub, wrap64, chkAdd, effAdd, AOp.kind, chkAll, chkSee, Nat.reduceLT, zP.down, zQ.down]; rfl)
      · rintro m ρ σ ⟨i, M, hm, hi, hd, hM, hwk, hp0, e0, e2, e3, e12, e13, e14, e50, e51, e52⟩
        by_cases hl : i < l.length
        · have d1 : decide ((i : Int) < (l.length : Int)) = true := by simpa using hl
          obtain ⟨a1, a2⟩ := elt σ i hl
          have w3 : IntKind.i64.wrap ((i : Int) + 1) = ((i + 1 : Nat) : Int) := wrap64 (by omega) (by omega)
          have hsv := save_wk few hl hwk hp0
          have htx : txt l i = l[i] := by unfold txt; rw [List.getElem?_eq_getElem hl]; rfl
          have hmo := msave_ok hM ((i + 1 : Nat) : Int) (i : Int) (txt l i)
          have f1 := hsave σ d M ((i + 1 : Nat) : Int) (i : Int) (txt l i) hd (3 * i) hM (by omega)
          rw [htx] at hsv hmo f1
          simp -implicitDefEqProofs (disch := first | exact nbf rfl | exact nbt rfl | (simp only [ne_eq, reduceCtorEq, not_false_eq_true]; done) | omega | (simp -implicitDefEqProofs only [St.n_push, St.n_put, St.n_bump, List.length_set] <;> omega) | fail) only [d1, e0, e2, e3, e12, e13, e14, e50, e51, e52, a1, a2, hsize, w3, aCallv, aPtrEq, XOp.kind, AOp.run, AO.eval, put, reduceCtorEq, aInt, Nat.reduceEqDiff, initEnv, V.bool, V.i64, resultsOf, AR.get, aExtract, aUn, Int.reduceEq, Int.reduceBEq, Int.reduceBNe, aBox, aStore, aPart, aPlace, aArrAddr, aArrIdx, aIdx, aLenStr, aConv, aFold, aMinMax, aEqV, aNilCheck, fillV, aEqBool, aEqInt, aEqStr, Nat.reduceAdd, Nat.reduceLeDiff, Nat.reduceMul, Int.reduceLT, Int.reduceLE, Int.reduceToNat, Int.reduceGT, Int.reduceGE, Int.reduceNeg, Int.reduceAdd, Int.reduceSub, wrap64, chkAdd, effAdd, AOp.kind, chkAll, chkSee, Nat.reduceLT, zP.down, zQ.down]
          repeat (first | refine w_fin ?_ | refine w_seq ?_ | refine w_block ?_ | refine w_reg ?_ | refine w_op ?_ | refine w_dop ?_)
          refine f1.mono ?_
          rintro ⟨_, σ4⟩ ⟨rfl, hd4, _⟩
          dsimp only at hd4
          generalize msave M ((i + 1 : Nat) : Int) (i : Int) l[i] = q at *
          rcases hsv with ⟨h1, h2, h3⟩ | ⟨h1, L, h2⟩
          · rw [h1]
            simp -implicitDefEqProofs (disch := first | exact nbf rfl | exact nbt rfl | (simp only [ne_eq, reduceCtorEq, not_false_eq_true]; done) | omega | (simp -implicitDefEqProofs only [St.n_push, St.n_put, St.n_bump, List.length_set] <;> omega) | fail) only [e0, e2, e3, e12, e13, e14, e50, e51, e52, w3, aCallv, aPtrEq, XOp.kind, AOp.run, AO.eval, put, reduceCtorEq, aInt, Nat.reduceEqDiff, initEnv, V.bool, V.i64, resultsOf, AR.get, aExtract, aUn, Int.reduceEq, Int.reduceBEq, Int.reduceBNe, aBox, aLoad, aStore, aPart, aPlace, aArrAddr, aArrIdx, aIdx, aLenStr, aConv, aFold, aMinMax, aEqV, aNilCheck, fillV, aEqBool, aEqInt, aEqStr, Nat.reduceAdd, Nat.reduceLeDiff, Nat.reduceMul, Int.reduceLT, Int.reduceLE, Int.reduceToNat, Int.reduceGT, Int.reduceGE, Int.reduceNeg, Int.reduceAdd, Int.reduceSub, wrap64, chkAdd, effAdd, AOp.kind, chkAll, chkSee, Nat.reduceLT, zP.down, zQ.down]
            exact ⟨l.length - (i + 1), by omega, i + 1, q.1, rfl, hl, hd4, hmo.more (by omega), h2, h3, rfl⟩
          · rw [h1]
            simp -implicitDefEqProofs (disch := first | exact nbf rfl | exact nbt rfl | (simp only [ne_eq, reduceCtorEq, not_false_eq_true]; done) | omega | (simp -implicitDefEqProofs only [St.n_push, St.n_put, St.n_bump, List.length_set] <;> omega) | fail) only [e0, e2, e3, e12, e13, e14, e50, e51, e52, w3, aCallv, aPtrEq, XOp.kind, AOp.run, AO.eval, put, reduceCtorEq, aInt, Nat.reduceEqDiff, initEnv, V.bool, V.i64, resultsOf, AR.get, aExtract, aUn, Int.reduceEq, Int.reduceBEq, Int.reduceBNe, aBox, aLoad, aStore, aPart, aPlace, aArrAddr, aArrIdx, aIdx, aLenStr, aConv, aFold, aMinMax, aEqV, aNilCheck, fillV, aEqBool, aEqInt, aEqStr, Nat.reduceAdd, Nat.reduceLeDiff, Nat.reduceMul, Int.reduceLT, Int.reduceLE, Int.reduceToNat, Int.reduceGT, Int.reduceGE, Int.reduceNeg, Int.reduceAdd, Int.reduceSub, wrap64, chkAdd, effAdd, AOp.kind, chkAll, chkSee, Nat.reduceLT, zP.down, zQ.down]
            refine ⟨_, _, q.1, i, i + 1, L, rfl, hd4, hmo.more (by omega), h2, by omega, .inr rfl, fun _ => rfl, fun _ => hl, ?_, ?_, ?_, ?_, ?_, ?_⟩
            all_goals (simp -implicitDefEqProofs (disch := first | exact nbf rfl | exact nbt rfl | (simp only [ne_eq, reduceCtorEq, not_false_eq_true]; done) | omega | (simp -implicitDefEqProofs only [St.n_push, St.n_put, St.n_bump, List.length_set] <;> omega) | fail) only [e0, e2, e3, e12, e13, aCallv, aPtrEq, XOp.kind, AOp.run, AO.eval, put, reduceCtorEq, aInt, Nat.reduceEqDiff, initEnv, V.bool, V.i64, resultsOf, AR.get, aExtract, aUn, Int.reduceEq, Int.reduceBEq, Int.reduceBNe, aBox, aLoad, aStore, aPart, aPlace, aArrAddr, aArrIdx, aIdx, aLenStr, aConv, aFold, aMinMax, aEqV, aNilCheck, fillV, aEqBool, aEqInt, aEqStr, Nat.reduceAdd, Nat.reduceLeDiff, Nat.reduceMul, Int.reduceLT, Int.reduceLE, Int.reduceToNat, Int.reduceGT, Int.reduceGE, Int.reduceNeg, Int.reduceAdd, Int.reduceSub, wrap64, chkAdd, effAdd, AOp.kind, chkAll, chkSee, Nat.reduceLT, zP.down, zQ.down]; done)
        · have d1 : decide ((i : Int) < (l.length : Int)) = false := by simpa using hl
          have : i = l.length := by omega
          simp -implicitDefEqProofs (disch := first | exact nbf rfl | exact nbt rfl | (simp only [ne_eq, reduceCtorEq, not_false_eq_true]; done) | omega | (simp -implicitDefEqProofs only [St.n_push, St.n_put, St.n_bump, List.length_set] <;> omega) | fail) only [d1, e51, e52, aCallv, aPtrEq, XOp.kind, AOp.run, AO.eval, put, reduceCtorEq, aInt, Nat.reduceEqDiff, initEnv, V.bool, V.i64, resultsOf, AR.get, aExtract, aUn, Int.reduceEq, Int.reduceBEq, Int.reduceBNe, aBox, aLoad, aStore, aPart, aPlace, aArrAddr, aArrIdx, aIdx, aLenStr, aConv, aFold, aMinMax, aEqV, aNilCheck, fillV, aEqBool, aEqInt, aEqStr, Nat.reduceAdd, Nat.reduceLeDiff, Nat.reduceMul, Int.reduceLT, Int.reduceLE, Int.reduceToNat, Int.reduceGT, Int.reduceGE, Int.reduceNeg, Int.reduceAdd, Int.reduceSub, wrap64, chkAdd, effAdd, AOp.kind, chkAll, chkSee, Nat.reduceLT, zP.down, zQ.down]
          refine ⟨_, _, M, i, i, [], rfl, hd, hM.more (by omega), hwk, hi, .inl rfl, fun h => absurd rfl h, fun h => by omega, ?_, ?_, ?_, ?_, ?_, ?_⟩
          all_goals (simp -implicitDefEqProofs (disch := first | exact nbf rfl | exact nbt rfl | (simp only [ne_eq, reduceCtorEq, not_false_eq_true]; done) | omega | (simp -implicitDefEqProofs only [St.n_push, St.n_put, St.n_bump, List.length_set] <;> omega) | fail) only [e0, e2, e3, e12, e13, e14, aCallv, aPtrEq, XOp.kind, AOp.run, AO.eval, put, reduceCtorEq, aInt, Nat.reduceEqDiff, initEnv, V.bool, V.i64, resultsOf, AR.get, aExtract, aUn, Int.reduceEq, Int.reduceBEq, Int.reduceBNe, aBox, aLoad, aStore, aPart, aPlace, aArrAddr, aArrIdx, aIdx, aLenStr, aConv, aFold, aMinMax, aEqV, aNilCheck, fillV, aEqBool, aEqInt, aEqStr, Nat.reduceAdd, Nat.reduceLeDiff, Nat.reduceMul, Int.reduceLT, Int.reduceLE, Int.reduceToNat, Int.reduceGT, Int.reduceGE, Int.reduceNeg, Int.reduceAdd, Int.reduceSub, wrap64, chkAdd, effAdd, AOp.kind, chkAll, chkSee, Nat.reduceLT, zP.down, zQ.down]; done)
    · rintro _ ⟨ρ, σ, M, i, last, L, rfl, hd, hM, hwk, hi, hl1, hl2, hl3, e0, e2, e3, e12, e13, e14⟩
      simp -implicitDefEqProofs (disch := first | exact nbf rfl | exact nbt rfl | (simp only [ne_eq, reduceCtorEq, not_false_eq_true]; done) | omega | (simp -implicitDefEqProofs only [St.n_push, St.n_put, St.n_bump, List.length_set] <;> omega) | fail) only [e0, e2, e3, e12, aCallv, aPtrEq, XOp.kind, AOp.run, AO.eval, put, reduceCtorEq, aInt, Nat.reduceEqDiff, initEnv, V.bool, V.i64, resultsOf, AR.get, aExtract, aUn, Int.reduceEq, Int.reduceBEq, Int.reduceBNe, aBox, aLoad, aStore, aPart, aPlace, aArrAddr, aArrIdx, aIdx, aLenStr, aConv, aFold, aMinMax, aEqV, aNilCheck, fillV, aEqBool, aEqInt, aEqStr, Nat.reduceAdd, Nat.reduceLeDiff, Nat.reduceMul, Int.reduceLT, Int.reduceLE, Int.reduceToNat, Int.reduceGT, Int.reduceGE, Int.reduceNeg, Int.reduceAdd, Int.reduceSub, wrap64, chkAdd, effAdd, AOp.kind, chkAll, chkSee, Nat.reduceLT, zP.down, zQ.down]
      repeat (first | refine w_fin ?_ | refine w_seq ?_ | refine w_block ?_ | refine w_reg ?_ | refine w_op ?_ | refine w_dop ?_)
      refine (hcra σ d M hd 100 hM (by decide)).mono ?_
      rintro ⟨_, σ5⟩ ⟨rfl, hd5, _⟩
      dsimp only at hd5
      obtain ⟨r, hr, hri⟩ := crash_wk few (by omega) hwk ks torn
      have hM5 := hM.crash ks torn
      simp -implicitDefEqProofs (disch := first | exact nbf rfl | exact nbt rfl | (simp only [ne_eq, reduceCtorEq, not_false_eq_true]; done) | omega | (simp -implicitDefEqProofs only [St.n_push, St.n_put, St.n_bump, List.length_set] <;> omega) | fail) only [e12, aCallv, aPtrEq, XOp.kind, AOp.run, AO.eval, put, reduceCtorEq, aInt, Nat.reduceEqDiff, initEnv, V.bool, V.i64, resultsOf, AR.get, aExtract, aUn, Int.reduceEq, Int.reduceBEq, Int.reduceBNe, aBox, aLoad, aStore, aPart, aPlace, aArrAddr, aArrIdx, aIdx, aLenStr, aConv, aFold, aMinMax, aEqV, aNilCheck, fillV, aEqBool, aEqInt, aEqStr, Nat.reduceAdd, Nat.reduceLeDiff, Nat.reduceMul, Int.reduceLT, Int.reduceLE, Int.reduceToNat, Int.reduceGT, Int.reduceGE, Int.reduceNeg, Int.reduceAdd, Int.reduceSub, wrap64, chkAdd, effAdd, AOp.kind, chkAll, chkSee, Nat.reduceLT, zP.down, zQ.down]
      repeat (first | refine w_fin ?_ | refine w_seq ?_ | refine w_block ?_ | refine w_reg ?_ | refine w_op ?_ | refine w_dop ?_)
      refine (hload σ5 d _ hd5 100 hM5).mono ?_
      rintro ⟨_, σ6⟩ ⟨rfl, _⟩
      rw [hr]
      by_cases hr0 : r = 0
      · subst hr0
        have hi0 : i = 0 := by rcases hri with h | ⟨h, _⟩ <;> omega
        subst hi0
        simp -implicitDefEqProofs (disch := first | exact nbf rfl | exact nbt rfl | (simp only [ne_eq, reduceCtorEq, not_false_eq_true]; done) | omega | (simp -implicitDefEqProofs only [St.n_push, St.n_put, St.n_bump, List.length_set] <;> omega) | fail) only [ldt, e13, aCallv, aPtrEq, XOp.kind, AOp.run, AO.eval, put, reduceCtorEq, aInt, Nat.reduceEqDiff, initEnv, V.bool, V.i64, resultsOf, AR.get, aExtract, aUn, Int.reduceEq, Int.reduceBEq, Int.reduceBNe, aBox, aLoad, aStore, aPart, aPlace, aArrAddr, aArrIdx, aIdx, aLenStr, aConv, aFold, aMinMax, aEqV, aNilCheck, fillV, aEqBool, aEqInt, aEqStr, Nat.reduceAdd, Nat.reduceLeDiff, Nat.reduceMul, Int.reduceLT, Int.reduceLE, Int.reduceToNat, Int.reduceGT, Int.reduceGE, Int.reduceNeg, Int.reduceAdd, Int.reduceSub, wrap64, chkAdd, effAdd, AOp.kind, chkAll, chkSee, Nat.reduceLT, zP.down, zQ.down]
      · have g1 : (i : Int) = r ∨ ((i : Int) ≠ r ∧ (last : Int) = r) := by
          rcases hri with h | ⟨h, h2⟩
          · left; omega
          · right; have := hl2 h2; omega
        have hrl : r - 1 < l.length := by
          rcases hri with h | ⟨h, h2⟩
          · omega
          · have := hl3 (hl2 h2); omega
        have hsr : sr l r = ⟨r, r - 1, l[r - 1], true⟩ := by
          unfold sr
          rw [if_neg hr0]
          congr 1
          unfold txt
          rw [List.getElem?_eq_getElem hrl]; rfl
        rw [if_neg hr0, hsr]
        obtain ⟨a1, a2⟩ := elt σ6.bump (r - 1) hrl
        have u1 : decide ((r : Int) ≥ 1) = true := by simp; omega
        have u2 : IntKind.i64.wrap ((r : Int) - 1) = ((r - 1 : Nat) : Int) := by rw [wrap64 (by omega) (by omega)]; omega
        have u3 : (((r - 1 : Nat) : Int) == ((r - 1 : Nat) : Int)) = true := by simp
        have u4 : ∀ s : List UInt8, aBin .eql (.str s) (.str s) = some (.sc (.bool true)) := fun s => by rw [str_eq]; simp
        rcases g1 with g | ⟨g, g2⟩
        · have v1 : ((r : Int) == (i : Int)) = true := by simp [g]
          simp -implicitDefEqProofs (disch := first | exact nbf rfl | exact nbt rfl | (simp only [ne_eq, reduceCtorEq, not_false_eq_true]; done) | omega | (simp -implicitDefEqProofs only [St.n_push, St.n_put, St.n_bump, List.length_set] <;> omega) | fail) only [ldt, e0, e13, e14, v1, u1, u2, u3, u4, a1, a2, hsize, aCallv, aPtrEq, XOp.kind, AOp.run, AO.eval, put, reduceCtorEq, aInt, Nat.reduceEqDiff, initEnv, V.bool, V.i64, resultsOf, AR.get, aExtract, aUn, Int.reduceEq, Int.reduceBEq, Int.reduceBNe, aBox, aStore, aPart, aPlace, aArrAddr, aArrIdx, aIdx, aLenStr, aConv, aFold, aMinMax, aEqV, aNilCheck, fillV, aEqBool, aEqInt, aEqStr, Nat.reduceAdd, Nat.reduceLeDiff, Nat.reduceMul, Int.reduceLT, Int.reduceLE, Int.reduceToNat, Int.reduceGT, Int.reduceGE, Int.reduceNeg, Int.reduceAdd, Int.reduceSub, wrap64, chkAdd, effAdd, AOp.kind, chkAll, chkSee, Nat.reduceLT, zP.down, zQ.down]
        · have v1 : ((r : Int) == (i : Int)) = false := by simp only [beq_eq_false_iff_ne, ne_eq]; omega
          have v2 : ((r : Int) == (last : Int)) = true := by simp [g2]
          simp -implicitDefEqProofs (disch := first | exact nbf rfl | exact nbt rfl | (simp only [ne_eq, reduceCtorEq, not_false_eq_true]; done) | omega | (simp -implicitDefEqProofs only [St.n_push, St.n_put, St.n_bump, List.length_set] <;> omega) | fail) only [ldt, e0, e13, e14, v1, v2, u1, u2, u3, u4, a1, a2, hsize, aCallv, aPtrEq, XOp.kind, AOp.run, AO.eval, put, reduceCtorEq, aInt, Nat.reduceEqDiff, initEnv, V.bool, V.i64, resultsOf, AR.get, aExtract, aUn, Int.reduceEq, Int.reduceBEq, Int.reduceBNe, aBox, aStore, aPart, aPlace, aArrAddr, aArrIdx, aIdx, aLenStr, aConv, aFold, aMinMax, aEqV, aNilCheck, fillV, aEqBool, aEqInt, aEqStr, Nat.reduceAdd, Nat.reduceLeDiff, Nat.reduceMul, Int.reduceLT, Int.reduceLE, Int.reduceToNat, Int.reduceGT, Int.reduceGE, Int.reduceNeg, Int.reduceAdd, Int.reduceSub, wrap64, chkAdd, effAdd, AOp.kind, chkAll, chkSee, Nat.reduceLT, zP.down, zQ.down]
end Go.Proofs.Ytjcobnjnjliehaa.sn
namespace Go.Proofs.Ytjcobnjnjliehaa.sn
open Go.Ab fr dk
set_option maxRecDepth 100000
set_option maxHeartbeats 8000000
set_option linter.unusedSimpArgs false
set_option linter.unusedVariables false
theorem strs_of {es : List (List V)} (h : ∀ e ∈ es, Arg .str e) : ∃ l : List (List UInt8), es = l.map sc1 := by
  induction es with
  | nil => exact ⟨[], rfl⟩
  | cons e es ih =>
    obtain ⟨l, hl⟩ := ih fun x hx => h x (List.mem_cons_of_mem _ hx)
    have h1 := h e List.mem_cons_self
    simp only [Arg] at h1
    obtain ⟨p, rfl, _⟩ := h1
    exact ⟨p :: l, by rw [hl]; rfl⟩
theorem kept_good (x : V) (w : ArgA (.sl .str) x) (p : Int) (wp : (Lit.int .i64 p).wf = true) (kv : V) (wk : ArgA (.sl (.int .i64)) kv) (n : Int) (_wn : (Lit.int .i64 n).wf = true) : good (callN Tab.tbl 9223372036854776000 5 [x, .sc (.int .i64 p), kv, .sc (.int .i64 n)] St.empty) = true := by
  obtain ⟨es, h1, h2, _, h4⟩ := rv_slA w
  obtain ⟨l, rfl⟩ := strs_of h2
  obtain ⟨es2, g1, g2, _, _⟩ := rv_slA wk
  obtain ⟨ks, rfl⟩ := ints_of g2
  obtain ⟨σ1, hw⟩ := works_ok
  have h5 : l.length * 16 ≤ 140737488351232 := by simpa [Ty.low, reachBytes] using h4
  exact call_turned Tab.turned (w_good (kept_run 9223372036854775990 St.empty x l p kv ks n h1 (by omega) g1 (wf64 wp).2 (by decide) σ1 hw))
end Go.Proofs.Ytjcobnjnjliehaa.sn
