/- Journals: frames, what a crash leaves (plain). Journals: what there is (plain). Journals: sends as bytes. Journals: what comes next, a send added. -/
import Derived.Test.YtehdjkikcfeiaaaGreatFrU
import Derived.Test.YtehdjkikcfeiaaaGreatDiskU
namespace Go.Proofs.YtehdjkikcfeiaaaGreat.jn
open Go.Ab fr dk
set_option maxRecDepth 100000
set_option maxHeartbeats 8000000
set_option linter.unusedSimpArgs false
set_option linter.unusedVariables false
theorem read_n {M : DM} (hp : M.power ≠ 0) {n : Nat} (hn : n < 32) : M.read (n : Int) = if (M.f n).seen.there = false then ([], 4) else ((M.f n).seen.s, 0) := by
 unfold DM.read
 have h0 : ¬ ((n : Int) < 0 ∨ 32 ≤ (n : Int)) := by omega
 rw [if_neg hp, if_neg h0, see_in (by omega) (by omega), Int.toNat_natCast]
def DM.dn (M : DM) : DM := { M with power := if 0 < M.power then M.power - 1 else M.power, ops := M.ops + 1 }
theorem change_y {M : DM} (hp : M.power ≠ 0) {f : Nat} (hf : f < 32) {c : Ch} (he : M.may f c = 0) : M.change f c = ((DM.dn M).upd f ((M.f f).add c), 0) := by
 have h0 : ¬ ((f : Int) < 0 ∨ 32 ≤ (f : Int)) := by omega
 unfold DM.change DM.step
 rw [if_neg hp, if_neg h0, he]
 simp only [ne_eq, not_true_eq_false, if_false, if_true, Int.toNat_natCast]
 rfl
theorem sync_y {M : DM} (hp : M.power ≠ 0) {f : Nat} (hf : f < 32) : M.sync f = ((DM.dn M).upd f ⟨(M.f f).seen, []⟩, 0) := by
 have h0 : ¬ ((f : Int) < 0 ∨ 32 ≤ (f : Int)) := by omega
 unfold DM.sync DM.step
 rw [if_neg hp, if_neg h0]
 simp only [ne_eq, not_true_eq_false, if_false, if_true, Int.toNat_natCast]
 rfl
end Go.Proofs.YtehdjkikcfeiaaaGreat.jn
namespace Go.Proofs.YtehdjkikcfeiaaaGreat.jn
open Go.Ab fr dk
set_option maxRecDepth 100000
set_option maxHeartbeats 8000000
set_option linter.unusedSimpArgs false
set_option linter.unusedVariables false
structure Tk where
 talk : Int
 term : Int
 ep : Int
 seq : Int
 tx : List UInt8
def tkc (x : Tk) : List V := [.sc (.int .i64 x.talk), .sc (.int .i64 x.term), .sc (.int .i64 x.ep), .sc (.int .i64 x.seq), .str x.tx]
def tbad (x : Tk) : Prop := x.talk < 1 ∨ x.talk > 1048576 ∨ x.term < 1 ∨ x.term > 1099511627776 ∨ x.ep < 1 ∨ x.ep > 1048576 ∨ x.seq < 1 ∨ x.seq > 1048576
instance (x : Tk) : Decidable (tbad x) := by unfold tbad; infer_instance
def tchk (x : Tk) : Int := if tbad x then 2 else if x.tx.length > 64 then 3 else 0
theorem tchk_0 {x : Tk} : tchk x = 0 ↔ ¬ tbad x ∧ x.tx.length ≤ 64 := by
 unfold tchk
 split
 · rename_i h; exact ⟨fun h => absurd h (by decide), fun h' => absurd h h'.1⟩
 · rename_i h
   split
   · exact ⟨fun h => absurd h (by decide), fun h' => absurd h'.2 (by omega)⟩
   · exact ⟨fun _ => ⟨h, by omega⟩, fun _ => rfl⟩
structure Nx where
 f : Int
 e : Int
 n : Int
def tst (t : Int) (a : Nx) (x : Tk) : Nx := if x.talk = t then ⟨x.term, x.ep, x.seq + 1⟩ else a
def tnx (l : List Tk) (t : Int) : Nx := l.foldl (tst t) ⟨0, 0, 1⟩
theorem tnx_snoc (l : List Tk) (t : Int) (x : Tk) : tnx (l ++ [x]) t = tst t (tnx l t) x := by simp [tnx]
def tabv (a : Nx) (x : Tk) : Prop := a.f > x.term ∨ (a.f = x.term ∧ a.e > x.ep)
instance (a : Nx) (x : Tk) : Decidable (tabv a x) := by unfold tabv; infer_instance
def tmay (l : List Tk) (x : Tk) : Int := if tchk x ≠ 0 then tchk x else if tabv (tnx l x.talk) x then 220 else if x.seq ≠ (tnx l x.talk).n then 221 else 0
theorem tmay_0 {l : List Tk} {x : Tk} (h : tmay l x = 0) : tchk x = 0 ∧ ¬ tabv (tnx l x.talk) x ∧ x.seq = (tnx l x.talk).n := by
 unfold tmay at h
 split at h
 · rename_i h1; exact absurd h h1
 · rename_i h1
   split at h
   · cases h
   · rename_i h2
     split at h
     · cases h
     · rename_i h3
       exact ⟨by omega, h2, by omega⟩
def tpay (x : Tk) : List UInt8 := be 8 x.talk.toNat ++ be 8 x.term.toNat ++ be 8 x.ep.toNat ++ be 8 x.seq.toNat ++ (be 4 x.tx.length ++ x.tx)
theorem tpay_len (x : Tk) : (tpay x).length = 36 + x.tx.length := by simp [tpay, be_len]; omega
def tkp (p : List UInt8) : Tk := ⟨(val (p.take 8) : Nat), (val ((p.drop 8).take 8) : Nat), (val ((p.drop 16).take 8) : Nat), (val ((p.drop 24).take 8) : Nat), p.drop 36⟩
def tokp (p : List UInt8) : Prop := 36 ≤ p.length ∧ val ((p.drop 32).take 4) + 36 = p.length ∧ tchk (tkp p) = 0
instance (p : List UInt8) : Decidable (tokp p) := by unfold tokp; infer_instance
def tok (p : List UInt8) : Bool := decide (tokp p)
def jgood (a : List Tk) (p : List UInt8) : Prop := tok p = true ∧ tmay a (tkp p) = 0
instance (a : List Tk) (p : List UInt8) : Decidable (jgood a p) := by unfold jgood; infer_instance
def jcnt (a : List Tk) : List (List UInt8) → Nat
 | [] => 0
 | p :: l => if jgood a p then 1 + jcnt (a ++ [tkp p]) l else 0
theorem jcnt_le : ∀ (l : List (List UInt8)) (a : List Tk), jcnt a l ≤ l.length
 | [], _ => Nat.le_refl _
 | p :: l, a => by
  unfold jcnt
  split
  · have := jcnt_le l (a ++ [tkp p]); simp only [List.length_cons]; omega
  · omega
theorem jcnt_at : ∀ (l : List (List UInt8)) (a : List Tk) (i : Nat), i ≤ l.length → (∀ j (h : j < l.length), j < i → jgood (a ++ (l.take j).map tkp) l[j]) → (i = l.length ∨ ∃ h : i < l.length, ¬ jgood (a ++ (l.take i).map tkp) l[i]) → jcnt a l = i
 | [], a, i, hi, _, _ => by simp at hi; subst hi; rfl
 | p :: l, a, 0, _, _, h2 => by
  unfold jcnt
  rw [if_neg]
  rcases h2 with h2 | ⟨_, h2⟩
  · simp at h2
  · simpa using h2
 | p :: l, a, i + 1, hi, h1, h2 => by
  have hp := h1 0 (by simp) (by omega)
  simp only [List.take_zero, List.map_nil, List.append_nil, List.getElem_cons_zero] at hp
  have r1 : ∀ j (h : j < l.length), j < i → jgood ((a ++ [tkp p]) ++ (l.take j).map tkp) l[j] := fun j hj hji => by
   have := h1 (j + 1) (by simp; omega) (by omega)
   simpa [List.append_assoc] using this
  have r2 : i = l.length ∨ ∃ h : i < l.length, ¬ jgood ((a ++ [tkp p]) ++ (l.take i).map tkp) l[i] := by
   rcases h2 with h2 | ⟨h, h2⟩
   · left; simpa using h2
   · right
     refine ⟨by simpa using h, ?_⟩
     simpa [List.append_assoc] using h2
  have r3 := jcnt_at l (a ++ [tkp p]) i (by simpa using hi) r1 r2
  unfold jcnt
  rw [if_pos hp, r3]
  omega
def jl (s : List UInt8) : List (List UInt8) := (scan s).take (jcnt [] (scan s))
theorem jl_eq {s : List UInt8} {i : Nat} (hi : i ≤ (scan s).length) (h1 : ∀ j (h : j < (scan s).length), j < i → jgood (((scan s).take j).map tkp) (scan s)[j]) (h2 : i = (scan s).length ∨ ∃ h : i < (scan s).length, ¬ jgood (((scan s).take i).map tkp) (scan s)[i]) : jl s = (scan s).take i := by
 unfold jl
 rw [jcnt_at (scan s) [] i hi (by simpa using h1) (by simpa using h2)]
def jopen (M : DM) : DM × List Tk × Int :=
 if (M.read 0).2 = 4 then (M, [], 0) else if (M.read 0).2 ≠ 0 then (M, [], (M.read 0).2)
 else if flen (jl (M.read 0).1) < (M.read 0).1.length then
  (if (M.change 0 ⟨2, [], flen (jl (M.read 0).1)⟩).2 ≠ 0 then ((M.change 0 ⟨2, [], flen (jl (M.read 0).1)⟩).1, [], (M.change 0 ⟨2, [], flen (jl (M.read 0).1)⟩).2)
  else (((M.change 0 ⟨2, [], flen (jl (M.read 0).1)⟩).1.sync 0).1, (jl (M.read 0).1).map tkp, ((M.change 0 ⟨2, [], flen (jl (M.read 0).1)⟩).1.sync 0).2))
 else (M, (jl (M.read 0).1).map tkp, 0)
theorem jopen_ok {M : DM} {B : Nat} (h : M.Ok B) : (jopen M).1.Ok (B + 2) := by
 have h1 := h.change (f := 0) (c := ⟨2, [], flen (jl (M.read 0).1)⟩) (.inr (.inl rfl))
 unfold jopen
 repeat' split
 all_goals first | exact h.more (by omega) | exact h1.more (by omega) | exact h1.sync _
def jadd (M : DM) (l : List Tk) (br : Int) (x : Tk) : DM × List Tk × Int × Int :=
 if br ≠ 0 then (M, l, br, br) else if tmay l x ≠ 0 then (M, l, 0, tmay l x)
 else if (M.change 0 ⟨1, fput (tpay x), 0⟩).2 ≠ 0 then ((M.change 0 ⟨1, fput (tpay x), 0⟩).1, l, (M.change 0 ⟨1, fput (tpay x), 0⟩).2, (M.change 0 ⟨1, fput (tpay x), 0⟩).2)
 else if ((M.change 0 ⟨1, fput (tpay x), 0⟩).1.sync 0).2 ≠ 0 then (((M.change 0 ⟨1, fput (tpay x), 0⟩).1.sync 0).1, l, ((M.change 0 ⟨1, fput (tpay x), 0⟩).1.sync 0).2, ((M.change 0 ⟨1, fput (tpay x), 0⟩).1.sync 0).2)
 else (((M.change 0 ⟨1, fput (tpay x), 0⟩).1.sync 0).1, l ++ [x], 0, 0)
theorem jadd_ok {M : DM} {B : Nat} (h : M.Ok B) (l : List Tk) (br : Int) (x : Tk) : (jadd M l br x).1.Ok (B + 2) := by
 have h1 := h.change (f := 0) (c := ⟨1, fput (tpay x), 0⟩) (.inl rfl)
 unfold jadd
 repeat' split
 all_goals first | exact h.more (by omega) | exact h1.more (by omega) | exact h1.sync _
end Go.Proofs.YtehdjkikcfeiaaaGreat.jn
namespace Go.Proofs.YtehdjkikcfeiaaaGreat.jn
open Go.Ab fr dk
set_option maxRecDepth 100000
set_option maxHeartbeats 8000000
set_option linter.unusedSimpArgs false
set_option linter.unusedVariables false
def Rd.end' (r : Rd) : Nat := if r.err ≠ 0 then r.err else if r.at' < r.s.length then 7 else 0
theorem end_ok (k : Nat) (ys : YlF) (σ : St) (o : Nat) (r : Rd) (h : fr.RR σ o r) :
  W (callY Tab.tb (k + 1) ys 68 [.ptr o 0] σ) fun q => ∃ b, q.1 = .agg [.sc (.int .i64 (Rd.end' r : Nat)), .sc (.int .i64 b)] ∧ Kept noX σ q.2 := by
 rw [s_call (af := Tab.b68) rfl (Nat.le_of_ble_eq_true rfl)]
 generalize callY Tab.tb k = cy
 unfold fr.RR at h
 unfold Rd.end'
 by_cases c1 : r.err = 0
 · have d1 : ((r.err : Int) != 0) = false := by simp [c1]
   rw [if_neg (by simp [c1])]
   by_cases c2 : r.at' < r.s.length
   · have d2 : decide ((r.at' : Int) < (r.s.length : Int)) = true := by simpa using c2
     rw [if_pos c2]
     simp -implicitDefEqProofs (disch := first | exact nbf rfl | exact nbt rfl | (simp only [zN.down, reduceCtorEq] <;> omega) | omega) only [Tab.b68, h, fr.pnil, d1, d2, XOp.kind, aArrAddr, AOp.kind, zP.down, zQ.down, zR.down, zS.down, simprocAttr]
     exact ⟨_, rfl, (Kept.refl _ _).bump⟩
   · have d2 : decide ((r.at' : Int) < (r.s.length : Int)) = false := by simpa using c2
     rw [if_neg c2]
     simp -implicitDefEqProofs (disch := first | exact nbf rfl | exact nbt rfl | (simp only [zN.down, reduceCtorEq] <;> omega) | omega) only [Tab.b68, h, fr.pnil, d1, d2, XOp.kind, aArrAddr, AOp.kind, zP.down, zQ.down, zR.down, zS.down, simprocAttr]
     exact ⟨_, rfl, (Kept.refl _ _).bump⟩
 · have d1 : ((r.err : Int) != 0) = true := by simp; omega
   rw [if_pos c1]
   simp -implicitDefEqProofs (disch := first | exact nbf rfl | exact nbt rfl | (simp only [zN.down, reduceCtorEq] <;> omega) | omega) only [Tab.b68, h, fr.pnil, d1, XOp.kind, aArrAddr, AOp.kind, zP.down, zQ.down, zR.down, zS.down, simprocAttr]
   exact ⟨_, rfl, (Kept.refl _ _).bump⟩
theorem fail_ok (k : Nat) (ys : YlF) (σ : St) (o : Nat) (r : Rd) (e at' : Nat) (h : fr.RR σ o r) (he : r.err = 0) :
  W (callY Tab.tb (k + 1) ys 91 [.ptr o 0, .sc (.int .i64 e), .sc (.int .i64 at')] σ) fun q => fr.RR q.2 o { r with err := e, bad := at' } ∧ Kept (· = o) σ q.2 := by
 rw [s_call (af := Tab.b91) rfl (Nat.le_of_ble_eq_true rfl)]
 generalize callY Tab.tb k = cy
 unfold fr.RR at h ⊢
 have gl := St.get_lt h
 have d1 : ((r.err : Int) == 0) = true := by simp [he]
 simp -implicitDefEqProofs (disch := first | exact nbf rfl | exact nbt rfl | (simp only [zN.down, reduceCtorEq] <;> omega) | omega) only [Tab.b91, h, fr.pnil, d1, XOp.kind, aArrAddr, AOp.kind, zP.down, zQ.down, zR.down, zS.down, simprocAttr]
 exact Kept.put (X := (· = o)) (Kept.refl _ _) (.inl rfl) gl _
theorem take_err (k : Nat) (ys : YlF) (σ : St) (o : Nat) (r : Rd) (n : Int) (h : fr.RR σ o r) (he : r.err ≠ 0) :
  callY Tab.tb (k + 1) ys 92 [.ptr o 0, .sc (.int .i64 n)] σ = some (.tup [.str [], .sc (.bool false)], σ) := by
 rw [s_call (af := Tab.b92) rfl (Nat.le_of_ble_eq_true rfl)]
 generalize callY Tab.tb k = cy
 unfold fr.RR at h
 have d1 : ((r.err : Int) != 0) = true := by simp; omega
 simp -implicitDefEqProofs (disch := first | exact nbf rfl | exact nbt rfl | (simp only [zN.down, reduceCtorEq] <;> omega) | omega) only [Tab.b92, h, fr.pnil, d1, XOp.kind, aArrAddr, AOp.kind, zP.down, zQ.down, zR.down, zS.down, simprocAttr]
def Rd.has (r : Rd) : Prop := r.err = 0 ∧ 4 ≤ r.s.length - r.at' ∧ val ((r.s.drop r.at').take 4) ≤ 64 ∧ val ((r.s.drop r.at').take 4) + 4 ≤ r.s.length - r.at'
def Rd.tx (r : Rd) : List UInt8 := (r.s.drop (r.at' + 4)).take (val ((r.s.drop r.at').take 4))
theorem text_ok (k : Nat) (ys : YlF) (σ : St) (o : Nat) (r : Rd) (h : fr.RR σ o r) (hl : r.s.length ≤ 1048576) (ha : r.at' ≤ r.s.length) (hk : 20 ≤ k) :
  W (callY Tab.tb (k + 4) ys 67 [.ptr o 0, .sc (.int .i64 64)] σ) fun q => ∃ s r', q.1 = .str s ∧ fr.RR q.2 o r' ∧ r'.s = r.s ∧ Kept (· = o) σ q.2 ∧ (Rd.has r → s = Rd.tx r ∧ r' = { r with at' := r.at' + 4 + val ((r.s.drop r.at').take 4) }) ∧ (¬ Rd.has r → r'.err ≠ 0) := by
 rw [s_call (af := Tab.b67) rfl (Nat.le_of_ble_eq_true rfl)]
 have hu := fun σ r h hl ha => ru32_ok k ys σ o r h hl ha hk
 have htk := fun σ r n h hl ha hn => take_ok (k + 2) ys σ o r n h hl ha hn
 have htke := fun σ r n h he => take_err (k + 2) ys σ o r n h he
 have hfl := fun σ r e a h he => fail_ok (k + 2) ys σ o r e a h he
 generalize callY Tab.tb (k + 3) = cy at hu htk htke hfl ⊢
 have g := h
 unfold fr.RR at g
 simp -implicitDefEqProofs (disch := first | exact nbf rfl | exact nbt rfl | (simp only [zN.down, reduceCtorEq] <;> omega) | omega) only [Tab.b67, g, fr.pnil, XOp.kind, aArrAddr, AOp.kind, zP.down, zQ.down, zR.down, zS.down, simprocAttr]
 repeat first | apply w_fin | apply w_seq | apply w_block | apply w_reg | apply w_op | apply w_dop
 refine (hu σ r h (by omega) ha).mono ?_
 rintro ⟨_, σ1⟩ ⟨rfl, h1, k1⟩
 dsimp only at h1 k1
 have hlt := num_lt r 4
 have w1 : IntKind.i64.wrap (r.num 4 : Int) = (r.num 4 : Nat) := wrap64 (by omega) (by omega)
 have hs1 := Rd.go_s r 4
 have ha1 := Rd.go_le ha 4
 have hnum : r.num 4 = if r.err ≠ 0 ∨ r.s.length - r.at' < 4 then 0 else val ((r.s.drop r.at').take 4) := rfl
 have hgo : r.go 4 = if r.err ≠ 0 then r else if r.s.length - r.at' < 4 then { r with err := 7, bad := r.at' } else { r with at' := r.at' + 4 } := rfl
 generalize r.num 4 = n at *
 generalize hr1 : r.go 4 = r1 at *
 have g1 := h1
 unfold fr.RR at g1
 by_cases c1 : r1.err = 0
 · have d1 : ((r1.err : Int) == 0) = true := by simp [c1]
   have c0 : r.err = 0 := by
    by_cases c : r.err = 0
    · exact c
    · rw [if_pos c] at hgo; rw [hgo] at c1; exact c1
   rw [if_neg (by simp [c0])] at hgo
   have c4 : ¬ r.s.length - r.at' < 4 := by
    intro c; rw [if_pos c] at hgo; rw [hgo] at c1; cases c1
   rw [if_neg c4] at hgo
   rw [if_neg (by omega)] at hnum
   have hat : r1.at' = r.at' + 4 := by rw [hgo]
   by_cases c2 : n > 64
   · have d2 : decide ((n : Int) > 64) = true := by simp; omega
     simp -implicitDefEqProofs (disch := first | exact nbf rfl | exact nbt rfl | (simp only [zN.down, reduceCtorEq] <;> omega) | omega) only [w1, g1, d1, d2, XOp.kind, AOp.kind, zU.down, simprocAttr]
     repeat first | apply w_fin | apply w_seq | apply w_block | apply w_reg | apply w_op | apply w_dop
     refine (hfl σ1 r1 3 r.at' h1 c1).mono ?_
     rintro ⟨_, σ2⟩ ⟨h2, k2⟩
     dsimp only at h2 k2
     have te := htke σ2 { r1 with err := 3, bad := r.at' } n h2 (by dsimp only; decide)
     unfold fr.RR at h2
     dsimp only at h2
     have gl2 := St.get_lt h2
     have d3 : decide ((r1.at' : Int) > (r.at' : Int)) = true := by simp; omega
     simp -implicitDefEqProofs (disch := first | exact nbf rfl | exact nbt rfl | (simp only [zN.down, reduceCtorEq] <;> omega) | omega) only [te, h2, d3, XOp.kind, AOp.kind, zU.down, simprocAttr]
     refine ⟨[], ⟨r1.s, r.at', 3, r.at'⟩, rfl, ?_, hs1, ?_, fun hh => ?_, fun _ => by dsimp only; decide⟩
     · unfold fr.RR
       simp -implicitDefEqProofs (disch := first | exact nbf rfl | exact nbt rfl | (simp only [zN.down, reduceCtorEq] <;> omega) | omega) only [XOp.kind, AOp.kind, zU.down, simprocAttr]
     · exact ((k1.trans k2).put (.inl rfl) gl2 _).put (.inl rfl) (by simp; exact gl2) _
     · exact absurd hh.2.2.1 (by omega)
   · have d2 : decide ((n : Int) > 64) = false := by simp; omega
     have hl1 : r1.s.length ≤ 1048576 := by rw [hs1]; exact hl
     simp -implicitDefEqProofs (disch := first | exact nbf rfl | exact nbt rfl | (simp only [zN.down, reduceCtorEq] <;> omega) | omega) only [w1, g1, d1, d2, XOp.kind, AOp.kind, zU.down, simprocAttr]
     repeat first | apply w_fin | apply w_seq | apply w_block | apply w_reg | apply w_op | apply w_dop
     refine (htk σ1 r1 n h1 (by omega) ha1 (by omega)).mono ?_
     rintro ⟨_, σ2⟩ ⟨rfl, h2, k2⟩
     dsimp only at h2 k2
     by_cases c3 : r1.s.length - r1.at' < n
     · have hg2 : r1.go n = { r1 with err := 7, bad := r1.at' } := by unfold Rd.go; rw [if_neg (by omega), if_pos c3]
       rw [hg2] at h2
       unfold fr.RR at h2
       dsimp only at h2
       have gl2 := St.get_lt h2
       have d3 : decide ((r1.at' : Int) > (r.at' : Int)) = true := by simp; omega
       rw [if_pos (.inr c3)]
       simp -implicitDefEqProofs (disch := first | exact nbf rfl | exact nbt rfl | (simp only [zN.down, reduceCtorEq] <;> omega) | omega) only [h2, d3, XOp.kind, AOp.kind, zU.down, simprocAttr]
       refine ⟨[], ⟨r1.s, r.at', 7, r.at'⟩, rfl, ?_, hs1, ?_, fun hh => ?_, fun _ => by dsimp only; decide⟩
       · unfold fr.RR
         simp -implicitDefEqProofs (disch := first | exact nbf rfl | exact nbt rfl | (simp only [zN.down, reduceCtorEq] <;> omega) | omega) only [XOp.kind, AOp.kind, zU.down, simprocAttr]
       · exact ((k1.trans k2).put (.inl rfl) gl2 _).put (.inl rfl) (by simp; exact gl2) _
       · have := hh.2.2.2
         rw [hs1, hat] at c3
         omega
     · have hg2 : r1.go n = { r1 with at' := r1.at' + n } := by unfold Rd.go; rw [if_neg (by omega), if_neg c3]
       rw [hg2] at h2
       rw [if_neg (by omega)]
       have hh : Rd.has r := ⟨c0, by omega, by omega, by rw [hs1, hat] at c3; omega⟩
       simp -implicitDefEqProofs (disch := first | exact nbf rfl | exact nbt rfl | (simp only [zN.down, reduceCtorEq] <;> omega) | omega) only [XOp.kind, AOp.kind, zU.down, simprocAttr]
       refine ⟨_, _, rfl, h2, hs1, k1.trans k2, fun _ => ⟨?_, ?_⟩, fun hn => absurd hh hn⟩
       · unfold Rd.tx
         rw [hs1, hat, hnum]
       · rw [hgo, hnum]
 · have d1 : ((r1.err : Int) == 0) = false := by simp; omega
   have te := htke σ1 r1 n h1 c1
   have hat : r1.at' = r.at' := by
    by_cases c : r.err = 0
    · rw [if_neg (by simp [c])] at hgo
      by_cases c4 : r.s.length - r.at' < 4
      · rw [if_pos c4] at hgo; rw [hgo]
      · rw [if_neg c4] at hgo; rw [hgo] at c1; exact absurd c c1
    · rw [if_pos c] at hgo; rw [hgo]
   have d3 : decide ((r1.at' : Int) > (r.at' : Int)) = false := by simp; omega
   simp -implicitDefEqProofs (disch := first | exact nbf rfl | exact nbt rfl | (simp only [zN.down, reduceCtorEq] <;> omega) | omega) only [w1, g1, d1, te, d3, XOp.kind, AOp.kind, zU.down, simprocAttr]
   refine ⟨[], r1, rfl, h1, hs1, k1, fun hh => ?_, fun _ => c1⟩
   obtain ⟨q1, q2, _, _⟩ := hh
   rw [if_neg (by simp [q1]), if_neg (by omega)] at hgo
   rw [hgo] at c1
   exact absurd q1 c1
theorem check_ok (k : Nat) (ys : YlF) (σ : St) (x : Tk) : callY Tab.tb (k + 1) ys 69 [.agg (tkc x)] σ = some (.sc (.int .i64 (tchk x)), σ.bump) := by
 rw [s_call (af := Tab.b69) rfl (Nat.le_of_ble_eq_true rfl)]
 generalize callY Tab.tb k = cy
 rcases x with ⟨a, b, c, d, t⟩
 unfold tkc tchk
 dsimp only
 by_cases c1 : a < 1
 · have d1 : decide (a < 1) = true := by simpa using c1
   rw [if_pos (show tbad ⟨a, b, c, d, t⟩ by unfold tbad; dsimp only; omega)]
   simp -implicitDefEqProofs (disch := first | exact nbf rfl | exact nbt rfl | (simp only [zN.down, reduceCtorEq] <;> omega) | omega) only [Tab.b69, d1, XOp.kind, AOp.kind, zU.down, simprocAttr]
 have d1 : decide (a < 1) = false := by simpa using c1
 by_cases c2 : a > 1048576
 · have d2 : decide (a > 1048576) = true := by simpa using c2
   rw [if_pos (show tbad ⟨a, b, c, d, t⟩ by unfold tbad; dsimp only; omega)]
   simp -implicitDefEqProofs (disch := first | exact nbf rfl | exact nbt rfl | (simp only [zN.down, reduceCtorEq] <;> omega) | omega) only [Tab.b69, d1, d2, XOp.kind, AOp.kind, zU.down, simprocAttr]
 have d2 : decide (a > 1048576) = false := by simpa using c2
 by_cases c3 : b < 1
 · have d3 : decide (b < 1) = true := by simpa using c3
   rw [if_pos (show tbad ⟨a, b, c, d, t⟩ by unfold tbad; dsimp only; omega)]
   simp -implicitDefEqProofs (disch := first | exact nbf rfl | exact nbt rfl | (simp only [zN.down, reduceCtorEq] <;> omega) | omega) only [Tab.b69, d1, d2, d3, XOp.kind, AOp.kind, zU.down, simprocAttr]
 have d3 : decide (b < 1) = false := by simpa using c3
 by_cases c4 : b > 1099511627776
 · have d4 : decide (b > 1099511627776) = true := by simpa using c4
   rw [if_pos (show tbad ⟨a, b, c, d, t⟩ by unfold tbad; dsimp only; omega)]
   simp -implicitDefEqProofs (disch := first | exact nbf rfl | exact nbt rfl | (simp only [zN.down, reduceCtorEq] <;> omega) | omega) only [Tab.b69, d1, d2, d3, d4, XOp.kind, AOp.kind, zU.down, simprocAttr]
 have d4 : decide (b > 1099511627776) = false := by simpa using c4
 by_cases c5 : c < 1
 · have d5 : decide (c < 1) = true := by simpa using c5
   rw [if_pos (show tbad ⟨a, b, c, d, t⟩ by unfold tbad; dsimp only; omega)]
   simp -implicitDefEqProofs (disch := first | exact nbf rfl | exact nbt rfl | (simp only [zN.down, reduceCtorEq] <;> omega) | omega) only [Tab.b69, d1, d2, d3, d4, d5, XOp.kind, AOp.kind, zU.down, simprocAttr]
 have d5 : decide (c < 1) = false := by simpa using c5
 by_cases c6 : c > 1048576
 · have d6 : decide (c > 1048576) = true := by simpa using c6
   rw [if_pos (show tbad ⟨a, b, c, d, t⟩ by unfold tbad; dsimp only; omega)]
   simp -implicitDefEqProofs (disch := first | exact nbf rfl | exact nbt rfl | (simp only [zN.down, reduceCtorEq] <;> omega) | omega) only [Tab.b69, d1, d2, d3, d4, d5, d6, XOp.kind, AOp.kind, zU.down, simprocAttr]
 have d6 : decide (c > 1048576) = false := by simpa using c6
 by_cases c7 : d < 1
 · have d7 : decide (d < 1) = true := by simpa using c7
   rw [if_pos (show tbad ⟨a, b, c, d, t⟩ by unfold tbad; dsimp only; omega)]
   simp -implicitDefEqProofs (disch := first | exact nbf rfl | exact nbt rfl | (simp only [zN.down, reduceCtorEq] <;> omega) | omega) only [Tab.b69, d1, d2, d3, d4, d5, d6, d7, XOp.kind, AOp.kind, zU.down, simprocAttr]
 have d7 : decide (d < 1) = false := by simpa using c7
 by_cases c8 : d > 1048576
 · have d8 : decide (d > 1048576) = true := by simpa using c8
   rw [if_pos (show tbad ⟨a, b, c, d, t⟩ by unfold tbad; dsimp only; omega)]
   simp -implicitDefEqProofs (disch := first | exact nbf rfl | exact nbt rfl | (simp only [zN.down, reduceCtorEq] <;> omega) | omega) only [Tab.b69, d1, d2, d3, d4, d5, d6, d7, d8, XOp.kind, AOp.kind, zU.down, simprocAttr]
 have d8 : decide (d > 1048576) = false := by simpa using c8
 rw [if_neg (show ¬ tbad ⟨a, b, c, d, t⟩ by unfold tbad; dsimp only; omega)]
 by_cases c9 : t.length > 64
 · have d9 : decide ((t.length : Int) > 64) = true := by simp; omega
   rw [if_pos c9]
   simp -implicitDefEqProofs (disch := first | exact nbf rfl | exact nbt rfl | (simp only [zN.down, reduceCtorEq] <;> omega) | omega) only [Tab.b69, d1, d2, d3, d4, d5, d6, d7, d8, d9, XOp.kind, AOp.kind, zU.down, simprocAttr]
 · have d9 : decide ((t.length : Int) > 64) = false := by simp; omega
   rw [if_neg c9]
   simp -implicitDefEqProofs (disch := first | exact nbf rfl | exact nbt rfl | (simp only [zN.down, reduceCtorEq] <;> omega) | omega) only [Tab.b69, d1, d2, d3, d4, d5, d6, d7, d8, d9, XOp.kind, AOp.kind, zU.down, simprocAttr]
theorem above_ok (k : Nat) (ys : YlF) (σ : St) (a : Nx) (x : Tk) : callY Tab.tb (k + 1) ys 30 [.agg [.sc (.int .i64 a.f), .sc (.int .i64 a.e)], .agg [.sc (.int .i64 x.term), .sc (.int .i64 x.ep)]] σ = some (.sc (.bool (decide (tabv a x))), σ.bump.bump) := by
 rw [s_call (af := Tab.b30) rfl (Nat.le_of_ble_eq_true rfl)]
 generalize callY Tab.tb k = cy
 unfold tabv
 by_cases c1 : a.f > x.term
 · have d1 : decide (a.f > x.term) = true := by simpa using c1
   have : decide (a.f > x.term ∨ (a.f = x.term ∧ a.e > x.ep)) = true := decide_eq_true (.inl c1)
   rw [this]
   simp -implicitDefEqProofs (disch := first | exact nbf rfl | exact nbt rfl | (simp only [zN.down, reduceCtorEq] <;> omega) | omega) only [Tab.b30, d1, XOp.kind, AOp.kind, zU.down, simprocAttr]
 have d1 : decide (a.f > x.term) = false := by simpa using c1
 by_cases c2 : a.f = x.term
 · have d2 := beq_iff_eq.2 c2
   have : decide (a.f > x.term ∨ (a.f = x.term ∧ a.e > x.ep)) = decide (a.e > x.ep) := by
    congr 1; simp only [eq_iff_iff]; omega
   rw [this]
   simp -implicitDefEqProofs (disch := first | exact nbf rfl | exact nbt rfl | (simp only [zN.down, reduceCtorEq] <;> omega) | omega) only [Tab.b30, d1, d2, XOp.kind, AOp.kind, zU.down, simprocAttr]
 · have d2 := beq_eq_false_iff_ne.2 c2
   have : decide (a.f > x.term ∨ (a.f = x.term ∧ a.e > x.ep)) = false := decide_eq_false (by omega)
   rw [this]
   simp -implicitDefEqProofs (disch := first | exact nbf rfl | exact nbt rfl | (simp only [zN.down, reduceCtorEq] <;> omega) | omega) only [Tab.b30, d1, d2, XOp.kind, AOp.kind, zU.down, simprocAttr]
theorem wtext_ok (k : Nat) (ys : YlF) (σ : St) (s : List UInt8) (hs : s.length ≤ 64) : callY Tab.tb (k + 2) ys 94 [.str s] σ = some (.tup [.str (be 4 s.length ++ s), .sc (.int .i64 0)], σ) := by
 rw [s_call (af := Tab.b94) rfl (Nat.le_of_ble_eq_true rfl)]
 have e1 := u32_ok k ys σ s.length (by omega)
 generalize callY Tab.tb (k + 1) = cy at e1 ⊢
 have d1 : decide ((s.length : Int) > 1048576) = false := by simp; omega
 have w1 : IntKind.u32.wrap (s.length : Int) = (s.length : Nat) := wrap_u32 (by omega)
 have a1 := str_add (a := be 4 s.length) (b := s) (by rw [be_len]; omega)
 simp -implicitDefEqProofs (disch := first | exact nbf rfl | exact nbt rfl | (simp only [zN.down, reduceCtorEq] <;> omega) | omega) only [Tab.b94, d1, w1, e1, a1, XOp.kind, AOp.kind, zU.down, simprocAttr]
theorem encode_ok (k : Nat) (ys : YlF) (σ : St) (x : Tk) (hx : tchk x = 0) (hk : 5000 ≤ k) :
  W (callY Tab.tb (k + 5) ys 81 [.agg (tkc x)] σ) fun r => r.1 = .str (fput (tpay x)) ∧ Kept noX σ r.2 := by
 rw [s_call (af := Tab.b81) rfl (Nat.le_of_ble_eq_true rfl)]
 have htx := fun σ s hs => wtext_ok (k + 2) ys σ s hs
 have h64 := fun σ n hn => u64_ok (k + 2) ys σ n hn
 have hp := fun σ p hp => fr.put_ok k ys σ p hp (by omega)
 generalize callY Tab.tb (k + 4) = cy at htx h64 hp ⊢
 have hl := tpay_len x
 obtain ⟨h1, h2⟩ := tchk_0.1 hx
 rcases x with ⟨a, b, c, d, t⟩
 unfold tbad at h1
 unfold tpay at hl ⊢
 unfold tkc
 dsimp only at h1 h2 hl ⊢
 obtain ⟨a, rfl⟩ : ∃ n : Nat, a = n := ⟨a.toNat, by omega⟩
 obtain ⟨b, rfl⟩ : ∃ n : Nat, b = n := ⟨b.toNat, by omega⟩
 obtain ⟨c, rfl⟩ : ∃ n : Nat, c = n := ⟨c.toNat, by omega⟩
 obtain ⟨d, rfl⟩ : ∃ n : Nat, d = n := ⟨d.toNat, by omega⟩
 simp only [Int.toNat_natCast] at hl ⊢
 have u1 : IntKind.u64.wrap (a : Int) = (a : Nat) := wrap_u64 (by omega)
 have u2 : IntKind.u64.wrap (b : Int) = (b : Nat) := wrap_u64 (by omega)
 have u3 : IntKind.u64.wrap (c : Int) = (c : Nat) := wrap_u64 (by omega)
 have u4 : IntKind.u64.wrap (d : Int) = (d : Nat) := wrap_u64 (by omega)
 have e0 := fun σ => htx σ t h2
 have e1 := fun σ => h64 σ a (by omega)
 have e2 := fun σ => h64 σ b (by omega)
 have e3 := fun σ => h64 σ c (by omega)
 have e4 := fun σ => h64 σ d (by omega)
 have s1 := str_add (a := be 8 a) (b := be 8 b) (by simp [be_len])
 have s2 := str_add (a := be 8 a ++ be 8 b) (b := be 8 c) (by simp [be_len])
 have s3 := str_add (a := be 8 a ++ be 8 b ++ be 8 c) (b := be 8 d) (by simp [be_len])
 have s4 := str_add (a := be 8 a ++ be 8 b ++ be 8 c ++ be 8 d) (b := be 4 t.length ++ t) (by simp [be_len]; omega)
 generalize be 4 t.length ++ t = z at *
 simp -implicitDefEqProofs (disch := first | exact nbf rfl | exact nbt rfl | (simp only [zN.down, reduceCtorEq] <;> omega) | omega) only [Tab.b81, e0, e1, e2, e3, e4, u1, u2, u3, u4, s1, s2, s3, s4, XOp.kind, AOp.kind, zU.down, simprocAttr]
 repeat first | apply w_fin | apply w_seq | apply w_block | apply w_reg | apply w_op | apply w_dop
 refine (hp _ (be 8 a ++ be 8 b ++ be 8 c ++ be 8 d ++ z) (by omega)).mono ?_
 rintro ⟨_, σ1⟩ ⟨rfl, k1⟩
 simp -implicitDefEqProofs (disch := first | exact nbf rfl | exact nbt rfl | (simp only [zN.down, reduceCtorEq] <;> omega) | omega) only [XOp.kind, AOp.kind, zU.down, simprocAttr]
 exact (Kept.refl _ _).bump.trans k1
def rdn (p : List UInt8) : Nat → Rd
 | 0 => ⟨p, 0, 0, 0⟩
 | i + 1 => (rdn p i).go 8
def rdv (p : List UInt8) (j : Nat) : Nat := min ((rdn p j).num 8) 1099511627777
def nn (p : List UInt8) (i : Nat) : List V := (List.range 4).map fun j => .sc (.int .i64 ((if j < i then rdv p j else 0 : Nat) : Int))
theorem nn_set {p : List UInt8} {i : Nat} (h : i < 4) : (nn p i).set i (.sc (.int .i64 (rdv p i : Nat))) = nn p (i + 1) := by
 match i with
 | 0 => rfl
 | 1 => rfl
 | 2 => rfl
 | 3 => rfl
theorem rdn_s (p : List UInt8) : ∀ i, (rdn p i).s = p
 | 0 => rfl
 | i + 1 => (Rd.go_s _ _).trans (rdn_s p i)
theorem rdn_le (p : List UInt8) : ∀ i, (rdn p i).at' ≤ (rdn p i).s.length
 | 0 => Nat.zero_le _
 | i + 1 => Rd.go_le (rdn_le p i) 8
theorem rdn_is (p : List UInt8) : ∀ i, (8 * i ≤ p.length ∧ rdn p i = ⟨p, 8 * i, 0, 0⟩) ∨ (p.length < 8 * i ∧ (rdn p i).err ≠ 0)
 | 0 => .inl ⟨by omega, rfl⟩
 | i + 1 => by
  rcases rdn_is p i with ⟨h1, h2⟩ | ⟨h1, h2⟩
  · show (_ ∧ (rdn p i).go 8 = _) ∨ (_ ∧ ((rdn p i).go 8).err ≠ 0)
    rw [h2]
    unfold Rd.go
    rw [if_neg (by simp)]
    by_cases h : p.length - 8 * i < 8
    · right
      rw [if_pos (by simpa using h)]
      exact ⟨by omega, by simp⟩
    · left
      rw [if_neg (by simpa using h)]
      exact ⟨by omega, by simp only [Rd.mk.injEq, and_true, true_and]; omega⟩
  · right
    refine ⟨by omega, ?_⟩
    show ((rdn p i).go 8).err ≠ 0
    unfold Rd.go
    rw [if_pos h2]
    exact h2
theorem rdv_is {p : List UInt8} {j : Nat} (h : 8 * j + 8 ≤ p.length) : rdv p j = min (val ((p.drop (8 * j)).take 8)) 1099511627777 := by
 unfold rdv
 rcases rdn_is p j with ⟨h1, h2⟩ | ⟨h1, _⟩
 · rw [h2]
   unfold Rd.num
   rw [if_neg (by simp only [ne_eq, not_true_eq_false, false_or]; omega)]
 · omega
def xof (p s : List UInt8) : Tk := ⟨(rdv p 0 : Nat), (rdv p 1 : Nat), (rdv p 2 : Nat), (rdv p 3 : Nat), s⟩
theorem xof_ok {p : List UInt8} (h : 36 ≤ p.length) : (tchk (xof p (p.drop 36)) = 0 ↔ tchk (tkp p) = 0) ∧ (tchk (tkp p) = 0 → xof p (p.drop 36) = tkp p) := by
 have e0 := rdv_is (p := p) (j := 0) (by omega)
 have e1 := rdv_is (p := p) (j := 1) (by omega)
 have e2 := rdv_is (p := p) (j := 2) (by omega)
 have e3 := rdv_is (p := p) (j := 3) (by omega)
 simp only [Nat.mul_zero, List.drop_zero, Nat.mul_one, (show 8 * 2 = 16 from rfl), (show 8 * 3 = 24 from rfl)] at e0 e1 e2 e3
 unfold xof tkp
 rw [e0, e1, e2, e3]
 generalize val (p.take 8) = a
 generalize val ((p.drop 8).take 8) = b
 generalize val ((p.drop 16).take 8) = c
 generalize val ((p.drop 24).take 8) = d
 rw [tchk_0, tchk_0]
 unfold tbad
 dsimp only
 refine ⟨by omega, fun h => ?_⟩
 simp only [Tk.mk.injEq, and_true]
 omega
theorem decode_ok (k : Nat) (ys : YlF) (σ : St) (p : List UInt8) (hp : p.length ≤ 1048576) (hk : 20 ≤ k) :
  W (callY Tab.tb (k + 5) ys 43 [.str p] σ) fun r => ∃ x, r.1 = .tup [.agg (tkc x), .sc (.bool (tok p))] ∧ (tok p = true → x = tkp p) ∧ Kept noX σ r.2 := by
 rw [s_call (af := Tab.b43) rfl (Nat.le_of_ble_eq_true rfl)]
 have hnew := fun σ => rnew_ok (k + 3) ys σ p
 have h64 := fun σ o r h hl ha => ru64_ok (k + 1) ys σ o r h hl ha (by omega)
 have htx := fun σ o r h hl ha => text_ok k ys σ o r h hl ha hk
 have hend := fun σ o r h => end_ok (k + 3) ys σ o r h
 have hch := fun σ x => check_ok (k + 3) ys σ x
 generalize callY Tab.tb (k + 4) = cy at hnew h64 htx hend hch ⊢
 simp -implicitDefEqProofs (disch := first | exact nbf rfl | exact nbt rfl | (simp only [zN.down, reduceCtorEq] <;> omega) | omega) only [Tab.b43, hnew, XOp.kind, AOp.kind, zU.down, simprocAttr]
 repeat first | apply w_fin | apply w_seq | apply w_block | apply w_reg | apply w_op | apply w_dop
 have r0 := RR.new σ.bump p
 have hb1 : (σ.bump.push (.cells [.str p, .sc (.int .i64 0), .sc (.int .i64 0), .sc (.int .i64 0)])).n = σ.bump.n + 1 := by simp
 have k1 : Kept noX σ ((σ.bump.push (.cells [.str p, .sc (.int .i64 0), .sc (.int .i64 0), .sc (.int .i64 0)])).push (.cells (nn p 0))) := ((Kept.refl noX σ).bump.push _).push _
 have r1 : fr.RR ((σ.bump.push (.cells [.str p, .sc (.int .i64 0), .sc (.int .i64 0), .sc (.int .i64 0)])).push (.cells (nn p 0))) (σ.n + 1) (rdn p 0) := by
  have := get_push_lt (x := .cells (nn p 0)) r0
  simpa [fr.RR, rdn] using this
 have gx : ((σ.bump.push (.cells [.str p, .sc (.int .i64 0), .sc (.int .i64 0), .sc (.int .i64 0)])).push (.cells (nn p 0))).get (σ.n + 2) = some (.cells (nn p 0)) := get_push_eq (by simp)
 have hn0 : [V.sc (.int .i64 0), .sc (.int .i64 0), .sc (.int .i64 0), .sc (.int .i64 0)] = nn p 0 := rfl
 rw [hn0]
 generalize ((σ.bump.push (.cells [.str p, .sc (.int .i64 0), .sc (.int .i64 0), .sc (.int .i64 0)])).push (.cells (nn p 0))) = σ1 at *
 refine W.mono (Q := fun q => ∃ (ρ : Env) (σ' : St), q = ((.exit 0 : Ex), ρ, σ') ∧ ρ 4 = .ptr (σ.n + 1) 0 ∧ ρ 5 = .ptr (σ.n + 2) 0 ∧ ρ 2 = .agg [.sc (.int .i64 0), .sc (.int .i64 0), .sc (.int .i64 0), .sc (.int .i64 0), .str []] ∧ fr.RR σ' (σ.n + 1) (rdn p 4) ∧ σ'.get (σ.n + 2) = some (.cells (nn p 4)) ∧ Kept noX σ σ') ?_ ?_
 · refine w_loop (fun m ρ σ' => ∃ i, m = 4 - i ∧ i ≤ 4 ∧ ρ 4 = .ptr (σ.n + 1) 0 ∧ ρ 5 = .ptr (σ.n + 2) 0 ∧ ρ 2 = .agg [.sc (.int .i64 0), .sc (.int .i64 0), .sc (.int .i64 0), .sc (.int .i64 0), .str []] ∧ ρ 10 = .sc (.int .i64 (i : Nat)) ∧ fr.RR σ' (σ.n + 1) (rdn p i) ∧ σ'.get (σ.n + 2) = some (.cells (nn p i)) ∧ Kept noX σ σ') 4 (by omega) ?_ ?_
   · refine ⟨0, rfl, Nat.zero_le _, ?_, ?_, ?_, ?_, r1, gx, k1⟩
     all_goals first | rfl | (simp -implicitDefEqProofs (disch := first | exact nbf rfl | exact nbt rfl | (simp only [zN.down, reduceCtorEq] <;> omega) | omega) only [XOp.kind, AOp.kind, zU.down, simprocAttr]; done) | (simp -implicitDefEqProofs (disch := first | exact nbf rfl | exact nbt rfl | (simp only [zN.down, reduceCtorEq] <;> omega) | omega) only [XOp.kind, AOp.kind, zU.down, simprocAttr]; rfl)
   · rintro m ρ σ' ⟨i, hm, hi, e4, e5, e2, e10, hr, hx, kp⟩
     by_cases hl : i < 4
     · have c1 : decide ((i : Int) < 4) = true := by simp; omega
       simp -implicitDefEqProofs (disch := first | exact nbf rfl | exact nbt rfl | (simp only [zN.down, reduceCtorEq] <;> omega) | omega) only [c1, e4, e5, e10, XOp.kind, AOp.kind, zU.down, simprocAttr]
       repeat first | apply w_fin | apply w_seq | apply w_block | apply w_reg | apply w_op | apply w_dop
       refine (h64 σ' (σ.n + 1) (rdn p i) hr (by rw [rdn_s]; omega) (rdn_le p i)).mono ?_
       rintro ⟨_, σ2⟩ ⟨rfl, hr2, k2⟩
       dsimp only at hr2 k2
       have hx2 := k2.get _ _ (by omega) hx
       have gl := St.get_lt hx2
       have mm : ∀ n : Nat, (if (1099511627777 : Int) < (n : Int) then (1099511627777 : Int) else (n : Int)) = ((min n 1099511627777 : Nat) : Int) := fun n => by split <;> omega
       have hv : min ((rdn p i).num 8) 1099511627777 = rdv p i := rfl
       have hvl : rdv p i ≤ 1099511627777 := by rw [← hv]; omega
       have w1 : IntKind.i64.wrap ((rdv p i : Nat) : Int) = ((rdv p i : Nat) : Int) := wrap64 (by omega) (by omega)
       have w2 : IntKind.i64.wrap ((i : Int) + 1) = ((i + 1 : Nat) : Int) := wrap64 (by omega) (by omega)
       have ha : aArrAddr 4 1 (.ptr (σ.n + 2) 0) (.sc (.int .i64 i)) = some (.ptr (σ.n + 2) i) := by
        have := arr_ok (o := σ.n + 2) (off := 0) (len := 4) (sz := 1) (i := i) hl
        simpa using this
       have hlen : (i + 1 ≤ (nn p i).length) = True := by simp only [eq_iff_iff, iff_true]; simp [nn]; omega
       have hs := (splice1 (x := .sc (.int .i64 (rdv p i : Nat))) (show i < (nn p i).length by simp [nn]; omega)).trans (nn_set (p := p) hl)
       generalize (rdn p i).num 8 = n at *
       simp -implicitDefEqProofs (disch := first | exact nbf rfl | exact nbt rfl | (simp only [zN.down, reduceCtorEq] <;> omega) | omega) only [e4, e5, e10, mm, hv, w1, w2, ha, hx2, hlen, hs, XOp.kind, aEqV, AOp.kind, zP.down, zQ.down, zR.down, zS.down, simprocAttr]
       refine ⟨4 - (i + 1), by omega, i + 1, rfl, hl, e2, rfl, ?_, rfl, ?_⟩
       · exact get_put_other gl (by omega) hr2
       · have k3 : Kept noX σ σ2 := ⟨Nat.le_trans kp.n k2.n, fun o z _ ho => k2.get o z (by have := St.get_lt ho; omega) (kp.get o z (fun h => h) ho)⟩
         exact k3.put (.inr (by omega)) gl _
     · have c1 : decide ((i : Int) < 4) = false := by simp; omega
       have : i = 4 := by omega
       subst this
       simp -implicitDefEqProofs (disch := first | exact nbf rfl | exact nbt rfl | (simp only [zN.down, reduceCtorEq] <;> omega) | omega) only [c1, e10, XOp.kind, AOp.kind, zU.down, simprocAttr]
       refine ⟨_, _, rfl, ?_, ?_, ?_, hr, hx, kp⟩
       all_goals (simp -implicitDefEqProofs (disch := first | exact nbf rfl | exact nbt rfl | (simp only [zN.down, reduceCtorEq] <;> omega) | omega) only [e4, e5, e2, XOp.kind, AOp.kind, zU.down, simprocAttr]; done)
 · rintro _ ⟨ρ, σ', rfl, e4, e5, e2, hr, hx, kp⟩
   have h4 : nn p 4 = [.sc (.int .i64 (rdv p 0 : Nat)), .sc (.int .i64 (rdv p 1 : Nat)), .sc (.int .i64 (rdv p 2 : Nat)), .sc (.int .i64 (rdv p 3 : Nat))] := rfl
   rw [h4] at hx
   have hl0 := St.get_lt hr
   simp -implicitDefEqProofs (disch := first | exact nbf rfl | exact nbt rfl | (simp only [zN.down, reduceCtorEq] <;> omega) | omega) only [e4, e5, hx, XOp.kind, AOp.kind, zU.down, simprocAttr]
   repeat first | apply w_fin | apply w_seq | apply w_block | apply w_reg | apply w_op | apply w_dop
   refine (htx σ' (σ.n + 1) (rdn p 4) hr (by rw [rdn_s]; exact hp) (rdn_le p 4)).mono ?_
   rintro ⟨_, σ2⟩ ⟨s, r', rfl, hr', hs', k2, t1, t2⟩
   dsimp only at hr' k2
   rw [rdn_s] at hs'
   have k3 : Kept noX σ σ2 := ⟨Nat.le_trans kp.n k2.n, fun o z _ ho => k2.get o z (by have := St.get_lt ho; omega) (kp.get o z (fun h => h) ho)⟩
   have hx2 := k2.get _ _ (by omega) hx
   have hr2 : fr.RR σ2.bump (σ.n + 1) r' := by unfold fr.RR at hr' ⊢; rw [St.get_bump]; exact hr'
   simp -implicitDefEqProofs (disch := first | exact nbf rfl | exact nbt rfl | (simp only [zN.down, reduceCtorEq] <;> omega) | omega) only [e4, e5, e2, hx2, XOp.kind, AOp.kind, zU.down, simprocAttr]
   repeat first | apply w_fin | apply w_seq | apply w_block | apply w_reg | apply w_op | apply w_dop
   refine (hend σ2.bump (σ.n + 1) r' hr2).mono ?_
   rintro ⟨_, σ3⟩ ⟨b, rfl, k4⟩
   dsimp only at k4
   have k5 := k3.bump.trans k4
   have hc := hch σ3 (xof p s)
   simp only [tkc, xof] at hc
   by_cases q : Rd.end' r' = 0
   · have d1 : ((Rd.end' r' : Int) == 0) = true := by rw [q]; rfl
     have hhas : Rd.has (rdn p 4) := by
      by_cases hh : Rd.has (rdn p 4)
      · exact hh
      · have := t2 hh
        unfold Rd.end' at q
        rw [if_pos this] at q
        exact absurd q this
     obtain ⟨hst, hr'e⟩ := t1 hhas
     obtain ⟨hq1, hq2⟩ : 8 * 4 ≤ p.length ∧ rdn p 4 = ⟨p, 8 * 4, 0, 0⟩ := by
      rcases rdn_is p 4 with h | h
      · exact h
      · exact absurd hhas.1 h.2
     rw [hq2] at hst hr'e hhas
     unfold Rd.has at hhas
     unfold Rd.tx at hst
     dsimp only at hst hr'e hhas
     rw [hr'e] at q
     unfold Rd.end' at q
     dsimp only at q
     rw [if_neg (by simp)] at q
     have hle : ¬ (8 * 4 + 4 + val ((p.drop (8 * 4)).take 4) < p.length) := by
      intro h; rw [if_pos h] at q; cases q
     have hlen : val ((p.drop 32).take 4) + 36 = p.length := by
      have h1 := hhas.2.1
      have h2 := hhas.2.2.2
      simp only [(show 8 * 4 = 32 from rfl)] at hle h1 h2
      omega
     have hs36 : s = p.drop 36 := by
      rw [hst]
      show (p.drop 36).take (val ((p.drop 32).take 4)) = _
      exact List.take_of_length_le (by rw [List.length_drop]; omega)
     subst hs36
     obtain ⟨x1, x2⟩ := xof_ok (p := p) (by omega)
     by_cases m : tchk (tkp p) = 0
     · have hv : tok p = true := decide_eq_true ⟨by omega, hlen, m⟩
       have m0 := x1.2 m
       unfold xof at m0
       rw [m0] at hc
       simp -implicitDefEqProofs (disch := first | exact nbf rfl | exact nbt rfl | (simp only [zN.down, reduceCtorEq] <;> omega) | omega) only [d1, e2, hc, hv, XOp.kind, AOp.kind, zU.down, simprocAttr]
       exact ⟨xof p (p.drop 36), rfl, fun _ => x2 m, k5.bump⟩
     · have hv : tok p = false := decide_eq_false (fun h => m h.2.2)
       have m0 : (tchk (xof p (p.drop 36)) == 0) = false := by simp only [beq_eq_false_iff_ne, ne_eq]; exact fun h => m (x1.1 h)
       unfold xof at m0
       simp -implicitDefEqProofs (disch := first | exact nbf rfl | exact nbt rfl | (simp only [zN.down, reduceCtorEq] <;> omega) | omega) only [d1, e2, hc, m0, hv, XOp.kind, AOp.kind, zU.down, simprocAttr]
       exact ⟨xof p (p.drop 36), rfl, (fun h => by cases h), k5.bump⟩
   · have d1 : ((Rd.end' r' : Int) == 0) = false := by simp; omega
     have hv : tok p = false := by
      refine decide_eq_false ?_
      rintro ⟨h1, h2, h3⟩
      have h4 := (tchk_0.1 h3).2
      simp only [tkp, List.length_drop] at h4
      obtain ⟨hq1, hq2⟩ : 8 * 4 ≤ p.length ∧ rdn p 4 = ⟨p, 8 * 4, 0, 0⟩ := by
       rcases rdn_is p 4 with h | h
       · exact h
       · exact absurd h.1 (by omega)
      have hhas : Rd.has (rdn p 4) := by
       rw [hq2]
       refine ⟨rfl, ?_, ?_, ?_⟩
       · dsimp only; omega
       · show val ((p.drop 32).take 4) ≤ 64; omega
       · show val ((p.drop 32).take 4) + 4 ≤ p.length - 32; omega
      obtain ⟨_, hr'e⟩ := t1 hhas
      apply q
      rw [hr'e, hq2]
      unfold Rd.end'
      dsimp only
      rw [if_neg (by simp), if_neg]
      show ¬ (32 + 4 + val ((p.drop 32).take 4) < p.length)
      omega
     simp -implicitDefEqProofs (disch := first | exact nbf rfl | exact nbt rfl | (simp only [zN.down, reduceCtorEq] <;> omega) | omega) only [d1, e2, hv, XOp.kind, AOp.kind, zU.down, simprocAttr]
     exact ⟨xof p s, rfl, (fun h => by cases h), k5⟩
end Go.Proofs.YtehdjkikcfeiaaaGreat.jn
namespace Go.Proofs.YtehdjkikcfeiaaaGreat.jn
open Go.Ab fr dk
set_option maxRecDepth 100000
set_option maxHeartbeats 8000000
set_option linter.unusedSimpArgs false
set_option linter.unusedVariables false
def JR (σ : St) (b d : Nat) (l : List Tk) (br : Int) : Prop := ∃ v, σ.get b = some (.cells [.ptr d 0, v, .sc (.int .i64 br)]) ∧ RV 5 v (l.map tkc)
theorem JR.kept {X : Nat → Prop} {σ σ' : St} {b d : Nat} {l : List Tk} {br : Int} (h : JR σ b d l br) (k : Kept X σ σ') (hx : ¬ X b) : JR σ' b d l br := by
 obtain ⟨v, h1, h2⟩ := h; exact ⟨v, k.get _ _ hx h1, h2⟩
theorem JR.lt {σ : St} {b d : Nat} {l : List Tk} {br : Int} (h : JR σ b d l br) : b < σ.n := by obtain ⟨v, h1, _⟩ := h; exact St.get_lt h1
theorem slnil5 (σ : St) {v : V} {es : List (List V)} (h : RV 5 v es) : ∃ b, aEqV σ .slice v (.sc .nilS) = some b ∧ (b = true → es = []) := by
 cases h with
 | nil => exact ⟨true, rfl, fun _ => rfl⟩
 | odd => exact ⟨false, by simp [aEqV, aNilness, isSl], fun h => by cases h⟩
 | vs => exact ⟨false, rfl, fun h => by cases h⟩
theorem bsl0t : aBslice 5 0 [.sc (.int .i64 0), .sc (.int .i64 0), .sc (.int .i64 0), .sc (.int .i64 0), .str []] [] = some (.vs .exact 5 0 []) := rfl
theorem bsl1t (a b c d e : V) : aBslice 5 1 [.sc (.int .i64 0), .sc (.int .i64 0), .sc (.int .i64 0), .sc (.int .i64 0), .str []] [(0, 5, .agg [a, b, c, d, e])] = some (.vs .exact 5 1 [a, b, c, d, e]) := rfl
theorem tkc_rv (x : Tk) : RV 5 (.vs .exact 5 1 (tkc x)) ([x].map tkc) := RV.vs (own := .exact) (sz := 5) (es := [x].map tkc) (by simp [tkc]) (by simp [tkc, V.oneCell])
theorem tkc_at {v : V} {l : List Tk} (h : RV 5 v (l.map tkc)) {i : Nat} (hi : i < l.length) : aSlAddr v (.sc (.int .i64 i)) = some (.elt (l.map tkc).flatten (i * 5)) ∧ (i * 5 + 5 ≤ (l.map tkc).flatten.length) = True ∧ ((l.map tkc).flatten.drop (i * 5)).take 5 = tkc l[i] := by
 have := h.at (i := i) (by simpa using hi)
 simpa using this
theorem clonet_ok (k : Nat) (ys : YlF) (σ : St) (v : V) (es : List (List V)) (h : RV 5 v es) {lo : Nat} (hlo : lo ≤ σ.n) (hl : es.length ≤ 1000000) :
  W (callY Tab.tb (k + 1) ys 82 [v] σ) fun r => Ow lo r.2 5 r.1 es ∧ Grown lo σ r.2 := by
 rw [s_call (af := Tab.b82) rfl (Nat.le_of_ble_eq_true rfl)]
 generalize callY Tab.tb k = cy
 obtain ⟨b, hb, hbe⟩ := slnil5 σ h
 cases b with
 | true =>
  have := hbe rfl
  subst this
  simp -implicitDefEqProofs (disch := first | exact nbf rfl | exact nbt rfl | (simp only [zN.down, reduceCtorEq] <;> omega) | omega) only [Tab.b82, hb, XOp.kind, aArrAddr, AOp.kind, zP.down, zQ.down, zR.down, zS.down, simprocAttr]
  exact ⟨.nil, Grown.refl _ _⟩
 | false =>
  simp -implicitDefEqProofs (disch := first | exact nbf rfl | exact nbt rfl | (simp only [zN.down, reduceCtorEq] <;> omega) | omega) only [Tab.b82, hb, bsl0t, XOp.kind, aArrAddr, AOp.kind, zP.down, zQ.down, zR.down, zS.down, simprocAttr]
  repeat first | apply w_fin | apply w_seq | apply w_block | apply w_reg | apply w_op | apply w_dop
  refine (grow_ok (lo := lo) (es := []) (ms := es) (.exact (by simp) (by simp)) h hlo (by unfold roomB; simp; omega) (by unfold roomB; simp; omega)).mono ?_
  rintro ⟨w, σ2⟩ ⟨h1, h2⟩
  simp -implicitDefEqProofs (disch := first | exact nbf rfl | exact nbt rfl | (simp only [zN.down, reduceCtorEq] <;> omega) | omega) only [XOp.kind, AOp.kind, zU.down, simprocAttr]
  exact ⟨by simpa using h1, h2⟩
theorem next_ok (k : Nat) (ys : YlF) (σ : St) (b d : Nat) (l : List Tk) (br t : Int) (h : JR σ b d l br) (hs : ∀ x ∈ l, tchk x = 0) (hl : l.length ≤ 1000000) (hk : 1000020 ≤ k) :
  W (callY Tab.tb (k + 1) ys 56 [.ptr b 0, .sc (.int .i64 t)] σ) fun r => r.1 = .tup [.agg [.sc (.int .i64 (tnx l t).f), .sc (.int .i64 (tnx l t).e)], .sc (.int .i64 (tnx l t).n)] ∧ Kept noX σ r.2 := by
 rw [s_call (af := Tab.b56) rfl (Nat.le_of_ble_eq_true rfl)]
 generalize callY Tab.tb k = cy
 obtain ⟨v, g, hv⟩ := h
 have vlen := hv.len
 have vsize := hv.size
 rw [List.length_map] at vlen
 simp -implicitDefEqProofs (disch := first | exact nbf rfl | exact nbt rfl | (simp only [zN.down, reduceCtorEq] <;> omega) | omega) only [Tab.b56, g, dk.pnil, vlen, XOp.kind, aArrAddr, AOp.kind, zP.down, zQ.down, zR.down, zS.down, simprocAttr]
 repeat first | apply w_fin | apply w_seq | apply w_block | apply w_reg | apply w_op | apply w_dop
 refine W.mono (Q := fun r => ∃ (ρ : Env) (σ' : St), r = ((.exit 0 : Ex), ρ, σ') ∧ ρ 4 = .agg [.sc (.int .i64 (tnx l t).f), .sc (.int .i64 (tnx l t).e)] ∧ ρ 5 = .sc (.int .i64 (tnx l t).n) ∧ Kept noX σ σ') ?_ ?_
 · refine w_loop (fun m ρ σ' => ∃ i : Nat, m = l.length - i ∧ i ≤ l.length ∧ ρ 1 = .sc (.int .i64 t) ∧ ρ 4 = .agg [.sc (.int .i64 (tnx (l.take i) t).f), .sc (.int .i64 (tnx (l.take i) t).e)] ∧ ρ 5 = .sc (.int .i64 (tnx (l.take i) t).n) ∧ ρ 14 = v ∧ ρ 15 = .sc (.int .i64 l.length) ∧ ρ 16 = .sc (.int .i64 i) ∧ Kept noX σ σ') l.length (by omega) ?_ ?_
   · refine ⟨0, rfl, Nat.zero_le _, ?_, ?_, ?_, ?_, ?_, ?_, ?_⟩
     all_goals first | rfl | (((repeat (first | refine Kept.push ?_ _ | refine Kept.bump ?_ | refine Kept.put ?_ (.inr (by omega)) (by first | omega | (simp only [St.n_put, St.n_push]; omega)) _)); first | exact Kept.refl _ _ | assumption); done) | (simp -implicitDefEqProofs (disch := first | exact nbf rfl | exact nbt rfl | (simp only [zN.down, reduceCtorEq] <;> omega) | omega) only [XOp.kind, AOp.kind, zU.down, simprocAttr]; done) | (simp -implicitDefEqProofs (disch := first | exact nbf rfl | exact nbt rfl | (simp only [zN.down, reduceCtorEq] <;> omega) | omega) only [tnx, XOp.kind, AOp.kind, zU.down, simprocAttr]; rfl) | (simp -implicitDefEqProofs (disch := first | exact nbf rfl | exact nbt rfl | (simp only [zN.down, reduceCtorEq] <;> omega) | omega) only [tnx, List.foldl_nil, XOp.kind, AOp.kind, zU.down, simprocAttr]; done)
   · rintro m ρ σ' ⟨i, hm, hi, e1, e4, e5, e14, e15, e16, kp⟩
     by_cases hil : i < l.length
     · have c1 : decide ((i : Int) < (l.length : Int)) = true := by simpa using hil
       obtain ⟨a1, a2, a3⟩ := tkc_at hv hil
       simp only [tkc] at a3
       have hst := tnx_snoc (l.take i) t l[i]
       have htk : l.take i ++ [l[i]] = l.take (i + 1) := by rw [List.take_add_one, List.getElem?_eq_getElem hil]; rfl
       rw [htk] at hst
       have hq := (tchk_0.1 (hs _ (List.getElem_mem hil))).1
       unfold tbad at hq
       unfold tst at hst
       generalize l[i] = x at *
       have w1 : IntKind.i64.wrap ((i : Int) + 1) = ((i + 1 : Nat) : Int) := wrap64 (by omega) (by omega)
       have w2 : IntKind.i64.wrap (x.seq + 1) = x.seq + 1 := wrap64 (by omega) (by omega)
       by_cases ht : x.talk = t
       · have c2 := beq_iff_eq.2 ht
         rw [if_pos ht] at hst
         simp -implicitDefEqProofs (disch := first | exact nbf rfl | exact nbt rfl | (simp only [zN.down, reduceCtorEq] <;> omega) | omega) only [c1, e1, e4, e5, e14, e15, e16, a1, a2, a3, vsize, c2, w1, w2, XOp.kind, AOp.kind, zU.down, simprocAttr]
         exact ⟨l.length - (i + 1), by omega, i + 1, rfl, hil, by rw [hst], by rw [hst], rfl, kp.bump⟩
       · have c2 := beq_eq_false_iff_ne.2 ht
         rw [if_neg ht] at hst
         simp -implicitDefEqProofs (disch := first | exact nbf rfl | exact nbt rfl | (simp only [zN.down, reduceCtorEq] <;> omega) | omega) only [c1, e1, e4, e5, e14, e15, e16, a1, a2, a3, vsize, c2, w1, w2, XOp.kind, AOp.kind, zU.down, simprocAttr]
         exact ⟨l.length - (i + 1), by omega, i + 1, rfl, hil, by rw [hst], by rw [hst], rfl, kp.bump⟩
     · have c1 : decide ((i : Int) < (l.length : Int)) = false := by simpa using hil
       have : i = l.length := by omega
       subst this
       rw [List.take_length] at e4 e5
       simp -implicitDefEqProofs (disch := first | exact nbf rfl | exact nbt rfl | (simp only [zN.down, reduceCtorEq] <;> omega) | omega) only [c1, e15, e16, XOp.kind, AOp.kind, zU.down, simprocAttr]
       refine ⟨_, _, rfl, ?_, ?_, kp⟩
       all_goals (simp -implicitDefEqProofs (disch := first | exact nbf rfl | exact nbt rfl | (simp only [zN.down, reduceCtorEq] <;> omega) | omega) only [e4, e5, XOp.kind, AOp.kind, zU.down, simprocAttr]; done)
 · rintro _ ⟨ρ, σ', rfl, e4, e5, kp⟩
   simp -implicitDefEqProofs (disch := first | exact nbf rfl | exact nbt rfl | (simp only [zN.down, reduceCtorEq] <;> omega) | omega) only [e4, e5, XOp.kind, AOp.kind, zU.down, simprocAttr]
   exact kp
theorem may_ok (k : Nat) (ys : YlF) (σ : St) (b d : Nat) (l : List Tk) (br : Int) (x : Tk) (h : JR σ b d l br) (hs : ∀ x ∈ l, tchk x = 0) (hl : l.length ≤ 1000000) (hk : 1000020 ≤ k) :
  W (callY Tab.tb (k + 2) ys 44 [.ptr b 0, .agg (tkc x)] σ) fun r => r.1 = .sc (.int .i64 (tmay l x)) ∧ Kept noX σ r.2 := by
 rw [s_call (af := Tab.b44) rfl (Nat.le_of_ble_eq_true rfl)]
 have hch := fun σ => check_ok k ys σ x
 have hnx := fun σ t h => next_ok k ys σ b d l br t h hs hl hk
 have hab := fun σ a => above_ok k ys σ a x
 generalize callY Tab.tb (k + 1) = cy at hch hnx hab ⊢
 unfold tmay
 simp only [tkc] at hch ⊢
 by_cases c1 : tchk x = 0
 · have d1 : (tchk x != 0) = false := by simp [c1]
   rw [if_neg (by simp [c1])]
   simp -implicitDefEqProofs (disch := first | exact nbf rfl | exact nbt rfl | (simp only [zN.down, reduceCtorEq] <;> omega) | omega) only [Tab.b44, hch, d1, XOp.kind, AOp.kind, zU.down, simprocAttr]
   repeat first | apply w_fin | apply w_seq | apply w_block | apply w_reg | apply w_op | apply w_dop
   refine (hnx _ x.talk (h.kept ((Kept.refl noX σ).bump.bump) (fun h => h))).mono ?_
   rintro ⟨_, σ2⟩ ⟨rfl, k2⟩
   dsimp only at k2
   have k2 : Kept noX σ σ2 := ((Kept.refl noX σ).bump.bump).trans k2
   generalize tnx l x.talk = a at *
   have hab := fun σ => hab σ a
   by_cases c2 : tabv a x
   · have d2 : decide (tabv a x) = true := decide_eq_true c2
     rw [d2] at hab
     rw [if_pos c2]
     simp -implicitDefEqProofs (disch := first | exact nbf rfl | exact nbt rfl | (simp only [zN.down, reduceCtorEq] <;> omega) | omega) only [hab, XOp.kind, AOp.kind, zU.down, simprocAttr]
     exact k2.bump.bump.bump
   · have d2 : decide (tabv a x) = false := decide_eq_false c2
     rw [d2] at hab
     rw [if_neg c2]
     by_cases c3 : x.seq = a.n
     · have d3 : (x.seq != a.n) = false := by simp [c3]
       rw [if_neg (by simp [c3])]
       simp -implicitDefEqProofs (disch := first | exact nbf rfl | exact nbt rfl | (simp only [zN.down, reduceCtorEq] <;> omega) | omega) only [hab, d3, XOp.kind, AOp.kind, zU.down, simprocAttr]
       exact k2.bump.bump.bump
     · have d3 : (x.seq != a.n) = true := by simp [c3]
       rw [if_pos c3]
       simp -implicitDefEqProofs (disch := first | exact nbf rfl | exact nbt rfl | (simp only [zN.down, reduceCtorEq] <;> omega) | omega) only [hab, d3, XOp.kind, AOp.kind, zU.down, simprocAttr]
       exact k2.bump.bump.bump
 · have d1 : (tchk x != 0) = true := by simp [c1]
   rw [if_pos c1]
   simp -implicitDefEqProofs (disch := first | exact nbf rfl | exact nbt rfl | (simp only [zN.down, reduceCtorEq] <;> omega) | omega) only [Tab.b44, hch, d1, XOp.kind, AOp.kind, zU.down, simprocAttr]
   exact (Kept.refl noX σ).bump.bump
theorem add_ok (k : Nat) (ys : YlF) (σ : St) (b d : Nat) (l : List Tk) (br : Int) (M : DM) (x : Tk) (h : JR σ b d l br) (hd : DR σ d M) (hbd : b ≠ d) {B : Nat} (hm : M.Ok B) (hB : B ≤ 999990) (hs : ∀ x ∈ l, tchk x = 0) (hl : l.length ≤ 900000) (hk : 1000020 ≤ k) :
  W (callY Tab.tb (k + 6) ys 54 [.ptr b 0, .agg (tkc x)] σ) fun r => r.1 = .sc (.int .i64 (jadd M l br x).2.2.2) ∧ JR r.2 b d (jadd M l br x).2.1 (jadd M l br x).2.2.1 ∧ DR r.2 d (jadd M l br x).1 ∧ Kept (fun o => o = d ∨ o = b) σ r.2 := by
 rw [s_call (af := Tab.b54) rfl (Nat.le_of_ble_eq_true rfl)]
 have hmay := fun σ l br h hs hl => may_ok (k + 3) ys σ b d l br x h hs hl (by omega)
 have hen := fun σ h => encode_ok k ys σ x h (by omega)
 have hap := fun σ s h => append_ok (B := B) (k + 2) ys σ d M 0 s h hm (by omega)
 have hsy := fun σ M' h hm' => sync_ok (B := B + 1) (k + 3) ys σ d M' 0 h hm' (by omega)
 have hcl := fun σ v es h hl lo hlo => clonet_ok (lo := lo) (k + 4) ys σ v es h hlo hl
 generalize callY Tab.tb (k + 5) = cy at hmay hen hap hsy hcl ⊢
 have hj := h
 obtain ⟨v, g, hv⟩ := h
 have lb := St.get_lt g
 unfold jadd
 simp only [tkc] at hmay hen ⊢
 by_cases c0 : br = 0
 · subst c0
   have d0 : ((0 : Int) != 0) = false := by decide
   rw [if_neg (by simp)]
   simp -implicitDefEqProofs (disch := first | exact nbf rfl | exact nbt rfl | (simp only [zN.down, reduceCtorEq] <;> omega) | omega) only [Tab.b54, g, dk.pnil, d0, XOp.kind, aArrAddr, AOp.kind, zP.down, zQ.down, zR.down, zS.down, simprocAttr]
   repeat first | apply w_fin | apply w_seq | apply w_block | apply w_reg | apply w_op | apply w_dop
   refine (hmay _ l 0 (hj.kept (Kept.refl noX σ).bump (fun h => h)) hs (by omega)).mono ?_
   rintro ⟨_, σ1⟩ ⟨rfl, k1⟩
   dsimp only at k1
   have k1 : Kept noX σ σ1 := (Kept.refl noX σ).bump.trans k1
   have g1 := k1.get _ _ (fun h => h) g
   have hd1 := hd.kept k1 (fun h => h)
   by_cases c1 : tmay l x = 0
   · have d1 : (tmay l x != 0) = false := by simp [c1]
     rw [if_neg (by simp [c1])]
     have hx := (tmay_0 c1).1
     simp -implicitDefEqProofs (disch := first | exact nbf rfl | exact nbt rfl | (simp only [zN.down, reduceCtorEq] <;> omega) | omega) only [d1, g1, XOp.kind, AOp.kind, zU.down, simprocAttr]
     repeat first | apply w_fin | apply w_seq | apply w_block | apply w_reg | apply w_op | apply w_dop
     refine (hen σ1 hx).mono ?_
     rintro ⟨_, σ2⟩ ⟨rfl, k2⟩
     dsimp only at k2
     have hP := hm.change (f := 0) (c := ⟨1, fput (tpay x), 0⟩) (.inl rfl)
     have f1 := hap σ2 (fput (tpay x)) (hd1.kept k2 (fun h => h))
     have k12 := k1.trans k2
     have g2 := k12.get _ _ (fun h => h) g
     simp -implicitDefEqProofs (disch := first | exact nbf rfl | exact nbt rfl | (simp only [zN.down, reduceCtorEq] <;> omega) | omega) only [XOp.kind, AOp.kind, zU.down, simprocAttr]
     repeat first | apply w_fin | apply w_seq | apply w_block | apply w_reg | apply w_op | apply w_dop
     refine f1.mono ?_
     rintro ⟨_, σ3⟩ ⟨rfl, hd3, k3⟩
     dsimp only at hd3 k3
     generalize M.change 0 ⟨1, fput (tpay x), 0⟩ = q at *
     have k13 : Kept (fun o => o = d ∨ o = b) σ σ3 := k12.any.trans (k3.sub fun o h => .inl h)
     have g3 := k3.get _ _ hbd (k12.get _ _ (fun h => h) g)
     have lb3 := St.get_lt g3
     by_cases c2 : q.2 = 0
     · have d2 : (q.2 == 0) = true := by simp [c2]
       rw [if_neg (by simp [c2])]
       simp -implicitDefEqProofs (disch := first | exact nbf rfl | exact nbt rfl | (simp only [zN.down, reduceCtorEq] <;> omega) | omega) only [d2, g2, g3, XOp.kind, AOp.kind, zU.down, simprocAttr]
       repeat first | apply w_fin | apply w_seq | apply w_block | apply w_reg | apply w_op | apply w_dop
       refine (hsy σ3 q.1 hd3 hP).mono ?_
       rintro ⟨_, σ4⟩ ⟨rfl, hd4, k4⟩
       dsimp only at hd4 k4
       generalize q.1.sync 0 = z at *
       have k14 : Kept (fun o => o = d ∨ o = b) σ σ4 := k13.trans (k4.sub fun o h => .inl h)
       have g4 := k4.get _ _ hbd g3
       have lb4 := St.get_lt g4
       by_cases c3 : z.2 = 0
       · have d3 : (z.2 != 0) = false := by simp [c3]
         rw [if_neg (by simp [c3])]
         simp -implicitDefEqProofs (disch := first | exact nbf rfl | exact nbt rfl | (simp only [zN.down, reduceCtorEq] <;> omega) | omega) only [d3, g4, XOp.kind, AOp.kind, zU.down, simprocAttr]
         repeat first | apply w_fin | apply w_seq | apply w_block | apply w_reg | apply w_op | apply w_dop
         refine (hcl σ4 v _ hv (by rw [List.length_map]; omega) σ4.n (Nat.le_refl _)).mono ?_
         rintro ⟨w, σ5⟩ ⟨h5, k5⟩
         dsimp only at h5 k5
         have n5 := k5.n
         have xrv := tkc_rv x
         simp only [tkc] at xrv
         simp -implicitDefEqProofs (disch := first | exact nbf rfl | exact nbt rfl | (simp only [zN.down, reduceCtorEq] <;> omega) | omega) only [bsl1t, XOp.kind, AOp.kind, zU.down, simprocAttr]
         repeat first | apply w_fin | apply w_seq | apply w_block | apply w_reg | apply w_op | apply w_dop
         refine (grow_ok h5 xrv n5 (by unfold roomB; simp; omega) (by unfold roomB; simp; omega)).mono ?_
         rintro ⟨w', σ6⟩ ⟨h6, k6⟩
         dsimp only at h6 k6
         have k46 : Kept noX σ4 σ6 := k6.kept (k5.kept (Kept.refl _ _) (Nat.le_refl _)) (Nat.le_refl _)
         have g6 := k46.get _ _ (fun h => h) g4
         have lb6 := St.get_lt g6
         have hw := h6.rv.cell
         have hrv6 : RV 5 w' ((l ++ [x]).map tkc) := by
          have := h6.rv
          rw [List.map_append]
          exact this
         simp -implicitDefEqProofs (disch := first | exact nbf rfl | exact nbt rfl | (simp only [zN.down, reduceCtorEq] <;> omega) | omega) only [g6, hw.1, hw.2, XOp.kind, AOp.kind, zU.down, simprocAttr]
         refine ⟨⟨w', get_put_self g6, hrv6⟩, (hd4.kept k46 (fun h => h)).kept (X := (· = b)) (Kept.put (X := (· = b)) (Kept.refl _ _) (.inl rfl) lb6 _) (fun h => hbd h.symm), (k14.trans k46.any).put (.inl (.inr rfl)) lb6 _⟩
       · have d3 : (z.2 != 0) = true := by simp [c3]
         rw [if_pos c3]
         simp -implicitDefEqProofs (disch := first | exact nbf rfl | exact nbt rfl | (simp only [zN.down, reduceCtorEq] <;> omega) | omega) only [d3, g4, XOp.kind, AOp.kind, zU.down, simprocAttr]
         exact ⟨⟨v, get_put_self g4, hv⟩, hd4.kept (X := (· = b)) (Kept.put (X := (· = b)) (Kept.refl _ _) (.inl rfl) lb4 _) (fun h => hbd h.symm), k14.put (.inl (.inr rfl)) lb4 _⟩
     · have d2 : (q.2 == 0) = false := by simp [c2]
       have d3 : (q.2 != 0) = true := by simp [c2]
       rw [if_pos c2]
       simp -implicitDefEqProofs (disch := first | exact nbf rfl | exact nbt rfl | (simp only [zN.down, reduceCtorEq] <;> omega) | omega) only [d2, d3, g2, g3, XOp.kind, AOp.kind, zU.down, simprocAttr]
       exact ⟨⟨v, get_put_self g3, hv⟩, hd3.kept (X := (· = b)) (Kept.put (X := (· = b)) (Kept.refl _ _) (.inl rfl) lb3 _) (fun h => hbd h.symm), k13.put (.inl (.inr rfl)) lb3 _⟩
   · have d1 : (tmay l x != 0) = true := by simp [c1]
     rw [if_pos c1]
     simp -implicitDefEqProofs (disch := first | exact nbf rfl | exact nbt rfl | (simp only [zN.down, reduceCtorEq] <;> omega) | omega) only [d1, XOp.kind, AOp.kind, zU.down, simprocAttr]
     exact ⟨⟨v, g1, hv⟩, hd1, k1.any⟩
 · have d0 : (br != 0) = true := by simp [c0]
   rw [if_pos c0]
   simp -implicitDefEqProofs (disch := first | exact nbf rfl | exact nbt rfl | (simp only [zN.down, reduceCtorEq] <;> omega) | omega) only [Tab.b54, g, dk.pnil, d0, XOp.kind, aArrAddr, AOp.kind, zP.down, zQ.down, zR.down, zS.down, simprocAttr]
   exact ⟨hj.kept (Kept.refl noX σ).bump (fun h => h), hd.kept (Kept.refl noX σ).bump (fun h => h), (Kept.refl noX σ).bump.any⟩
end Go.Proofs.YtehdjkikcfeiaaaGreat.jn
