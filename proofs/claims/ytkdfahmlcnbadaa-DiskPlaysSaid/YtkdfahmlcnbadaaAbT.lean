/-
  The functions that the laws of this seat reach, made abstract: what each comes to is what the program's does (by program).
-/
import Derived.Test.YtkdfahmlcnbadaaRows
import Derived.Test.YtkdfahmlcnbadaaAb20
import Derived.KernelRfl
namespace Go.Proofs.Ytkdfahmlcnbadaa.Tab
open Go.Ab
def mu : TypeId → Bool := fun _ => false
theorem getD_ok {x : Option AF} {d : AF} (h : x.isSome = true) : x = some (x.getD d) := by cases x with | none => cases h | some a => rfl
noncomputable def a3 : AF := (cFunc Try.prog mu 3).getD ⟨0, .skip, []⟩
noncomputable def a4 : AF := (cFunc Try.prog mu 4).getD ⟨0, .skip, []⟩
noncomputable def a5 : AF := (cFunc Try.prog mu 5).getD ⟨0, .skip, []⟩
noncomputable def a6 : AF := (cFunc Try.prog mu 6).getD ⟨0, .skip, []⟩
noncomputable def a7 : AF := (cFunc Try.prog mu 7).getD ⟨0, .skip, []⟩
noncomputable def a8 : AF := (cFunc Try.prog mu 8).getD ⟨0, .skip, []⟩
noncomputable def a9 : AF := (cFunc Try.prog mu 9).getD ⟨0, .skip, []⟩
noncomputable def a10 : AF := (cFunc Try.prog mu 10).getD ⟨0, .skip, []⟩
noncomputable def a11 : AF := (cFunc Try.prog mu 11).getD ⟨0, .skip, []⟩
noncomputable def a12 : AF := (cFunc Try.prog mu 12).getD ⟨0, .skip, []⟩
noncomputable def a13 : AF := (cFunc Try.prog mu 13).getD ⟨0, .skip, []⟩
noncomputable def a14 : AF := (cFunc Try.prog mu 14).getD ⟨0, .skip, []⟩
noncomputable def a15 : AF := (cFunc Try.prog mu 15).getD ⟨0, .skip, []⟩
noncomputable def a16 : AF := (cFunc Try.prog mu 16).getD ⟨0, .skip, []⟩
noncomputable def a17 : AF := (cFunc Try.prog mu 17).getD ⟨0, .skip, []⟩
noncomputable def a18 : AF := (cFunc Try.prog mu 18).getD ⟨0, .skip, []⟩
noncomputable def a19 : AF := (cFunc Try.prog mu 19).getD ⟨0, .skip, []⟩
noncomputable def a20 : AF := (cFunc Try.prog mu 20).getD ⟨0, .skip, []⟩
noncomputable def a21 : AF := (cFunc Try.prog mu 21).getD ⟨0, .skip, []⟩
noncomputable def a22 : AF := (cFunc Try.prog mu 22).getD ⟨0, .skip, []⟩
noncomputable def a23 : AF := (cFunc Try.prog mu 23).getD ⟨0, .skip, []⟩
noncomputable def a24 : AF := (cFunc Try.prog mu 24).getD ⟨0, .skip, []⟩
noncomputable def a25 : AF := (cFunc Try.prog mu 25).getD ⟨0, .skip, []⟩
noncomputable def a26 : AF := (cFunc Try.prog mu 26).getD ⟨0, .skip, []⟩
noncomputable def a27 : AF := (cFunc Try.prog mu 27).getD ⟨0, .skip, []⟩
noncomputable def a28 : AF := (cFunc Try.prog mu 28).getD ⟨0, .skip, []⟩
noncomputable def a29 : AF := (cFunc Try.prog mu 29).getD ⟨0, .skip, []⟩
noncomputable def a30 : AF := (cFunc Try.prog mu 30).getD ⟨0, .skip, []⟩
noncomputable def a31 : AF := (cFunc Try.prog mu 31).getD ⟨0, .skip, []⟩
noncomputable def a32 : AF := (cFunc Try.prog mu 32).getD ⟨0, .skip, []⟩
noncomputable def a33 : AF := (cFunc Try.prog mu 33).getD ⟨0, .skip, []⟩
noncomputable def a34 : AF := (cFunc Try.prog mu 34).getD ⟨0, .skip, []⟩
noncomputable def a35 : AF := (cFunc Try.prog mu 35).getD ⟨0, .skip, []⟩
noncomputable def a36 : AF := (cFunc Try.prog mu 36).getD ⟨0, .skip, []⟩
noncomputable def a37 : AF := (cFunc Try.prog mu 37).getD ⟨0, .skip, []⟩
noncomputable def a38 : AF := (cFunc Try.prog mu 38).getD ⟨0, .skip, []⟩
noncomputable def a39 : AF := (cFunc Try.prog mu 39).getD ⟨0, .skip, []⟩
noncomputable def a40 : AF := (cFunc Try.prog mu 40).getD ⟨0, .skip, []⟩
noncomputable def l : List (Nat × AF) := [(3, a3), (4, a4), (5, a5), (6, a6), (7, a7), (8, a8), (9, a9), (10, a10), (11, a11), (12, a12), (13, a13), (14, a14), (15, a15), (16, a16), (17, a17), (18, a18), (19, a19), (20, a20), (21, a21), (22, a22), (23, a23), (24, a24), (25, a25), (26, a26), (27, a27), (28, a28), (29, a29), (30, a30), (31, a31), (32, a32), (33, a33), (34, a34), (35, a35), (36, a36), (37, a37), (38, a38), (39, a39), (40, a40)]
noncomputable def tbl : FuncId → Option AF := assoc l
theorem e3 : cFunc Try.prog mu 3 = some a3 := getD_ok (by kernel_rfl)
theorem e4 : cFunc Try.prog mu 4 = some a4 := getD_ok (by kernel_rfl)
theorem e5 : cFunc Try.prog mu 5 = some a5 := getD_ok (by kernel_rfl)
theorem e6 : cFunc Try.prog mu 6 = some a6 := getD_ok (by kernel_rfl)
theorem e7 : cFunc Try.prog mu 7 = some a7 := getD_ok (by kernel_rfl)
theorem e8 : cFunc Try.prog mu 8 = some a8 := getD_ok (by kernel_rfl)
theorem e9 : cFunc Try.prog mu 9 = some a9 := getD_ok (by kernel_rfl)
theorem e10 : cFunc Try.prog mu 10 = some a10 := getD_ok (by kernel_rfl)
theorem e11 : cFunc Try.prog mu 11 = some a11 := getD_ok (by kernel_rfl)
theorem e12 : cFunc Try.prog mu 12 = some a12 := getD_ok (by kernel_rfl)
theorem e13 : cFunc Try.prog mu 13 = some a13 := getD_ok (by kernel_rfl)
theorem e14 : cFunc Try.prog mu 14 = some a14 := getD_ok (by kernel_rfl)
theorem e15 : cFunc Try.prog mu 15 = some a15 := getD_ok (by kernel_rfl)
theorem e16 : cFunc Try.prog mu 16 = some a16 := getD_ok (by kernel_rfl)
theorem e17 : cFunc Try.prog mu 17 = some a17 := getD_ok (by kernel_rfl)
theorem e18 : cFunc Try.prog mu 18 = some a18 := getD_ok (by kernel_rfl)
theorem e19 : cFunc Try.prog mu 19 = some a19 := getD_ok (by kernel_rfl)
theorem e20 : cFunc Try.prog mu 20 = some a20 := getD_ok (by kernel_rfl)
theorem e21 : cFunc Try.prog mu 21 = some a21 := getD_ok (by kernel_rfl)
theorem e22 : cFunc Try.prog mu 22 = some a22 := getD_ok (by kernel_rfl)
theorem e23 : cFunc Try.prog mu 23 = some a23 := getD_ok (by kernel_rfl)
theorem e24 : cFunc Try.prog mu 24 = some a24 := getD_ok (by kernel_rfl)
theorem e25 : cFunc Try.prog mu 25 = some a25 := getD_ok (by kernel_rfl)
theorem e26 : cFunc Try.prog mu 26 = some a26 := getD_ok (by kernel_rfl)
theorem e27 : cFunc Try.prog mu 27 = some a27 := getD_ok (by kernel_rfl)
theorem e28 : cFunc Try.prog mu 28 = some a28 := getD_ok (by kernel_rfl)
theorem e29 : cFunc Try.prog mu 29 = some a29 := getD_ok (by kernel_rfl)
theorem e30 : cFunc Try.prog mu 30 = some a30 := getD_ok (by kernel_rfl)
theorem e31 : cFunc Try.prog mu 31 = some a31 := getD_ok (by kernel_rfl)
theorem e32 : cFunc Try.prog mu 32 = some a32 := getD_ok (by kernel_rfl)
theorem e33 : cFunc Try.prog mu 33 = some a33 := getD_ok (by kernel_rfl)
theorem e34 : cFunc Try.prog mu 34 = some a34 := getD_ok (by kernel_rfl)
theorem e35 : cFunc Try.prog mu 35 = some a35 := getD_ok (by kernel_rfl)
theorem e36 : cFunc Try.prog mu 36 = some a36 := getD_ok (by kernel_rfl)
theorem e37 : cFunc Try.prog mu 37 = some a37 := getD_ok (by kernel_rfl)
theorem e38 : cFunc Try.prog mu 38 = some a38 := getD_ok (by kernel_rfl)
theorem e39 : cFunc Try.prog mu 39 = some a39 := getD_ok (by kernel_rfl)
theorem e40 : cFunc Try.prog mu 40 = some a40 := getD_ok (by kernel_rfl)
theorem table : Table Try.prog mu tbl := table_of (all_cons e3 (all_cons e4 (all_cons e5 (all_cons e6 (all_cons e7 (all_cons e8 (all_cons e9 (all_cons e10 (all_cons e11 (all_cons e12 (all_cons e13 (all_cons e14 (all_cons e15 (all_cons e16 (all_cons e17 (all_cons e18 (all_cons e19 (all_cons e20 (all_cons e21 (all_cons e22 (all_cons e23 (all_cons e24 (all_cons e25 (all_cons e26 (all_cons e27 (all_cons e28 (all_cons e29 (all_cons e30 (all_cons e31 (all_cons e32 (all_cons e33 (all_cons e34 (all_cons e35 (all_cons e36 (all_cons e37 (all_cons e38 (all_cons e39 (all_cons e40 (fun _ h => absurd h List.not_mem_nil)))))))))))))))))))))))))))))))))))))))
end Go.Proofs.Ytkdfahmlcnbadaa.Tab
