/- What the functions of package element and of the verifier do, one contract each: a part of the proof; no conditions of its own (my own text, filled from XG5.lean.tpl). -/
import Derived.Test.YtonhmaklnkidhaaDoorG4
namespace Go.Proofs.YtonhmaklnkidhaaDoor.G
open Go.RowKit Go.Proofs.YtonhmaklnkidhaaDoorW.PrintWords

/-- a format: number, kind, digits, most -/
structure Fmt where
  no : Int
  kind : Int
  digits : Int
  most : Int
/-- the table -/
def table : List Fmt := [⟨2, 1, 2, 19⟩, ⟨4, 1, 0, 12⟩, ⟨11, 1, 0, 6⟩, ⟨12, 1, 0, 14⟩, ⟨22, 1, 0, 3⟩, ⟨39, 1, 0, 3⟩, ⟨49, 1, 0, 3⟩, ⟨25, 1, 0, 4⟩, ⟨32, 1, 2, 11⟩, ⟨37, 2, 0, 12⟩, ⟨38, 2, 0, 6⟩, ⟨41, 3, 0, 8⟩, ⟨42, 3, 0, 15⟩, ⟨43, 3, 2, 40⟩, ⟨48, 3, 3, 8⟩, ⟨55, 4, 3, 255⟩, ⟨56, 1, 0, 20⟩, ⟨60, 3, 3, 100⟩, ⟨61, 3, 3, 100⟩, ⟨62, 3, 3, 100⟩, ⟨63, 3, 3, 100⟩, ⟨102, 3, 2, 28⟩, ⟨103, 3, 2, 28⟩, ⟨120, 4, 4, 999⟩]
def isEl (no : Int) : Bool := table.any fun f => f.no == no
def fmtOf (no : Int) : Fmt := (table.find? fun f => f.no == no).getD ⟨0, 0, 0, 0⟩
def fmtV (f : Fmt) : Value := .agg #[.int .i64 f.no, .int .i64 f.kind, .int .i64 f.digits, .int .i64 f.most]

set_option maxRecDepth 100000 in
theorem of_2 (w : World) : Calls Tryd.prog 12 #[.int .i64 2] w fun e w' => e = .returned (.tuple #[.agg #[.int .i64 2, .int .i64 1, .int .i64 2, .int .i64 19], .bool true]) ∧ Below w.heap.size w w' := by
  go_enter Tryd.func12, Tryd.ntmps12
  go_wp2
  refine bodyPost_ret (v := .tuple #[.agg #[.int .i64 2, .int .i64 1, .int .i64 2, .int .i64 19], .bool true]) (by simp [results, Tryd.results12, go_sem]) rfl ⟨rfl, ?_⟩
  exact below_alloc (Below.refl _ _) _
set_option maxRecDepth 100000 in
theorem of_4 (w : World) : Calls Tryd.prog 12 #[.int .i64 4] w fun e w' => e = .returned (.tuple #[.agg #[.int .i64 4, .int .i64 1, .int .i64 0, .int .i64 12], .bool true]) ∧ Below w.heap.size w w' := by
  go_enter Tryd.func12, Tryd.ntmps12
  go_wp2
  refine bodyPost_ret (v := .tuple #[.agg #[.int .i64 4, .int .i64 1, .int .i64 0, .int .i64 12], .bool true]) (by simp [results, Tryd.results12, go_sem]) rfl ⟨rfl, ?_⟩
  exact below_alloc (Below.refl _ _) _
set_option maxRecDepth 100000 in
theorem of_11 (w : World) : Calls Tryd.prog 12 #[.int .i64 11] w fun e w' => e = .returned (.tuple #[.agg #[.int .i64 11, .int .i64 1, .int .i64 0, .int .i64 6], .bool true]) ∧ Below w.heap.size w w' := by
  go_enter Tryd.func12, Tryd.ntmps12
  go_wp2
  refine bodyPost_ret (v := .tuple #[.agg #[.int .i64 11, .int .i64 1, .int .i64 0, .int .i64 6], .bool true]) (by simp [results, Tryd.results12, go_sem]) rfl ⟨rfl, ?_⟩
  exact below_alloc (Below.refl _ _) _
set_option maxRecDepth 100000 in
theorem of_12 (w : World) : Calls Tryd.prog 12 #[.int .i64 12] w fun e w' => e = .returned (.tuple #[.agg #[.int .i64 12, .int .i64 1, .int .i64 0, .int .i64 14], .bool true]) ∧ Below w.heap.size w w' := by
  go_enter Tryd.func12, Tryd.ntmps12
  go_wp2
  refine bodyPost_ret (v := .tuple #[.agg #[.int .i64 12, .int .i64 1, .int .i64 0, .int .i64 14], .bool true]) (by simp [results, Tryd.results12, go_sem]) rfl ⟨rfl, ?_⟩
  exact below_alloc (Below.refl _ _) _
set_option maxRecDepth 100000 in
theorem of_22 (w : World) : Calls Tryd.prog 12 #[.int .i64 22] w fun e w' => e = .returned (.tuple #[.agg #[.int .i64 22, .int .i64 1, .int .i64 0, .int .i64 3], .bool true]) ∧ Below w.heap.size w w' := by
  go_enter Tryd.func12, Tryd.ntmps12
  go_wp2
  refine bodyPost_ret (v := .tuple #[.agg #[.int .i64 22, .int .i64 1, .int .i64 0, .int .i64 3], .bool true]) (by simp [results, Tryd.results12, go_sem]) rfl ⟨rfl, ?_⟩
  exact below_alloc (Below.refl _ _) _
set_option maxRecDepth 100000 in
theorem of_39 (w : World) : Calls Tryd.prog 12 #[.int .i64 39] w fun e w' => e = .returned (.tuple #[.agg #[.int .i64 39, .int .i64 1, .int .i64 0, .int .i64 3], .bool true]) ∧ Below w.heap.size w w' := by
  go_enter Tryd.func12, Tryd.ntmps12
  go_wp2
  refine bodyPost_ret (v := .tuple #[.agg #[.int .i64 39, .int .i64 1, .int .i64 0, .int .i64 3], .bool true]) (by simp [results, Tryd.results12, go_sem]) rfl ⟨rfl, ?_⟩
  exact below_alloc (Below.refl _ _) _
set_option maxRecDepth 100000 in
theorem of_49 (w : World) : Calls Tryd.prog 12 #[.int .i64 49] w fun e w' => e = .returned (.tuple #[.agg #[.int .i64 49, .int .i64 1, .int .i64 0, .int .i64 3], .bool true]) ∧ Below w.heap.size w w' := by
  go_enter Tryd.func12, Tryd.ntmps12
  go_wp2
  refine bodyPost_ret (v := .tuple #[.agg #[.int .i64 49, .int .i64 1, .int .i64 0, .int .i64 3], .bool true]) (by simp [results, Tryd.results12, go_sem]) rfl ⟨rfl, ?_⟩
  exact below_alloc (Below.refl _ _) _
set_option maxRecDepth 100000 in
theorem of_25 (w : World) : Calls Tryd.prog 12 #[.int .i64 25] w fun e w' => e = .returned (.tuple #[.agg #[.int .i64 25, .int .i64 1, .int .i64 0, .int .i64 4], .bool true]) ∧ Below w.heap.size w w' := by
  go_enter Tryd.func12, Tryd.ntmps12
  go_wp2
  refine bodyPost_ret (v := .tuple #[.agg #[.int .i64 25, .int .i64 1, .int .i64 0, .int .i64 4], .bool true]) (by simp [results, Tryd.results12, go_sem]) rfl ⟨rfl, ?_⟩
  exact below_alloc (Below.refl _ _) _
set_option maxRecDepth 100000 in
theorem of_32 (w : World) : Calls Tryd.prog 12 #[.int .i64 32] w fun e w' => e = .returned (.tuple #[.agg #[.int .i64 32, .int .i64 1, .int .i64 2, .int .i64 11], .bool true]) ∧ Below w.heap.size w w' := by
  go_enter Tryd.func12, Tryd.ntmps12
  go_wp2
  refine bodyPost_ret (v := .tuple #[.agg #[.int .i64 32, .int .i64 1, .int .i64 2, .int .i64 11], .bool true]) (by simp [results, Tryd.results12, go_sem]) rfl ⟨rfl, ?_⟩
  exact below_alloc (Below.refl _ _) _
set_option maxRecDepth 100000 in
theorem of_37 (w : World) : Calls Tryd.prog 12 #[.int .i64 37] w fun e w' => e = .returned (.tuple #[.agg #[.int .i64 37, .int .i64 2, .int .i64 0, .int .i64 12], .bool true]) ∧ Below w.heap.size w w' := by
  go_enter Tryd.func12, Tryd.ntmps12
  go_wp2
  refine bodyPost_ret (v := .tuple #[.agg #[.int .i64 37, .int .i64 2, .int .i64 0, .int .i64 12], .bool true]) (by simp [results, Tryd.results12, go_sem]) rfl ⟨rfl, ?_⟩
  exact below_alloc (Below.refl _ _) _
set_option maxRecDepth 100000 in
theorem of_38 (w : World) : Calls Tryd.prog 12 #[.int .i64 38] w fun e w' => e = .returned (.tuple #[.agg #[.int .i64 38, .int .i64 2, .int .i64 0, .int .i64 6], .bool true]) ∧ Below w.heap.size w w' := by
  go_enter Tryd.func12, Tryd.ntmps12
  go_wp2
  refine bodyPost_ret (v := .tuple #[.agg #[.int .i64 38, .int .i64 2, .int .i64 0, .int .i64 6], .bool true]) (by simp [results, Tryd.results12, go_sem]) rfl ⟨rfl, ?_⟩
  exact below_alloc (Below.refl _ _) _
set_option maxRecDepth 100000 in
theorem of_41 (w : World) : Calls Tryd.prog 12 #[.int .i64 41] w fun e w' => e = .returned (.tuple #[.agg #[.int .i64 41, .int .i64 3, .int .i64 0, .int .i64 8], .bool true]) ∧ Below w.heap.size w w' := by
  go_enter Tryd.func12, Tryd.ntmps12
  go_wp2
  refine bodyPost_ret (v := .tuple #[.agg #[.int .i64 41, .int .i64 3, .int .i64 0, .int .i64 8], .bool true]) (by simp [results, Tryd.results12, go_sem]) rfl ⟨rfl, ?_⟩
  exact below_alloc (Below.refl _ _) _
set_option maxRecDepth 100000 in
theorem of_42 (w : World) : Calls Tryd.prog 12 #[.int .i64 42] w fun e w' => e = .returned (.tuple #[.agg #[.int .i64 42, .int .i64 3, .int .i64 0, .int .i64 15], .bool true]) ∧ Below w.heap.size w w' := by
  go_enter Tryd.func12, Tryd.ntmps12
  go_wp2
  refine bodyPost_ret (v := .tuple #[.agg #[.int .i64 42, .int .i64 3, .int .i64 0, .int .i64 15], .bool true]) (by simp [results, Tryd.results12, go_sem]) rfl ⟨rfl, ?_⟩
  exact below_alloc (Below.refl _ _) _
set_option maxRecDepth 100000 in
theorem of_43 (w : World) : Calls Tryd.prog 12 #[.int .i64 43] w fun e w' => e = .returned (.tuple #[.agg #[.int .i64 43, .int .i64 3, .int .i64 2, .int .i64 40], .bool true]) ∧ Below w.heap.size w w' := by
  go_enter Tryd.func12, Tryd.ntmps12
  go_wp2
  refine bodyPost_ret (v := .tuple #[.agg #[.int .i64 43, .int .i64 3, .int .i64 2, .int .i64 40], .bool true]) (by simp [results, Tryd.results12, go_sem]) rfl ⟨rfl, ?_⟩
  exact below_alloc (Below.refl _ _) _
set_option maxRecDepth 100000 in
theorem of_48 (w : World) : Calls Tryd.prog 12 #[.int .i64 48] w fun e w' => e = .returned (.tuple #[.agg #[.int .i64 48, .int .i64 3, .int .i64 3, .int .i64 8], .bool true]) ∧ Below w.heap.size w w' := by
  go_enter Tryd.func12, Tryd.ntmps12
  go_wp2
  refine bodyPost_ret (v := .tuple #[.agg #[.int .i64 48, .int .i64 3, .int .i64 3, .int .i64 8], .bool true]) (by simp [results, Tryd.results12, go_sem]) rfl ⟨rfl, ?_⟩
  exact below_alloc (Below.refl _ _) _
set_option maxRecDepth 100000 in
theorem of_55 (w : World) : Calls Tryd.prog 12 #[.int .i64 55] w fun e w' => e = .returned (.tuple #[.agg #[.int .i64 55, .int .i64 4, .int .i64 3, .int .i64 255], .bool true]) ∧ Below w.heap.size w w' := by
  go_enter Tryd.func12, Tryd.ntmps12
  go_wp2
  refine bodyPost_ret (v := .tuple #[.agg #[.int .i64 55, .int .i64 4, .int .i64 3, .int .i64 255], .bool true]) (by simp [results, Tryd.results12, go_sem]) rfl ⟨rfl, ?_⟩
  exact below_alloc (Below.refl _ _) _
set_option maxRecDepth 100000 in
theorem of_56 (w : World) : Calls Tryd.prog 12 #[.int .i64 56] w fun e w' => e = .returned (.tuple #[.agg #[.int .i64 56, .int .i64 1, .int .i64 0, .int .i64 20], .bool true]) ∧ Below w.heap.size w w' := by
  go_enter Tryd.func12, Tryd.ntmps12
  go_wp2
  refine bodyPost_ret (v := .tuple #[.agg #[.int .i64 56, .int .i64 1, .int .i64 0, .int .i64 20], .bool true]) (by simp [results, Tryd.results12, go_sem]) rfl ⟨rfl, ?_⟩
  exact below_alloc (Below.refl _ _) _
set_option maxRecDepth 100000 in
theorem of_60 (w : World) : Calls Tryd.prog 12 #[.int .i64 60] w fun e w' => e = .returned (.tuple #[.agg #[.int .i64 60, .int .i64 3, .int .i64 3, .int .i64 100], .bool true]) ∧ Below w.heap.size w w' := by
  go_enter Tryd.func12, Tryd.ntmps12
  go_wp2
  refine bodyPost_ret (v := .tuple #[.agg #[.int .i64 60, .int .i64 3, .int .i64 3, .int .i64 100], .bool true]) (by simp [results, Tryd.results12, go_sem]) rfl ⟨rfl, ?_⟩
  exact below_alloc (Below.refl _ _) _
set_option maxRecDepth 100000 in
theorem of_61 (w : World) : Calls Tryd.prog 12 #[.int .i64 61] w fun e w' => e = .returned (.tuple #[.agg #[.int .i64 61, .int .i64 3, .int .i64 3, .int .i64 100], .bool true]) ∧ Below w.heap.size w w' := by
  go_enter Tryd.func12, Tryd.ntmps12
  go_wp2
  refine bodyPost_ret (v := .tuple #[.agg #[.int .i64 61, .int .i64 3, .int .i64 3, .int .i64 100], .bool true]) (by simp [results, Tryd.results12, go_sem]) rfl ⟨rfl, ?_⟩
  exact below_alloc (Below.refl _ _) _
set_option maxRecDepth 100000 in
theorem of_62 (w : World) : Calls Tryd.prog 12 #[.int .i64 62] w fun e w' => e = .returned (.tuple #[.agg #[.int .i64 62, .int .i64 3, .int .i64 3, .int .i64 100], .bool true]) ∧ Below w.heap.size w w' := by
  go_enter Tryd.func12, Tryd.ntmps12
  go_wp2
  refine bodyPost_ret (v := .tuple #[.agg #[.int .i64 62, .int .i64 3, .int .i64 3, .int .i64 100], .bool true]) (by simp [results, Tryd.results12, go_sem]) rfl ⟨rfl, ?_⟩
  exact below_alloc (Below.refl _ _) _
set_option maxRecDepth 100000 in
theorem of_63 (w : World) : Calls Tryd.prog 12 #[.int .i64 63] w fun e w' => e = .returned (.tuple #[.agg #[.int .i64 63, .int .i64 3, .int .i64 3, .int .i64 100], .bool true]) ∧ Below w.heap.size w w' := by
  go_enter Tryd.func12, Tryd.ntmps12
  go_wp2
  refine bodyPost_ret (v := .tuple #[.agg #[.int .i64 63, .int .i64 3, .int .i64 3, .int .i64 100], .bool true]) (by simp [results, Tryd.results12, go_sem]) rfl ⟨rfl, ?_⟩
  exact below_alloc (Below.refl _ _) _
set_option maxRecDepth 100000 in
theorem of_102 (w : World) : Calls Tryd.prog 12 #[.int .i64 102] w fun e w' => e = .returned (.tuple #[.agg #[.int .i64 102, .int .i64 3, .int .i64 2, .int .i64 28], .bool true]) ∧ Below w.heap.size w w' := by
  go_enter Tryd.func12, Tryd.ntmps12
  go_wp2
  refine bodyPost_ret (v := .tuple #[.agg #[.int .i64 102, .int .i64 3, .int .i64 2, .int .i64 28], .bool true]) (by simp [results, Tryd.results12, go_sem]) rfl ⟨rfl, ?_⟩
  exact below_alloc (Below.refl _ _) _
set_option maxRecDepth 100000 in
theorem of_103 (w : World) : Calls Tryd.prog 12 #[.int .i64 103] w fun e w' => e = .returned (.tuple #[.agg #[.int .i64 103, .int .i64 3, .int .i64 2, .int .i64 28], .bool true]) ∧ Below w.heap.size w w' := by
  go_enter Tryd.func12, Tryd.ntmps12
  go_wp2
  refine bodyPost_ret (v := .tuple #[.agg #[.int .i64 103, .int .i64 3, .int .i64 2, .int .i64 28], .bool true]) (by simp [results, Tryd.results12, go_sem]) rfl ⟨rfl, ?_⟩
  exact below_alloc (Below.refl _ _) _
set_option maxRecDepth 100000 in
theorem of_120 (w : World) : Calls Tryd.prog 12 #[.int .i64 120] w fun e w' => e = .returned (.tuple #[.agg #[.int .i64 120, .int .i64 4, .int .i64 4, .int .i64 999], .bool true]) ∧ Below w.heap.size w w' := by
  go_enter Tryd.func12, Tryd.ntmps12
  go_wp2
  refine bodyPost_ret (v := .tuple #[.agg #[.int .i64 120, .int .i64 4, .int .i64 4, .int .i64 999], .bool true]) (by simp [results, Tryd.results12, go_sem]) rfl ⟨rfl, ?_⟩
  exact below_alloc (Below.refl _ _) _
set_option maxRecDepth 100000 in
theorem of_none (no : Int) (w : World) (h2 : (no == 2) = false) (h4 : (no == 4) = false) (h11 : (no == 11) = false) (h12 : (no == 12) = false) (h22 : (no == 22) = false) (h39 : (no == 39) = false) (h49 : (no == 49) = false) (h25 : (no == 25) = false) (h32 : (no == 32) = false) (h37 : (no == 37) = false) (h38 : (no == 38) = false) (h41 : (no == 41) = false) (h42 : (no == 42) = false) (h43 : (no == 43) = false) (h48 : (no == 48) = false) (h55 : (no == 55) = false) (h56 : (no == 56) = false) (h60 : (no == 60) = false) (h61 : (no == 61) = false) (h62 : (no == 62) = false) (h63 : (no == 63) = false) (h102 : (no == 102) = false) (h103 : (no == 103) = false) (h120 : (no == 120) = false) : Calls Tryd.prog 12 #[.int .i64 no] w fun e w' => e = .returned (.tuple #[.agg #[.int .i64 0, .int .i64 0, .int .i64 0, .int .i64 0], .bool false]) ∧ Below w.heap.size w w' := by
  go_enter Tryd.func12, Tryd.ntmps12
  go_wp2
  refine bodyPost_ret (v := .tuple #[.agg #[.int .i64 0, .int .i64 0, .int .i64 0, .int .i64 0], .bool false]) (by simp [results, Tryd.results12, go_sem]) rfl ⟨rfl, ?_⟩
  exact below_alloc (Below.refl _ _) _
theorem element_Of (no : Int) (w : World) : Calls Tryd.prog 12 #[.int .i64 no] w fun e w' => e = .returned (.tuple #[.agg #[.int .i64 (fmtOf no).no, .int .i64 (fmtOf no).kind, .int .i64 (fmtOf no).digits, .int .i64 (fmtOf no).most], .bool (isEl no)]) ∧ Below w.heap.size w w' := by
  by_cases h2 : no = 2
  · subst h2; exact of_2 w
  by_cases h4 : no = 4
  · subst h4; exact of_4 w
  by_cases h11 : no = 11
  · subst h11; exact of_11 w
  by_cases h12 : no = 12
  · subst h12; exact of_12 w
  by_cases h22 : no = 22
  · subst h22; exact of_22 w
  by_cases h39 : no = 39
  · subst h39; exact of_39 w
  by_cases h49 : no = 49
  · subst h49; exact of_49 w
  by_cases h25 : no = 25
  · subst h25; exact of_25 w
  by_cases h32 : no = 32
  · subst h32; exact of_32 w
  by_cases h37 : no = 37
  · subst h37; exact of_37 w
  by_cases h38 : no = 38
  · subst h38; exact of_38 w
  by_cases h41 : no = 41
  · subst h41; exact of_41 w
  by_cases h42 : no = 42
  · subst h42; exact of_42 w
  by_cases h43 : no = 43
  · subst h43; exact of_43 w
  by_cases h48 : no = 48
  · subst h48; exact of_48 w
  by_cases h55 : no = 55
  · subst h55; exact of_55 w
  by_cases h56 : no = 56
  · subst h56; exact of_56 w
  by_cases h60 : no = 60
  · subst h60; exact of_60 w
  by_cases h61 : no = 61
  · subst h61; exact of_61 w
  by_cases h62 : no = 62
  · subst h62; exact of_62 w
  by_cases h63 : no = 63
  · subst h63; exact of_63 w
  by_cases h102 : no = 102
  · subst h102; exact of_102 w
  by_cases h103 : no = 103
  · subst h103; exact of_103 w
  by_cases h120 : no = 120
  · subst h120; exact of_120 w
  have e1 : fmtOf no = ⟨0, 0, 0, 0⟩ := by simp [fmtOf, table, List.find?, show ((2 : Int) == no) = false from beq_eq_false_iff_ne.2 (Ne.symm h2), show ((4 : Int) == no) = false from beq_eq_false_iff_ne.2 (Ne.symm h4), show ((11 : Int) == no) = false from beq_eq_false_iff_ne.2 (Ne.symm h11), show ((12 : Int) == no) = false from beq_eq_false_iff_ne.2 (Ne.symm h12), show ((22 : Int) == no) = false from beq_eq_false_iff_ne.2 (Ne.symm h22), show ((39 : Int) == no) = false from beq_eq_false_iff_ne.2 (Ne.symm h39), show ((49 : Int) == no) = false from beq_eq_false_iff_ne.2 (Ne.symm h49), show ((25 : Int) == no) = false from beq_eq_false_iff_ne.2 (Ne.symm h25), show ((32 : Int) == no) = false from beq_eq_false_iff_ne.2 (Ne.symm h32), show ((37 : Int) == no) = false from beq_eq_false_iff_ne.2 (Ne.symm h37), show ((38 : Int) == no) = false from beq_eq_false_iff_ne.2 (Ne.symm h38), show ((41 : Int) == no) = false from beq_eq_false_iff_ne.2 (Ne.symm h41), show ((42 : Int) == no) = false from beq_eq_false_iff_ne.2 (Ne.symm h42), show ((43 : Int) == no) = false from beq_eq_false_iff_ne.2 (Ne.symm h43), show ((48 : Int) == no) = false from beq_eq_false_iff_ne.2 (Ne.symm h48), show ((55 : Int) == no) = false from beq_eq_false_iff_ne.2 (Ne.symm h55), show ((56 : Int) == no) = false from beq_eq_false_iff_ne.2 (Ne.symm h56), show ((60 : Int) == no) = false from beq_eq_false_iff_ne.2 (Ne.symm h60), show ((61 : Int) == no) = false from beq_eq_false_iff_ne.2 (Ne.symm h61), show ((62 : Int) == no) = false from beq_eq_false_iff_ne.2 (Ne.symm h62), show ((63 : Int) == no) = false from beq_eq_false_iff_ne.2 (Ne.symm h63), show ((102 : Int) == no) = false from beq_eq_false_iff_ne.2 (Ne.symm h102), show ((103 : Int) == no) = false from beq_eq_false_iff_ne.2 (Ne.symm h103), show ((120 : Int) == no) = false from beq_eq_false_iff_ne.2 (Ne.symm h120)]
  have e2 : isEl no = false := by simp [isEl, table, Ne.symm h2, Ne.symm h4, Ne.symm h11, Ne.symm h12, Ne.symm h22, Ne.symm h39, Ne.symm h49, Ne.symm h25, Ne.symm h32, Ne.symm h37, Ne.symm h38, Ne.symm h41, Ne.symm h42, Ne.symm h43, Ne.symm h48, Ne.symm h55, Ne.symm h56, Ne.symm h60, Ne.symm h61, Ne.symm h62, Ne.symm h63, Ne.symm h102, Ne.symm h103, Ne.symm h120]
  rw [e1, e2]
  exact of_none no w (beq_eq_false_iff_ne.2 h2) (beq_eq_false_iff_ne.2 h4) (beq_eq_false_iff_ne.2 h11) (beq_eq_false_iff_ne.2 h12) (beq_eq_false_iff_ne.2 h22) (beq_eq_false_iff_ne.2 h39) (beq_eq_false_iff_ne.2 h49) (beq_eq_false_iff_ne.2 h25) (beq_eq_false_iff_ne.2 h32) (beq_eq_false_iff_ne.2 h37) (beq_eq_false_iff_ne.2 h38) (beq_eq_false_iff_ne.2 h41) (beq_eq_false_iff_ne.2 h42) (beq_eq_false_iff_ne.2 h43) (beq_eq_false_iff_ne.2 h48) (beq_eq_false_iff_ne.2 h55) (beq_eq_false_iff_ne.2 h56) (beq_eq_false_iff_ne.2 h60) (beq_eq_false_iff_ne.2 h61) (beq_eq_false_iff_ne.2 h62) (beq_eq_false_iff_ne.2 h63) (beq_eq_false_iff_ne.2 h102) (beq_eq_false_iff_ne.2 h103) (beq_eq_false_iff_ne.2 h120)
end Go.Proofs.YtonhmaklnkidhaaDoor.G
