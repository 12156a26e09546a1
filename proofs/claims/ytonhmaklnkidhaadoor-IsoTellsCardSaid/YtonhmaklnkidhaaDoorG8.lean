/- What the functions of package element and of the verifier do, one contract each: a part of the proof; no conditions of its own (my own text, filled from XG8.lean.tpl). -/
import Derived.Test.YtonhmaklnkidhaaDoorG7
namespace Go.Proofs.YtonhmaklnkidhaaDoor.G
open Go.RowKit Go.Proofs.YtonhmaklnkidhaaDoorW.PrintWords

/-- a row of bytes of the call's own -/
abbrev OB (w : World) (base : Nat) (v : Value) (l : List Int) : Prop := Kd.R (Kd.int .u8) 5 w base (fun _ => True) v l
theorem fmt_bounds (no : Int) : 0 ≤ (fmtOf no).digits ∧ (fmtOf no).digits ≤ 4 ∧ 0 ≤ (fmtOf no).most ∧ (fmtOf no).most ≤ 999 := by
  have ht : ∀ f ∈ table, 0 ≤ f.digits ∧ f.digits ≤ 4 ∧ 0 ≤ f.most ∧ f.most ≤ 999 := by decide
  unfold fmtOf
  cases h : table.find? fun f => f.no == no with
  | none => decide
  | some f => exact ht f (List.mem_of_find?_eq_some h)
theorem long_le {F : Fmt} {n : Int} (h : longB F n = true) : n ≤ F.most := by
  unfold longB at h
  simp at h
  omega
theorem size_bounds (no : Int) (l : List Int) : 0 ≤ (sizeOf (fmtOf no) l).1 ∧ (sizeOf (fmtOf no) l).1 ≤ 999 := by
  have hb := fmt_bounds no
  unfold sizeOf
  have hn := numberOf_bound (strOfNums (l.take (fmtOf no).digits.toNat))
  split
  · exact ⟨hb.2.2.1, hb.2.2.2⟩
  split
  · exact ⟨Int.le_refl 0, (by decide : (0 : Int) ≤ 999)⟩
  split
  · exact ⟨Int.le_refl 0, (by decide : (0 : Int) ≤ 999)⟩
  split
  · exact ⟨Int.le_refl 0, (by decide : (0 : Int) ≤ 999)⟩
  · rename_i h
    have := long_le (by simpa using h)
    exact ⟨hn.1, by omega⟩
def rightOf (F : Fmt) (m : List Int) : Int := if kindB F.kind F.most (strOfNums m) then 0 else 14
/-- an element's bytes, how many were read, and why not -/
def readOf (no : Int) (l : List Int) : List Int × Int × Int :=
  if isEl no = false then ([], 0, 16) else
  if (sizeOf (fmtOf no) l).2 ≠ 0 then ([], 0, (sizeOf (fmtOf no) l).2) else
  if (l.length : Int) < (fmtOf no).digits + (sizeOf (fmtOf no) l).1 then ([], 0, 3) else
  if rightOf (fmtOf no) ((l.take ((fmtOf no).digits + (sizeOf (fmtOf no) l).1).toNat).drop (fmtOf no).digits.toNat) ≠ 0 then ([], 0, rightOf (fmtOf no) ((l.take ((fmtOf no).digits + (sizeOf (fmtOf no) l).1).toNat).drop (fmtOf no).digits.toNat)) else
  ((l.take ((fmtOf no).digits + (sizeOf (fmtOf no) l).1).toNat).drop (fmtOf no).digits.toNat, (fmtOf no).digits + (sizeOf (fmtOf no) l).1, 0)
/-- bytes handed back, beside plain values -/
def ReadPost (w : World) (r : List Int × Int × Int) (e : Ending) (w' : World) : Prop :=
  ∃ v : Value, e = .returned (.tuple #[v, .int .i64 r.2.1, .int .i64 r.2.2]) ∧ OB w' w.heap.size v r.1 ∧ Below w.heap.size w w'
theorem ReadPost.none_ {w w' : World} {n x : Int} (hb : Below w.heap.size w w') : ReadPost w ([], n, x) (.returned (.tuple #[.slice none 0 0, .int .i64 n, .int .i64 x])) w' :=
  ⟨_, rfl, Kd.R_nil _ _ _ _ _, hb⟩
set_option maxHeartbeats 1600000 in
set_option maxRecDepth 100000 in
theorem element_Read (no : Int) (A : Option Addr) (c : Nat) (l : List Int) (w : World) (hr : RB w A l) (hc : l.length ≤ c) :
    Calls Tryd.prog 16 #[.int .i64 no, .slice A l.length c] w (ReadPost w (readOf no l)) := by
  obtain ⟨X, hX⟩ : ∃ X, X = readOf no l := ⟨_, rfl⟩
  rw [← hX]
  unfold readOf at hX
  have hfb := fmt_bounds no
  have hsb := size_bounds no l
  have hl63 := Kd.C_max hr
  have hO := fun W => element_Of no W
  have hS : ∀ W, RB W A l → Calls Tryd.prog 30 #[.agg #[.int .i64 (fmtOf no).no, .int .i64 (fmtOf no).kind, .int .i64 (fmtOf no).digits, .int .i64 (fmtOf no).most], .slice A l.length c] W fun e w' => e = .returned (.tuple #[.int .i64 (sizeOf (fmtOf no) l).1, .int .i64 (sizeOf (fmtOf no) l).2]) ∧ Below W.heap.size W w' := fun W hW => element_size (fmtOf no) hfb.1 A c l W hW hc
  generalize fmtOf no = F at *
  generalize isEl no = I at *
  generalize sizeOf F l = N at *
  obtain ⟨n, q⟩ := N
  simp only at hX hsb hS
  obtain ⟨hd0, hd4, hm0, hm9⟩ := hfb
  obtain ⟨hn0, hn9⟩ := hsb
  have HO := Lib.hid hO
  have HS := Lib.hid hS
  clear hO hS
  cases I
  · have HX : Hid (X = ([], 0, 16)) := Lib.hid (by rw [hX, if_pos rfl])
    clear hX
    go_enter Tryd.func16, Tryd.ntmps16
    go_wp2_with (go_at_call 12; refine (HO.out _).mono ?_; rintro e w1 ⟨rfl, hb⟩; have HB := Lib.hid hb; clear hb)
    go_ret3
    rw [HX.out]
    exact ReadPost.none_ (below_alloc HB.out _)
  rw [if_neg (by simp)] at hX
  by_cases h2 : q = 0
  case neg =>
    have HX : Hid (X = ([], 0, q)) := Lib.hid (by rw [hX, if_pos h2])
    have b2 : (q != 0) = true := bne_iff_ne.2 h2
    clear hX h2
    go_enter Tryd.func16, Tryd.ntmps16
    go_wp2_with (go_at_call 12; refine (HO.out _).mono ?_; rintro e w1 ⟨rfl, hb⟩; have HB := Lib.hid hb; clear hb)
    refine (HS.out _ (hr.below (below_alloc HB.out _))).mono ?_
    rintro e w2 ⟨rfl, hb⟩
    have HB2 := Lib.hid (below_then (below_alloc HB.out _) (by have := HB.out.size; simp; omega) hb)
    clear hb
    go_wp2
    go_ret3
    rw [HX.out]
    exact ReadPost.none_ HB2.out
  rw [if_neg (by simp [h2])] at hX
  have b2 : (q != 0) = false := bne_eq_false_iff_eq.2 h2
  clear h2
  by_cases h3 : (l.length : Int) < F.digits + n
  · have HX : Hid (X = ([], 0, 3)) := Lib.hid (by rw [hX, if_pos h3])
    clear hX
    go_enter Tryd.func16, Tryd.ntmps16
    go_wp2_with (go_at_call 12; refine (HO.out _).mono ?_; rintro e w1 ⟨rfl, hb⟩; have HB := Lib.hid hb; clear hb)
    refine (HS.out _ (hr.below (below_alloc HB.out _))).mono ?_
    rintro e w2 ⟨rfl, hb⟩
    have HB2 := Lib.hid (below_then (below_alloc HB.out _) (by have := HB.out.size; simp; omega) hb)
    obtain ⟨hc2, hf2⟩ := bcell hb
    clear hb
    go_wp2
    go_ret3
    rw [HX.out]
    exact ReadPost.none_ HB2.out
  rw [if_neg h3] at hX
  obtain ⟨A', hm1, hm2, hm3⟩ := cut_mid A c l F.digits (F.digits + n) hd0 (by omega) (by omega) hc
  have hml : ((l.take (F.digits + n).toNat).drop F.digits.toNat).length ≤ 999 := by rw [List.length_drop, List.length_take]; omega
  generalize (l.take (F.digits + n).toNat).drop F.digits.toNat = M at *
  have hR : ∀ W, RB W A' M → Calls Tryd.prog 27 #[.agg #[.int .i64 F.no, .int .i64 F.kind, .int .i64 F.digits, .int .i64 F.most], .slice A' M.length (c - F.digits.toNat)] W fun e w' => e = .returned (.int .i64 (rightOf F M)) ∧ Below W.heap.size W w' := fun W hW => element_right.calls F.no F.kind F.digits F.most A' _ M (rightOf F M) W hW hm3 rfl
  generalize rightOf F M = r at *
  have HR := Lib.hid hR
  have HM := Lib.hid hm2
  clear hR hm2
  have hl3 : ¬ ((l.length : Int) < F.digits + n) := h3
  clear h3
  by_cases hr0 : r = 0
  case neg =>
    have HX : Hid (X = ([], 0, r)) := Lib.hid (by rw [hX, if_pos hr0])
    have br : (r != 0) = true := bne_iff_ne.2 hr0
    clear hX hr0
    go_enter Tryd.func16, Tryd.ntmps16
    go_wp2_with (go_at_call 12; refine (HO.out _).mono ?_; rintro e w1 ⟨rfl, hb⟩; have HB := Lib.hid hb; clear hb)
    refine (HS.out _ (hr.below (below_alloc HB.out _))).mono ?_
    rintro e w2 ⟨rfl, hb⟩
    have HB2 := Lib.hid (below_then (below_alloc HB.out _) (by have := HB.out.size; simp; omega) hb)
    obtain ⟨hc2, hf2⟩ := bcell hb
    clear hb
    go_wp2_with fail
    refine still_tail 6 (by kernel_rfl) (by kernel_rfl) ?_
    simp only [List.take_succ_cons, List.take_zero, List.drop_succ_cons, List.drop_zero]
    still_step
    still_step
    still_step
    still_step
    still_step
    still_step
    refine wpStill_nil ?_
    go_wp2_with fail
    refine (HR.out _ (HM.out _ (hr.below (below_drew HB2.out)))).mono ?_
    rintro e w3 ⟨rfl, hb⟩
    have HB3 := Lib.hid (below_then (below_drew HB2.out) (by have := HB2.out.size; simp; omega) hb)
    clear hb
    go_wp2
    go_ret3
    rw [HX.out]
    exact ReadPost.none_ HB3.out
  have HX : Hid (X = (M, F.digits + n, 0)) := Lib.hid (by rw [hX, if_neg (by simp [hr0])])
  have br : (r != 0) = false := bne_eq_false_iff_eq.2 hr0
  clear hX hr0
  go_enter Tryd.func16, Tryd.ntmps16
  go_wp2_with (go_at_call 12; refine (HO.out _).mono ?_; rintro e w1 ⟨rfl, hb⟩; have HB := Lib.hid hb; clear hb)
  refine (HS.out _ (hr.below (below_alloc HB.out _))).mono ?_
  rintro e w2 ⟨rfl, hb⟩
  have HB2 := Lib.hid (below_then (below_alloc HB.out _) (by have := HB.out.size; simp; omega) hb)
  obtain ⟨hc2, hf2⟩ := bcell hb
  have hz2 : w1.heap.size < w2.heap.size := Nat.lt_of_lt_of_le (by simp) hb.size
  clear hb
  go_wp2_with fail
  refine still_tail 6 (by kernel_rfl) (by kernel_rfl) ?_
  simp only [List.take_succ_cons, List.take_zero, List.drop_succ_cons, List.drop_zero]
  still_step
  still_step
  still_step
  still_step
  still_step
  still_step
  refine wpStill_nil ?_
  go_wp2_with fail
  refine (HR.out _ (HM.out _ (hr.below (below_drew HB2.out)))).mono ?_
  rintro e w3 ⟨rfl, hb⟩
  have HB3 := Lib.hid (below_then (below_drew HB2.out) (by have := HB2.out.size; simp; omega) hb)
  have k3 : w3.cell? ⟨w1.heap.size, 2, none⟩ = some (.int .i64 F.digits) := (hb.cell (p := ⟨w1.heap.size, 2, none⟩) hz2).trans ((hc2 _ _ (by simp)).trans (World.cell?_alloc_new _ _ _ _))
  clear hb
  go_wp2_with (at_builtin; refine Kd.R_append_row (Value.int .u8) 0 (h1 := fun _ => rfl) (w0 := w) w.heap.size rfl (.const (.slice none 0 0)) (.tmp 50) 22 5 (.int .u8 0) 1 rfl Tryd.underlying22 info_u8 rfl (by decide) (.slice none 0 0) [] M A' M.length _ (fun _ => True) rfl rfl (fun _ _ => trivial) (Kd.R_nil _ _ _ _ _) (HM.out _ (hr.below HB3.out)) HB3.out HB3.out.size (by simp; omega) ?_; intro v1 w5 ho hb hg hat; have HOw := Lib.hid ho; have HB5 := Lib.hid hb; clear ho hb hg hat)
  go_ret3
  rw [HX.out]
  exact ⟨v1, rfl, HOw.out, HB5.out⟩
end Go.Proofs.YtonhmaklnkidhaaDoor.G
