/- What the functions of package element and of the verifier do, one contract each: a part of the proof; no conditions of its own (my own text, filled from XG2.lean.tpl). -/
import Derived.Test.YtonhmaklnkidhaaDoorG1
import Derived.StillTailTactics
import Derived.Deep.RegionWith
namespace Go.Proofs.YtonhmaklnkidhaaDoor.G
open Go.RowKit Go.Proofs.YtonhmaklnkidhaaDoorW.PrintWords

theorem ret_bool {a b : Bool} (h : a = b) : Ending.returned (.bool a) = .returned (.bool b) := by rw [h]
/-- a region that draws: what only reads first, the rest behind it -/
theorem still_tail {P : Program} {id : Nat} {Q : Exit → Act → World → Prop} {a : Act} {w : World} {l : List Oper} (n : Nat) (hm : P.follows .mixedOrders = true) (hB : Region.lexTailB .any l.toArray n = true)
    (h : wpStill P l.toArray w.drew (fun a' => wpList P l.toArray Q (l.drop n) a' w.drew) (l.take n) a) : (Code.region id l.toArray true).wp P Q a w :=
  wp_region_still_tail n hm hB h
def ansB (c : Int) : Bool := inSpans [(32, 126)] c
def alnB (c : Int) : Bool := inSpans [(48, 57), (65, 90), (97, 122)] c
theorem span_row1 (w : World) (a b : Int) (T : TypeId) : SpanRow (w.alloc (.cells #[.func (.func 98) #[.agg #[.int .u8 a, .int .u8 b]] #[]] T)) w.heap.size [(a, b)] := by
  intro j hj
  match j, hj with
  | 0, _ => rw [World.cell?_alloc_new]; rfl
theorem span_row3 (w : World) (a b c d e f : Int) (T : TypeId) : SpanRow (w.alloc (.cells #[.func (.func 98) #[.agg #[.int .u8 a, .int .u8 b]] #[], .func (.func 98) #[.agg #[.int .u8 c, .int .u8 d]] #[], .func (.func 98) #[.agg #[.int .u8 e, .int .u8 f]] #[]] T)) w.heap.size [(a, b), (c, d), (e, f)] := by
  intro j hj
  match j, hj with
  | 0, _ => rw [World.cell?_alloc_new]; rfl
  | 1, _ => rw [World.cell?_alloc_new]; rfl
  | 2, _ => rw [World.cell?_alloc_new]; rfl

def text_Ans.f (a0 : ByteArray) (a1 : Int) : Option Bool := if a0.size ≤ 9223372036854775807 then some (decide (1 ≤ a0.size) && decide ((a0.size : Int) ≤ a1) && allB ansB a0) else none
set_option maxRecDepth 100000 in
theorem text_Ans.calls (a0 : ByteArray) (a1 : Int) (r : Bool) (w : World) (h : text_Ans.f a0 a1 = some r) :
    Calls Tryd.prog 84 #[.string a0, .int .i64 a1] w fun e w' => e = .returned (.bool r) ∧ Below w.heap.size w w' := by
  unfold text_Ans.f at h
  split at h
  case isFalse => simp at h
  rename_i hs
  obtain rfl := Option.some.inj h
  clear h
  have hmf : ∀ (fn : Fn) (first cap : Array Value) (w : World), (Instr.makeFunc fn first cap).run Tryd.prog w = .ok (.func fn first cap) w := fun _ _ _ _ => rfl
  go_enter Tryd.func84, Tryd.ntmps84
  go_wp2_with (go_at_call 97; refine (text_all [(32, 126)] _ _ _ hs (by simp) (by simp) (span_row1 _ _ _ _)).mono ?_; rintro e w' ⟨rfl, hb⟩; have HB := Lib.hid (below_then ((Below.refl _ w).alloc (Nat.le_refl _) _) (by simp) hb); clear hb)
  · go_ret
    refine ⟨ret_bool ?_, HB.out⟩
    rw [decide_eq_true (by omega), decide_eq_true (by omega)]
    rfl
  all_goals
    go_ret
    refine ⟨?_, Below.refl _ _⟩
    first | (simp_all; done) | (simp; omega) | (congr 2; simp; omega)

def text_Aln.f (a0 : ByteArray) (a1 a2 : Int) : Option Bool := if a0.size ≤ 9223372036854775807 then some (decide (a1 ≤ a0.size) && decide ((a0.size : Int) ≤ a2) && allB alnB a0) else none
set_option maxRecDepth 100000 in
theorem text_Aln.calls (a0 : ByteArray) (a1 a2 : Int) (r : Bool) (w : World) (h : text_Aln.f a0 a1 a2 = some r) :
    Calls Tryd.prog 83 #[.string a0, .int .i64 a1, .int .i64 a2] w fun e w' => e = .returned (.bool r) ∧ Below w.heap.size w w' := by
  unfold text_Aln.f at h
  split at h
  case isFalse => simp at h
  rename_i hs
  obtain rfl := Option.some.inj h
  clear h
  have hmf : ∀ (fn : Fn) (first cap : Array Value) (w : World), (Instr.makeFunc fn first cap).run Tryd.prog w = .ok (.func fn first cap) w := fun _ _ _ _ => rfl
  go_enter Tryd.func83, Tryd.ntmps83
  go_wp2_with (go_at_call 97; refine (text_all [(48, 57), (65, 90), (97, 122)] _ _ _ hs (by simp) (by simp) (span_row3 _ _ _ _ _ _ _ _)).mono ?_; rintro e w' ⟨rfl, hb⟩; have HB := Lib.hid (below_then ((Below.refl _ w).alloc (Nat.le_refl _) _) (by simp) hb); clear hb)
  · go_ret
    refine ⟨ret_bool ?_, HB.out⟩
    rw [decide_eq_true (by omega), decide_eq_true (by omega)]
    rfl
  all_goals
    go_ret
    refine ⟨?_, Below.refl _ _⟩
    first | (simp_all; done) | (simp; omega) | (congr 2; simp; omega)

/-! element.right -/

def kindB (k : Int) (m : Int) (s : ByteArray) : Bool :=
  if k = 1 then decide ((s.size : Int) ≤ m) && allB digit s else if k = 2 then decide ((s.size : Int) ≤ m) && allB alnB s else if k = 3 then decide (1 ≤ s.size) && decide ((s.size : Int) ≤ m) && allB ansB s else true
def testOf (k : Int) : Nat := if k = 1 then 67 else if k = 2 then 68 else if k = 3 then 69 else 70
set_option maxRecDepth 100000 in
theorem test_calls (k : Int) (w : World) : Calls Tryd.prog 47 #[.int .i64 k] w fun e w' => e = .returned (.func (.func (testOf k)) #[] #[]) ∧ w = w' := by
  by_cases h1 : k = 1
  · rw [show testOf k = 67 by simp [testOf, h1]]
    have b1 : (k == 1) = true := beq_iff_eq.mpr h1
    clear h1
    go_enter Tryd.func47, Tryd.ntmps47
    go_wp2
    go_ret
    exact ⟨rfl, rfl⟩
  have b1 : (k == 1) = false := beq_eq_false_iff_ne.mpr h1
  by_cases h2 : k = 2
  · rw [show testOf k = 68 by simp [testOf, h2]]
    have b2 : (k == 2) = true := beq_iff_eq.mpr h2
    clear h1 h2
    go_enter Tryd.func47, Tryd.ntmps47
    go_wp2
    go_ret
    exact ⟨rfl, rfl⟩
  have b2 : (k == 2) = false := beq_eq_false_iff_ne.mpr h2
  by_cases h3 : k = 3
  · rw [show testOf k = 69 by simp [testOf, h3]]
    have b3 : (k == 3) = true := beq_iff_eq.mpr h3
    clear h1 h2 h3
    go_enter Tryd.func47, Tryd.ntmps47
    go_wp2
    go_ret
    exact ⟨rfl, rfl⟩
  have b3 : (k == 3) = false := beq_eq_false_iff_ne.mpr h3
  rw [show testOf k = 70 by simp [testOf, h1, h2, h3]]
  clear h1 h2 h3
  go_enter Tryd.func47, Tryd.ntmps47
  go_wp2
  go_ret
  exact ⟨rfl, rfl⟩

set_option maxRecDepth 100000 in
theorem kind_calls (k m : Int) (s : ByteArray) (w : World) (hs : s.size ≤ 9223372036854775807) : Calls Tryd.prog (testOf k) #[.string s, .int .i64 m] w fun e w' => e = .returned (.bool (kindB k m s)) ∧ Below w.heap.size w w' := by
  unfold testOf kindB
  split
  · go_enter Tryd.func67, Tryd.ntmps67
    go_wp2_with (go_at_call 33; refine (digits_Right.calls s 0 m (decide (0 ≤ (s.size : Int)) && decide ((s.size : Int) ≤ m) && allB digit s) _ (by rw [digits_Right.f, if_pos hs])).mono ?_; rintro e w' ⟨rfl, nd, rfl⟩)
    go_ret
    exact ⟨by simp, pw_below_drewN (Below.refl _ _) _⟩
  split
  · go_enter Tryd.func68, Tryd.ntmps68
    go_wp2_with (go_at_call 83; refine (text_Aln.calls s 0 m (decide (0 ≤ (s.size : Int)) && decide ((s.size : Int) ≤ m) && allB alnB s) _ (by rw [text_Aln.f, if_pos hs])).mono ?_; rintro e w' ⟨rfl, hb⟩; have HB := Lib.hid hb; clear hb)
    go_ret
    exact ⟨by simp, HB.out⟩
  split
  · go_enter Tryd.func69, Tryd.ntmps69
    go_wp2_with (go_at_call 84; refine (text_Ans.calls s m _ _ (by rw [text_Ans.f, if_pos hs])).mono ?_; rintro e w' ⟨rfl, hb⟩; have HB := Lib.hid hb; clear hb)
    go_ret
    exact ⟨by simp, HB.out⟩
  · go_enter Tryd.func70, Tryd.ntmps70
    go_wp2
    go_ret
    exact ⟨by simp, Below.refl _ _⟩

def element_right.f (_a0_0 a0_1 _a0_2 a0_3 : Int) (l1 : List Int) : Option Int := some (if kindB a0_1 a0_3 (strOfNums l1) then 0 else 14)
set_option maxHeartbeats 1000000 in
set_option maxRecDepth 100000 in
theorem element_right.calls (a0_0 a0_1 a0_2 a0_3 : Int) (A1 : Option Addr) (c1 : Nat) (l1 : List Int) (r : Int) (w : World) (hr1 : Kd.C (Kd.int .u8) w A1 l1.length l1) (_hc1 : l1.length ≤ c1) (h : element_right.f a0_0 a0_1 a0_2 a0_3 l1 = some r) :
    Calls Tryd.prog 27 #[.agg #[.int .i64 a0_0, .int .i64 a0_1, .int .i64 a0_2, .int .i64 a0_3], .slice A1 l1.length c1] w fun e w' => e = .returned (.int .i64 r) ∧ Below w.heap.size w w' := by
  have HR := Lib.hid (Option.some.inj h)
  clear h
  have hsz : (strOfNums l1).size ≤ 9223372036854775807 := by have := Kd.C_max hr1; rw [strOfNums_size]; exact this
  have eg : ∀ args w, (callFunc (testOf a0_1) args).run Tryd.prog w = .ok (.enter (testOf a0_1) args) w := by
    unfold testOf
    split
    · exact enters_of Tryd.func67 (by kernel_rfl) rfl
    split
    · exact enters_of Tryd.func68 (by kernel_rfl) rfl
    split
    · exact enters_of Tryd.func69 (by kernel_rfl) rfl
    · exact enters_of Tryd.func70 (by kernel_rfl) rfl
  have hcv := Kd.C_string (P := Tryd.prog) (src := 22) (dst := 78) Tryd.underlying22 Tryd.underlying5 Tryd.underlying78 (c := c1) (Kd.C_below hr1 (below_drew (below_alloc (Below.refl w.heap.size w) (.cells #[.int .i64 a0_0, .int .i64 a0_1, .int .i64 a0_2, .int .i64 a0_3] 32))))
  go_enter Tryd.func27, Tryd.ntmps27
  go_wp2_with fail
  refine still_tail 7 (by kernel_rfl) (by kernel_rfl) ?_
  simp only [List.take_succ_cons, List.take_zero, List.drop_succ_cons, List.drop_zero]
  still_step
  still_step
  still_call ((test_calls _ _).mono fun e w' ⟨he, hw⟩ => ⟨he, hw.symm⟩)
  still_step
  still_step
  still_step
  still_step
  refine wpStill_nil ?_
  have HW : Hid (Below w.heap.size w (w.alloc (.cells #[.int .i64 a0_0, .int .i64 a0_1, .int .i64 a0_2, .int .i64 a0_3] 32)).drew) := Lib.hid (below_drew (below_alloc (Below.refl _ _) _))
  cases hk : kindB a0_1 a0_3 (strOfNums l1)
  all_goals
    go_wp2_with (refine (kind_calls a0_1 a0_3 _ _ hsz).mono ?_; rintro e w1 ⟨rfl, hb⟩; have HB := Lib.hid (below_step HW.out hb); clear hb)
    go_ret
    exact ⟨by rw [← HR.out, hk]; rfl, HB.out⟩
end Go.Proofs.YtonhmaklnkidhaaDoor.G
