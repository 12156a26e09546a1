/- What the functions of package element and of the verifier do, one contract each: a part of the proof; no conditions of its own (my own text, filled from XT8.lean.tpl). -/
import Derived.Test.YtonhmaklnkidhaaDoorT6
namespace Go.Proofs.YtonhmaklnkidhaaDoor.G
open Go.RowKit Go.Proofs.YtonhmaklnkidhaaDoorW.PrintWords
set_option linter.unusedVariables false

set_option maxHeartbeats 3200000 in
set_option maxRecDepth 100000 in
theorem kinds_r5 (c : Int) (w : World) (h1 : decide (48 ≤ c) = true) (h2 : decide (c ≤ 57) = false) (h3 : decide (65 ≤ c) = true) (h4 : decide (c ≤ 90) = true) (h5 : decide (97 ≤ c) = false) (h6 : decide (c ≤ 122) = true) (h7 : decide (32 ≤ c) = true) (h8 : decide (c ≤ 126) = true) (k2 : Hid (KAsk w c 2 12 false)) (k37 : Hid (KAsk w c 37 12 true)) (k43 : Hid (KAsk w c 43 3 true)) (k120 : Hid (KAsk w c 120 5 true)) (k55 : Hid (KAsk w c 55 1 true)) :
    Calls Tryd.prog 3 #[.int .u8 c] w fun e w' => e = .returned (.bool true) ∧ Below w.heap.size w w' := by
  have hmf : ∀ (fn : Fn) (first cap : Array Value) (w : World), (Instr.makeFunc fn first cap).run Tryd.prog w = .ok (.func fn first cap) w := fun _ _ _ _ => rfl
  have H1 := Lib.hid (below_alloc (Below.refl w.heap.size w) (.cells #[.int .u8 c] 5))
  go_enter Tryd.func3, Tryd.ntmps3
  go_wp2_with fail
  have H1o := H1.out
  go_region_held3 (fun w' => w'.cell? ⟨w.heap.size, 0, none⟩ = some (.int .u8 c) ∧ Below w.heap.size w w')
      (first
        | ((try dsimp only); first | assumption | (go_split_ands; exact ⟨by assumption, by assumption⟩))
        | (exact ⟨by go_simp, below_drew H1o⟩)
        | (go_split_ands; (try dsimp only); exact ⟨(hb.cell (p := ⟨_, 0, none⟩) (World.block_lt_of_cell? _ _ (by assumption))).trans (by assumption), below_then (by assumption) (below_size (by assumption)) hb⟩))
      (first
        | (go_at_call 11; refine (awake16 _).mono ?_; rintro e w' ⟨rfl, hb⟩)
        | (go_at_call 9; with_reducible refine (k2.out _ (by go_split_ands; assumption)).mono ?_; rintro e w' ⟨rfl, hb⟩)
        | (go_at_call 9; with_reducible refine (k37.out _ (by go_split_ands; assumption)).mono ?_; rintro e w' ⟨rfl, hb⟩)
        | (go_at_call 9; with_reducible refine (k43.out _ (by go_split_ands; assumption)).mono ?_; rintro e w' ⟨rfl, hb⟩)
        | (go_at_call 9; with_reducible refine (k120.out _ (by go_split_ands; assumption)).mono ?_; rintro e w' ⟨rfl, hb⟩)
        | (go_at_call 9; with_reducible refine (k55.out _ (by go_split_ands; assumption)).mono ?_; rintro e w' ⟨rfl, hb⟩))
  all_goals
    go_split_ands
    go_wp2_with fail
    go_ret
    exact ⟨rfl, by assumption⟩

set_option maxHeartbeats 3200000 in
set_option maxRecDepth 100000 in
theorem kinds_r6 (c : Int) (w : World) (h1 : decide (48 ≤ c) = true) (h2 : decide (c ≤ 57) = false) (h3 : decide (65 ≤ c) = true) (h4 : decide (c ≤ 90) = false) (h5 : decide (97 ≤ c) = false) (h6 : decide (c ≤ 122) = true) (h7 : decide (32 ≤ c) = true) (h8 : decide (c ≤ 126) = true) (k2 : Hid (KAsk w c 2 12 false)) (k37 : Hid (KAsk w c 37 12 false)) (k43 : Hid (KAsk w c 43 3 true)) (k120 : Hid (KAsk w c 120 5 true)) (k55 : Hid (KAsk w c 55 1 true)) :
    Calls Tryd.prog 3 #[.int .u8 c] w fun e w' => e = .returned (.bool true) ∧ Below w.heap.size w w' := by
  have hmf : ∀ (fn : Fn) (first cap : Array Value) (w : World), (Instr.makeFunc fn first cap).run Tryd.prog w = .ok (.func fn first cap) w := fun _ _ _ _ => rfl
  have H1 := Lib.hid (below_alloc (Below.refl w.heap.size w) (.cells #[.int .u8 c] 5))
  go_enter Tryd.func3, Tryd.ntmps3
  go_wp2_with fail
  have H1o := H1.out
  go_region_held3 (fun w' => w'.cell? ⟨w.heap.size, 0, none⟩ = some (.int .u8 c) ∧ Below w.heap.size w w')
      (first
        | ((try dsimp only); first | assumption | (go_split_ands; exact ⟨by assumption, by assumption⟩))
        | (exact ⟨by go_simp, below_drew H1o⟩)
        | (go_split_ands; (try dsimp only); exact ⟨(hb.cell (p := ⟨_, 0, none⟩) (World.block_lt_of_cell? _ _ (by assumption))).trans (by assumption), below_then (by assumption) (below_size (by assumption)) hb⟩))
      (first
        | (go_at_call 11; refine (awake16 _).mono ?_; rintro e w' ⟨rfl, hb⟩)
        | (go_at_call 9; with_reducible refine (k2.out _ (by go_split_ands; assumption)).mono ?_; rintro e w' ⟨rfl, hb⟩)
        | (go_at_call 9; with_reducible refine (k37.out _ (by go_split_ands; assumption)).mono ?_; rintro e w' ⟨rfl, hb⟩)
        | (go_at_call 9; with_reducible refine (k43.out _ (by go_split_ands; assumption)).mono ?_; rintro e w' ⟨rfl, hb⟩)
        | (go_at_call 9; with_reducible refine (k120.out _ (by go_split_ands; assumption)).mono ?_; rintro e w' ⟨rfl, hb⟩)
        | (go_at_call 9; with_reducible refine (k55.out _ (by go_split_ands; assumption)).mono ?_; rintro e w' ⟨rfl, hb⟩))
  all_goals
    go_split_ands
    go_wp2_with fail
    go_ret
    exact ⟨rfl, by assumption⟩

set_option maxHeartbeats 3200000 in
set_option maxRecDepth 100000 in
theorem kinds_r7 (c : Int) (w : World) (h1 : decide (48 ≤ c) = true) (h2 : decide (c ≤ 57) = false) (h3 : decide (65 ≤ c) = true) (h4 : decide (c ≤ 90) = false) (h5 : decide (97 ≤ c) = true) (h6 : decide (c ≤ 122) = true) (h7 : decide (32 ≤ c) = true) (h8 : decide (c ≤ 126) = true) (k2 : Hid (KAsk w c 2 12 false)) (k37 : Hid (KAsk w c 37 12 true)) (k43 : Hid (KAsk w c 43 3 true)) (k120 : Hid (KAsk w c 120 5 true)) (k55 : Hid (KAsk w c 55 1 true)) :
    Calls Tryd.prog 3 #[.int .u8 c] w fun e w' => e = .returned (.bool true) ∧ Below w.heap.size w w' := by
  have hmf : ∀ (fn : Fn) (first cap : Array Value) (w : World), (Instr.makeFunc fn first cap).run Tryd.prog w = .ok (.func fn first cap) w := fun _ _ _ _ => rfl
  have H1 := Lib.hid (below_alloc (Below.refl w.heap.size w) (.cells #[.int .u8 c] 5))
  go_enter Tryd.func3, Tryd.ntmps3
  go_wp2_with fail
  have H1o := H1.out
  go_region_held3 (fun w' => w'.cell? ⟨w.heap.size, 0, none⟩ = some (.int .u8 c) ∧ Below w.heap.size w w')
      (first
        | ((try dsimp only); first | assumption | (go_split_ands; exact ⟨by assumption, by assumption⟩))
        | (exact ⟨by go_simp, below_drew H1o⟩)
        | (go_split_ands; (try dsimp only); exact ⟨(hb.cell (p := ⟨_, 0, none⟩) (World.block_lt_of_cell? _ _ (by assumption))).trans (by assumption), below_then (by assumption) (below_size (by assumption)) hb⟩))
      (first
        | (go_at_call 11; refine (awake16 _).mono ?_; rintro e w' ⟨rfl, hb⟩)
        | (go_at_call 9; with_reducible refine (k2.out _ (by go_split_ands; assumption)).mono ?_; rintro e w' ⟨rfl, hb⟩)
        | (go_at_call 9; with_reducible refine (k37.out _ (by go_split_ands; assumption)).mono ?_; rintro e w' ⟨rfl, hb⟩)
        | (go_at_call 9; with_reducible refine (k43.out _ (by go_split_ands; assumption)).mono ?_; rintro e w' ⟨rfl, hb⟩)
        | (go_at_call 9; with_reducible refine (k120.out _ (by go_split_ands; assumption)).mono ?_; rintro e w' ⟨rfl, hb⟩)
        | (go_at_call 9; with_reducible refine (k55.out _ (by go_split_ands; assumption)).mono ?_; rintro e w' ⟨rfl, hb⟩))
  all_goals
    go_split_ands
    go_wp2_with fail
    go_ret
    exact ⟨rfl, by assumption⟩

set_option maxHeartbeats 3200000 in
set_option maxRecDepth 100000 in
theorem kinds_r8 (c : Int) (w : World) (h1 : decide (48 ≤ c) = true) (h2 : decide (c ≤ 57) = false) (h3 : decide (65 ≤ c) = true) (h4 : decide (c ≤ 90) = false) (h5 : decide (97 ≤ c) = true) (h6 : decide (c ≤ 122) = false) (h7 : decide (32 ≤ c) = true) (h8 : decide (c ≤ 126) = true) (k2 : Hid (KAsk w c 2 12 false)) (k37 : Hid (KAsk w c 37 12 false)) (k43 : Hid (KAsk w c 43 3 true)) (k120 : Hid (KAsk w c 120 5 true)) (k55 : Hid (KAsk w c 55 1 true)) :
    Calls Tryd.prog 3 #[.int .u8 c] w fun e w' => e = .returned (.bool true) ∧ Below w.heap.size w w' := by
  have hmf : ∀ (fn : Fn) (first cap : Array Value) (w : World), (Instr.makeFunc fn first cap).run Tryd.prog w = .ok (.func fn first cap) w := fun _ _ _ _ => rfl
  have H1 := Lib.hid (below_alloc (Below.refl w.heap.size w) (.cells #[.int .u8 c] 5))
  go_enter Tryd.func3, Tryd.ntmps3
  go_wp2_with fail
  have H1o := H1.out
  go_region_held3 (fun w' => w'.cell? ⟨w.heap.size, 0, none⟩ = some (.int .u8 c) ∧ Below w.heap.size w w')
      (first
        | ((try dsimp only); first | assumption | (go_split_ands; exact ⟨by assumption, by assumption⟩))
        | (exact ⟨by go_simp, below_drew H1o⟩)
        | (go_split_ands; (try dsimp only); exact ⟨(hb.cell (p := ⟨_, 0, none⟩) (World.block_lt_of_cell? _ _ (by assumption))).trans (by assumption), below_then (by assumption) (below_size (by assumption)) hb⟩))
      (first
        | (go_at_call 11; refine (awake16 _).mono ?_; rintro e w' ⟨rfl, hb⟩)
        | (go_at_call 9; with_reducible refine (k2.out _ (by go_split_ands; assumption)).mono ?_; rintro e w' ⟨rfl, hb⟩)
        | (go_at_call 9; with_reducible refine (k37.out _ (by go_split_ands; assumption)).mono ?_; rintro e w' ⟨rfl, hb⟩)
        | (go_at_call 9; with_reducible refine (k43.out _ (by go_split_ands; assumption)).mono ?_; rintro e w' ⟨rfl, hb⟩)
        | (go_at_call 9; with_reducible refine (k120.out _ (by go_split_ands; assumption)).mono ?_; rintro e w' ⟨rfl, hb⟩)
        | (go_at_call 9; with_reducible refine (k55.out _ (by go_split_ands; assumption)).mono ?_; rintro e w' ⟨rfl, hb⟩))
  all_goals
    go_split_ands
    go_wp2_with fail
    go_ret
    exact ⟨rfl, by assumption⟩

set_option maxHeartbeats 3200000 in
set_option maxRecDepth 100000 in
theorem kinds_r9 (c : Int) (w : World) (h1 : decide (48 ≤ c) = true) (h2 : decide (c ≤ 57) = false) (h3 : decide (65 ≤ c) = true) (h4 : decide (c ≤ 90) = false) (h5 : decide (97 ≤ c) = true) (h6 : decide (c ≤ 122) = false) (h7 : decide (32 ≤ c) = true) (h8 : decide (c ≤ 126) = false) (k2 : Hid (KAsk w c 2 12 false)) (k37 : Hid (KAsk w c 37 12 false)) (k43 : Hid (KAsk w c 43 3 false)) (k120 : Hid (KAsk w c 120 5 true)) (k55 : Hid (KAsk w c 55 1 true)) :
    Calls Tryd.prog 3 #[.int .u8 c] w fun e w' => e = .returned (.bool true) ∧ Below w.heap.size w w' := by
  have hmf : ∀ (fn : Fn) (first cap : Array Value) (w : World), (Instr.makeFunc fn first cap).run Tryd.prog w = .ok (.func fn first cap) w := fun _ _ _ _ => rfl
  have H1 := Lib.hid (below_alloc (Below.refl w.heap.size w) (.cells #[.int .u8 c] 5))
  go_enter Tryd.func3, Tryd.ntmps3
  go_wp2_with fail
  have H1o := H1.out
  go_region_held3 (fun w' => w'.cell? ⟨w.heap.size, 0, none⟩ = some (.int .u8 c) ∧ Below w.heap.size w w')
      (first
        | ((try dsimp only); first | assumption | (go_split_ands; exact ⟨by assumption, by assumption⟩))
        | (exact ⟨by go_simp, below_drew H1o⟩)
        | (go_split_ands; (try dsimp only); exact ⟨(hb.cell (p := ⟨_, 0, none⟩) (World.block_lt_of_cell? _ _ (by assumption))).trans (by assumption), below_then (by assumption) (below_size (by assumption)) hb⟩))
      (first
        | (go_at_call 11; refine (awake16 _).mono ?_; rintro e w' ⟨rfl, hb⟩)
        | (go_at_call 9; with_reducible refine (k2.out _ (by go_split_ands; assumption)).mono ?_; rintro e w' ⟨rfl, hb⟩)
        | (go_at_call 9; with_reducible refine (k37.out _ (by go_split_ands; assumption)).mono ?_; rintro e w' ⟨rfl, hb⟩)
        | (go_at_call 9; with_reducible refine (k43.out _ (by go_split_ands; assumption)).mono ?_; rintro e w' ⟨rfl, hb⟩)
        | (go_at_call 9; with_reducible refine (k120.out _ (by go_split_ands; assumption)).mono ?_; rintro e w' ⟨rfl, hb⟩)
        | (go_at_call 9; with_reducible refine (k55.out _ (by go_split_ands; assumption)).mono ?_; rintro e w' ⟨rfl, hb⟩))
  all_goals
    go_split_ands
    go_wp2_with fail
    go_ret
    exact ⟨rfl, by assumption⟩
end Go.Proofs.YtonhmaklnkidhaaDoor.G
