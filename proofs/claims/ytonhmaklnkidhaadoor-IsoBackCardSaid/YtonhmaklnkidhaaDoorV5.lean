/- What the functions of package element and of the verifier do, one contract each: a part of the proof; no conditions of its own (my own text, filled from XV5.lean.tpl). -/
import Derived.Test.YtonhmaklnkidhaaDoorV4
namespace Go.Proofs.YtonhmaklnkidhaaDoor.G
open Go.RowKit Go.Proofs.YtonhmaklnkidhaaDoorW.PrintWords

/-! ### the verifier's helpers, of like things -/
set_option maxHeartbeats 800000 in
set_option maxRecDepth 100000 in
theorem help_Bytes (A B : Option Addr) (c c' : Nat) (l : List Int) (w : World) (ha : RB w A l) (hb : RB w B l) :
    Calls Tryd.prog 24 #[.slice A l.length c, .slice B l.length c'] w fun e w' => e = .returned (.bool true) ∧ w = w' := by
  have s1 := RB.string ha c
  have s2 := RB.string hb c'
  clear ha hb
  go_enter Tryd.func24, Tryd.ntmps24
  go_wp2_with fail
  go_ret
  exact ⟨by simp, rfl⟩
set_option maxHeartbeats 1600000 in
set_option maxRecDepth 100000 in
theorem help_Element (n : Int) (A B : Option Addr) (c c' : Nat) (l : List Int) (w : World) (ha : RB w A l) (hb : RB w B l) :
    Calls Tryd.prog 45 #[.agg #[.int .i64 n, .slice A l.length c], .agg #[.int .i64 n, .slice B l.length c']] w fun e w' => e = .returned (.bool true) ∧ Below w.heap.size w w' := by
  have HA := Lib.hid ha
  have HB := Lib.hid hb
  have b1 : (n == n) = true := by simp
  clear ha hb
  have H1 := Lib.hid (below_alloc (below_alloc (Below.refl w.heap.size w) (.cells #[.int .i64 n, .slice A l.length c] 26)) (.cells #[.int .i64 n, .slice B l.length c'] 26))
  go_enter Tryd.func45, Tryd.ntmps45
  go_wp2_with fail
  refine (help_Bytes A B c c' l _ (RB.below HA.out H1.out) (RB.below HB.out H1.out)).mono ?_
  rintro e w1 ⟨rfl, rfl⟩
  dsimp only
  go_wp2_with fail
  go_ret
  exact ⟨rfl, H1.out⟩
set_option maxHeartbeats 3200000 in
set_option maxRecDepth 100000 in
theorem help_Same (A B : Option Addr) (c c' : Nat) (fs : List (Int × List Int)) (w : World) (ha : Kd.C kE w A fs.length fs) (hb : Kd.C kE w B fs.length fs) :
    Calls Tryd.prog 44 #[.slice A fs.length c, .slice B fs.length c', .func (.func 45) #[] #[]] w fun e w' => e = .returned (.bool true) ∧ Below w.heap.size w w' := by
  have eg : ∀ args w, (callFunc 45 args).run Tryd.prog w = .ok (.enter 45 args) w := enters_of Tryd.func45 (by kernel_rfl) rfl
  have hmax : fs.length ≤ 9223372036854775807 := Kd.C_max ha
  have HA := Lib.hid ha
  have HB := Lib.hid hb
  have b1 : ((fs.length : Int) != (fs.length : Int)) = false := by simp
  clear ha hb
  go_enter Tryd.func44, Tryd.ntmps44
  go_wp2_with fail
  go_loopw [7] (fun v7 wr => ∃ k : Nat, k ≤ fs.length ∧ v7 = .int .i64 k ∧ Hid (Below w.heap.size w wr)) (fun v _ => fs.length - (intOf v).toNat)
  case atStart => exact ⟨0, Nat.zero_le _, rfl, Lib.hid (Below.refl _ _)⟩
  case round =>
    obtain ⟨k, hk, rfl, hbel⟩ := hrel
    obtain ⟨wo, rfl⟩ : ∃ wo : World, wo = wr := ⟨_, rfl⟩
    by_cases hlt : k < fs.length
    · obtain ⟨ad, B0, c0, rfl, x0, x1, _, x3⟩ := kE_at (Kd.C_below HA.out hbel.out) k hlt
      obtain ⟨bd, B1, c1, rfl, y0, y1, _, y3⟩ := kE_at (Kd.C_below HB.out hbel.out) k hlt
      generalize fs[k].1 = no at x0 y0
      generalize fs[k].2 = l at x1 x3 y1 y3
      have X3 := Lib.hid x3
      have Y3 := Lib.hid y3
      clear x3 y3
      go_wp2_with fail
      go_region_held3 (fun w' => (w'.cell? (ad.add (k * 2)) = some (.int .i64 no) ∧ w'.cell? ⟨(ad.add (k * 2)).block, (ad.add (k * 2)).off + 1, none⟩ = some (.slice B0 l.length c0)) ∧ (w'.cell? (bd.add (k * 2)) = some (.int .i64 no) ∧ w'.cell? ⟨(bd.add (k * 2)).block, (bd.add (k * 2)).off + 1, none⟩ = some (.slice B1 l.length c1)) ∧ Below wo.heap.size wo w')
          (first
            | ((try dsimp only); first | assumption | (go_split_ands; exact ⟨⟨by assumption, by assumption⟩, ⟨by assumption, by assumption⟩, by assumption⟩))
            | (exact ⟨⟨by go_simp, by go_simp⟩, ⟨by go_simp, by go_simp⟩, below_drew (Below.refl _ _)⟩)
            | (go_split_ands; (try dsimp only); exact ⟨⟨(hb.cell (World.block_lt_of_cell? _ _ (by assumption))).trans (by assumption), (hb.cell (World.block_lt_of_cell? _ _ (by assumption))).trans (by assumption)⟩, ⟨(hb.cell (World.block_lt_of_cell? _ _ (by assumption))).trans (by assumption), (hb.cell (World.block_lt_of_cell? _ _ (by assumption))).trans (by assumption)⟩, below_then (by assumption) (below_size (by assumption)) hb⟩))
          (first
            | (go_at_call 45; with_reducible refine (help_Element no B0 B1 c0 c1 l _ (RB.below X3.out (by go_split_ands; assumption)) (RB.below Y3.out (by go_split_ands; assumption))).mono ?_; rintro e w' ⟨rfl, hb⟩))
      all_goals
        go_split_ands
        go_wp2_with fail
        exact ⟨⟨k + 1, hlt, rfl, Lib.hid (below_then hbel.out hbel.out.size (by assumption))⟩, by simp [intOf]; omega⟩
    · obtain rfl : k = fs.length := by omega
      go_wp2_with fail
      go_ret
      exact ⟨rfl, hbel.out⟩
set_option maxHeartbeats 3200000 in
set_option maxRecDepth 100000 in
theorem help_Iso (s : ByteArray) (A B : Option Addr) (c c' : Nat) (fs : List (Int × List Int)) (w : World) (ha : Kd.C kE w A fs.length fs) (hb : Kd.C kE w B fs.length fs) :
    Calls Tryd.prog 23 #[.agg #[.string s, .slice A fs.length c], .agg #[.string s, .slice B fs.length c']] w fun e w' => e = .returned (.bool true) ∧ Below w.heap.size w w' := by
  have HA := Lib.hid ha
  have HB := Lib.hid hb
  clear ha hb
  have H1 := Lib.hid (below_alloc (below_alloc (Below.refl w.heap.size w) (.cells #[.string s, .slice A fs.length c] 46)) (.cells #[.string s, .slice B fs.length c'] 46))
  go_enter Tryd.func23, Tryd.ntmps23
  go_wp2_with fail
  refine (help_Same A B c c' fs _ (Kd.C_below HA.out H1.out) (Kd.C_below HB.out H1.out)).mono ?_
  rintro e w1 ⟨rfl, hb1⟩
  have HB1 := Lib.hid (below_step H1.out hb1)
  clear hb1
  dsimp only
  go_wp2_with fail
  go_ret
  exact ⟨rfl, HB1.out⟩
end Go.Proofs.YtonhmaklnkidhaaDoor.G
