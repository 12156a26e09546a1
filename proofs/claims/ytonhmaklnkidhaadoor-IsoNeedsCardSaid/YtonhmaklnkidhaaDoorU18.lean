/- What the functions of package element and of the verifier do, one contract each: a part of the proof; no conditions of its own (my own text, filled from XU18.lean.tpl). -/
import Derived.Test.YtonhmaklnkidhaaDoorU17
namespace Go.Proofs.YtonhmaklnkidhaaDoor.G
open Go.RowKit Go.Proofs.YtonhmaklnkidhaaDoorW.PrintWords

set_option maxHeartbeats 6400000 in
set_option maxRecDepth 100000 in
theorem needs_walk (a : Int) (w : World) : Calls Tryd.prog 8 #[.int .i64 a] w fun e w' => e = .returned (.bool true) ∧ Below w.heap.size w w' := by
  have kc := fun (w : World) (C : Array Value) (n c : Nat) => Lib.run_convert_bytes_const (P := Tryd.prog) w 22 5 C n c Tryd.underlying22 Tryd.underlying5
  have kc1 : ∀ (o1 : Obj) (C : Array Value) (n c : Nat), (convert 22 22 (.slice (some ⟨w.heap.size + 1, 0, none⟩) n c)).run Tryd.prog ((w.alloc o1).alloc (.cells C 5)) = .ok (.slice (some ⟨w.heap.size + 1, 0, none⟩) n c) ((w.alloc o1).alloc (.cells C 5 (C.size, C.size + 1))) := by
    intro o1 C n c
    have h := kc (w.alloc o1) C n c
    have e : (w.alloc o1).heap.size = w.heap.size + 1 := by simp
    rw [e] at h
    exact h
  have kc2 : ∀ (o1 o2 : Obj) (C : Array Value) (n c : Nat), (convert 22 22 (.slice (some ⟨w.heap.size + 2, 0, none⟩) n c)).run Tryd.prog (((w.alloc o1).alloc o2).alloc (.cells C 5)) = .ok (.slice (some ⟨w.heap.size + 2, 0, none⟩) n c) (((w.alloc o1).alloc o2).alloc (.cells C 5 (C.size, C.size + 1))) := by
    intro o1 o2 C n c
    have h := kc ((w.alloc o1).alloc o2) C n c
    have e : ((w.alloc o1).alloc o2).heap.size = w.heap.size + 2 := by simp
    rw [e] at h
    exact h
  have kc5 : ∀ (o1 o2 o3 o4 o5 : Obj) (C : Array Value) (n c : Nat), (convert 22 22 (.slice (some ⟨w.heap.size + 5, 0, none⟩) n c)).run Tryd.prog ((((((w.alloc o1).alloc o2).alloc o3).alloc o4).alloc o5).alloc (.cells C 5)) = .ok (.slice (some ⟨w.heap.size + 5, 0, none⟩) n c) ((((((w.alloc o1).alloc o2).alloc o3).alloc o4).alloc o5).alloc (.cells C 5 (C.size, C.size + 1))) := by
    intro o1 o2 o3 o4 o5 C n c
    have h := kc (((((w.alloc o1).alloc o2).alloc o3).alloc o4).alloc o5) C n c
    have e : (((((w.alloc o1).alloc o2).alloc o3).alloc o4).alloc o5).heap.size = w.heap.size + 5 := by simp
    rw [e] at h
    exact h
  rcases need_q a with hq | hq | hq | hq | hq | hq | hq | hq | hq
  · go_enter Tryd.func8, Tryd.ntmps8
    go_wp2_with fail
    have HPn : Hid (packOf ⟨#[50, 49, 120, 48]⟩ [(4, dA), (11, dB), (102, dC)] = ([], 5)) := Lib.hid need0
    refine (iso_Pack ⟨#[50, 49, 120, 48]⟩ (some ⟨w.heap.size + 1 + 1 + 1, 0, none⟩) 3 [(4, dA), (11, dB), (102, dC)] _ (by decide) (kE_row3 (c0 := 12) (c1 := 6) (c2 := 1) (by first | (go_simp; done) | (go_simp; rfl)) (by first | (go_simp; done) | (go_simp; rfl)) (by first | (go_simp; done) | (go_simp; rfl)) (by first | (go_simp; done) | (go_simp; rfl)) (by first | (go_simp; done) | (go_simp; rfl)) (by first | (go_simp; done) | (go_simp; rfl)) (by decide) (by decide) (by decide) (Kd.C_alloc (Kd.C_alloc (Kd.C_alloc (Kd.C_alloc (RB.lit w dA _ _ rfl (by decide)) _) _) _) _) (Kd.C_alloc (Kd.C_alloc (Kd.C_alloc (RB.lit1 w _ dB _ _ rfl (by decide)) _) _) _) (Kd.C_alloc (Kd.C_alloc (RB.lit2 w _ _ dC _ _ rfl (by decide)) _) _)) (by decide) (fun x hx h => ?_)).mono ?_
    · have hd : ∀ y ∈ [((4 : Int), dA), (11, dB), (102, dC)], ¬ 100 ≤ y.2.length := by decide
      exact absurd h (hd x hx)
    rintro e w1 ⟨v1, rfl, hv1, hb1⟩
    have HB1 : Hid (Below w.heap.size w w1) := Lib.hid (below_step (w := w) (by repeat (first | exact Below.refl _ _ | apply below_alloc)) hb1)
    clear hb1
    rw [HPn.out] at hv1 ⊢
    obtain ⟨A1, c1, rfl, hc1, hr1⟩ := hv1.reads
    clear hv1 hc1 hr1 HPn kc kc1 kc2 kc5
    dsimp only
    go_wp2_with fail
    refine (awake17 _).mono ?_
    rintro e w2 ⟨rfl, hb2⟩
    have HB2 := Lib.hid (below_step HB1.out hb2)
    clear hb2
    dsimp only
    go_wp2_with fail
    go_ret
    exact ⟨rfl, HB2.out⟩
  · go_enter Tryd.func8, Tryd.ntmps8
    go_wp2_with fail
    have HPn : Hid (packOf ⟨#[50, 49, 48]⟩ [(4, dA), (11, dB), (102, dC)] = ([], 5)) := Lib.hid need1
    refine (iso_Pack ⟨#[50, 49, 48]⟩ (some ⟨w.heap.size + 1 + 1 + 1, 0, none⟩) 3 [(4, dA), (11, dB), (102, dC)] _ (by decide) (kE_row3 (c0 := 12) (c1 := 6) (c2 := 1) (by first | (go_simp; done) | (go_simp; rfl)) (by first | (go_simp; done) | (go_simp; rfl)) (by first | (go_simp; done) | (go_simp; rfl)) (by first | (go_simp; done) | (go_simp; rfl)) (by first | (go_simp; done) | (go_simp; rfl)) (by first | (go_simp; done) | (go_simp; rfl)) (by decide) (by decide) (by decide) (Kd.C_alloc (Kd.C_alloc (Kd.C_alloc (Kd.C_alloc (RB.lit w dA _ _ rfl (by decide)) _) _) _) _) (Kd.C_alloc (Kd.C_alloc (Kd.C_alloc (RB.lit1 w _ dB _ _ rfl (by decide)) _) _) _) (Kd.C_alloc (Kd.C_alloc (RB.lit2 w _ _ dC _ _ rfl (by decide)) _) _)) (by decide) (fun x hx h => ?_)).mono ?_
    · have hd : ∀ y ∈ [((4 : Int), dA), (11, dB), (102, dC)], ¬ 100 ≤ y.2.length := by decide
      exact absurd h (hd x hx)
    rintro e w1 ⟨v1, rfl, hv1, hb1⟩
    have HB1 : Hid (Below w.heap.size w w1) := Lib.hid (below_step (w := w) (by repeat (first | exact Below.refl _ _ | apply below_alloc)) hb1)
    clear hb1
    rw [HPn.out] at hv1 ⊢
    obtain ⟨A1, c1, rfl, hc1, hr1⟩ := hv1.reads
    clear hv1 hc1 hr1 HPn kc kc1 kc2 kc5
    dsimp only
    go_wp2_with fail
    refine (awake17 _).mono ?_
    rintro e w2 ⟨rfl, hb2⟩
    have HB2 := Lib.hid (below_step HB1.out hb2)
    clear hb2
    dsimp only
    go_wp2_with fail
    go_ret
    exact ⟨rfl, HB2.out⟩
  · exact needs_swap a w hq
  · go_enter Tryd.func8, Tryd.ntmps8
    go_wp2_with fail
    have HPn : Hid (packOf s2100 [(4, dA), (4, dB), (102, dC)] = ([], 1)) := Lib.hid need3
    refine (iso_Pack s2100 (some ⟨w.heap.size + 1 + 1 + 1, 0, none⟩) 3 [(4, dA), (4, dB), (102, dC)] _ (by decide) (kE_row3 (c0 := 12) (c1 := 6) (c2 := 1) (by first | (go_simp; done) | (go_simp; rfl)) (by first | (go_simp; done) | (go_simp; rfl)) (by first | (go_simp; done) | (go_simp; rfl)) (by first | (go_simp; done) | (go_simp; rfl)) (by first | (go_simp; done) | (go_simp; rfl)) (by first | (go_simp; done) | (go_simp; rfl)) (by decide) (by decide) (by decide) (Kd.C_alloc (Kd.C_alloc (Kd.C_alloc (Kd.C_alloc (RB.lit w dA _ _ rfl (by decide)) _) _) _) _) (Kd.C_alloc (Kd.C_alloc (Kd.C_alloc (RB.lit1 w _ dB _ _ rfl (by decide)) _) _) _) (Kd.C_alloc (Kd.C_alloc (RB.lit2 w _ _ dC _ _ rfl (by decide)) _) _)) (by decide) (fun x hx h => ?_)).mono ?_
    · have hd : ∀ y ∈ [((4 : Int), dA), (4, dB), (102, dC)], ¬ 100 ≤ y.2.length := by decide
      exact absurd h (hd x hx)
    rintro e w1 ⟨v1, rfl, hv1, hb1⟩
    have HB1 : Hid (Below w.heap.size w w1) := Lib.hid (below_step (w := w) (by repeat (first | exact Below.refl _ _ | apply below_alloc)) hb1)
    clear hb1
    rw [HPn.out] at hv1 ⊢
    obtain ⟨A1, c1, rfl, hc1, hr1⟩ := hv1.reads
    clear hv1 hc1 hr1 HPn kc kc1 kc2 kc5
    dsimp only
    go_wp2_with fail
    refine (awake17 _).mono ?_
    rintro e w2 ⟨rfl, hb2⟩
    have HB2 := Lib.hid (below_step HB1.out hb2)
    clear hb2
    dsimp only
    go_wp2_with fail
    go_ret
    exact ⟨rfl, HB2.out⟩
  · go_enter Tryd.func8, Tryd.ntmps8
    go_wp2_with fail
    have HPn : Hid (packOf s2100 [(4, dA), (5, dB), (102, dC)] = ([], 16)) := Lib.hid need4
    refine (iso_Pack s2100 (some ⟨w.heap.size + 1 + 1 + 1, 0, none⟩) 3 [(4, dA), (5, dB), (102, dC)] _ (by decide) (kE_row3 (c0 := 12) (c1 := 6) (c2 := 1) (by first | (go_simp; done) | (go_simp; rfl)) (by first | (go_simp; done) | (go_simp; rfl)) (by first | (go_simp; done) | (go_simp; rfl)) (by first | (go_simp; done) | (go_simp; rfl)) (by first | (go_simp; done) | (go_simp; rfl)) (by first | (go_simp; done) | (go_simp; rfl)) (by decide) (by decide) (by decide) (Kd.C_alloc (Kd.C_alloc (Kd.C_alloc (Kd.C_alloc (RB.lit w dA _ _ rfl (by decide)) _) _) _) _) (Kd.C_alloc (Kd.C_alloc (Kd.C_alloc (RB.lit1 w _ dB _ _ rfl (by decide)) _) _) _) (Kd.C_alloc (Kd.C_alloc (RB.lit2 w _ _ dC _ _ rfl (by decide)) _) _)) (by decide) (fun x hx h => ?_)).mono ?_
    · have hd : ∀ y ∈ [((4 : Int), dA), (5, dB), (102, dC)], ¬ 100 ≤ y.2.length := by decide
      exact absurd h (hd x hx)
    rintro e w1 ⟨v1, rfl, hv1, hb1⟩
    have HB1 : Hid (Below w.heap.size w w1) := Lib.hid (below_step (w := w) (by repeat (first | exact Below.refl _ _ | apply below_alloc)) hb1)
    clear hb1
    rw [HPn.out] at hv1 ⊢
    obtain ⟨A1, c1, rfl, hc1, hr1⟩ := hv1.reads
    clear hv1 hc1 hr1 HPn kc kc1 kc2 kc5
    dsimp only
    go_wp2_with fail
    refine (awake17 _).mono ?_
    rintro e w2 ⟨rfl, hb2⟩
    have HB2 := Lib.hid (below_step HB1.out hb2)
    clear hb2
    dsimp only
    go_wp2_with fail
    go_ret
    exact ⟨rfl, HB2.out⟩
  · go_enter Tryd.func8, Tryd.ntmps8
    go_wp2_with fail
    have HPn : Hid (packOf s2100 [(4, dA), (11, [55]), (102, dC)] = ([], 17)) := Lib.hid need5
    refine (iso_Pack s2100 (some ⟨w.heap.size + 1 + 1 + 1, 0, none⟩) 3 [(4, dA), (11, [55]), (102, dC)] _ (by decide) (kE_row3 (c0 := 12) (c1 := 1) (c2 := 1) (by first | (go_simp; done) | (go_simp; rfl)) (by first | (go_simp; done) | (go_simp; rfl)) (by first | (go_simp; done) | (go_simp; rfl)) (by first | (go_simp; done) | (go_simp; rfl)) (by first | (go_simp; done) | (go_simp; rfl)) (by first | (go_simp; done) | (go_simp; rfl)) (by decide) (by decide) (by decide) (Kd.C_alloc (Kd.C_alloc (Kd.C_alloc (Kd.C_alloc (Kd.C_alloc (RB.lit w dA _ _ rfl (by decide)) _) _) _) _) _) (RB.lit5 w _ _ _ _ _ [55] _ _ rfl (by decide)) (Kd.C_alloc (Kd.C_alloc (Kd.C_alloc (RB.lit2 w _ _ dC _ _ rfl (by decide)) _) _) _)) (by decide) (fun x hx h => ?_)).mono ?_
    · have hd : ∀ y ∈ [((4 : Int), dA), (11, [55]), (102, dC)], ¬ 100 ≤ y.2.length := by decide
      exact absurd h (hd x hx)
    rintro e w1 ⟨v1, rfl, hv1, hb1⟩
    have HB1 : Hid (Below w.heap.size w w1) := Lib.hid (below_step (w := w) (by repeat (first | exact Below.refl _ _ | apply below_alloc)) hb1)
    clear hb1
    rw [HPn.out] at hv1 ⊢
    obtain ⟨A1, c1, rfl, hc1, hr1⟩ := hv1.reads
    clear hv1 hc1 hr1 HPn kc kc1 kc2 kc5
    dsimp only
    go_wp2_with fail
    refine (awake17 _).mono ?_
    rintro e w2 ⟨rfl, hb2⟩
    have HB2 := Lib.hid (below_step HB1.out hb2)
    clear hb2
    dsimp only
    go_wp2_with fail
    go_ret
    exact ⟨rfl, HB2.out⟩
  · go_enter Tryd.func8, Tryd.ntmps8
    go_wp2_with fail
    have HPn : Hid (packOf s2100 [(4, dA), (11, [48, 48, 48, 48, 48, 120]), (102, dC)] = ([], 14)) := Lib.hid need6
    refine (iso_Pack s2100 (some ⟨w.heap.size + 1 + 1 + 1, 0, none⟩) 3 [(4, dA), (11, [48, 48, 48, 48, 48, 120]), (102, dC)] _ (by decide) (kE_row3 (c0 := 12) (c1 := 6) (c2 := 1) (by first | (go_simp; done) | (go_simp; rfl)) (by first | (go_simp; done) | (go_simp; rfl)) (by first | (go_simp; done) | (go_simp; rfl)) (by first | (go_simp; done) | (go_simp; rfl)) (by first | (go_simp; done) | (go_simp; rfl)) (by first | (go_simp; done) | (go_simp; rfl)) (by decide) (by decide) (by decide) (Kd.C_alloc (Kd.C_alloc (Kd.C_alloc (Kd.C_alloc (Kd.C_alloc (RB.lit w dA _ _ rfl (by decide)) _) _) _) _) _) (RB.lit5 w _ _ _ _ _ [48, 48, 48, 48, 48, 120] _ _ rfl (by decide)) (Kd.C_alloc (Kd.C_alloc (Kd.C_alloc (RB.lit2 w _ _ dC _ _ rfl (by decide)) _) _) _)) (by decide) (fun x hx h => ?_)).mono ?_
    · have hd : ∀ y ∈ [((4 : Int), dA), (11, [48, 48, 48, 48, 48, 120]), (102, dC)], ¬ 100 ≤ y.2.length := by decide
      exact absurd h (hd x hx)
    rintro e w1 ⟨v1, rfl, hv1, hb1⟩
    have HB1 : Hid (Below w.heap.size w w1) := Lib.hid (below_step (w := w) (by repeat (first | exact Below.refl _ _ | apply below_alloc)) hb1)
    clear hb1
    rw [HPn.out] at hv1 ⊢
    obtain ⟨A1, c1, rfl, hc1, hr1⟩ := hv1.reads
    clear hv1 hc1 hr1 HPn kc kc1 kc2 kc5
    dsimp only
    go_wp2_with fail
    refine (awake17 _).mono ?_
    rintro e w2 ⟨rfl, hb2⟩
    have HB2 := Lib.hid (below_step HB1.out hb2)
    clear hb2
    dsimp only
    go_wp2_with fail
    go_ret
    exact ⟨rfl, HB2.out⟩
  · go_enter Tryd.func8, Tryd.ntmps8
    go_wp2_with fail
    have HPn : Hid (packOf s2100 [(4, dA), (11, dB), (129, dC)] = ([], 1)) := Lib.hid need7
    refine (iso_Pack s2100 (some ⟨w.heap.size + 1 + 1 + 1, 0, none⟩) 3 [(4, dA), (11, dB), (129, dC)] _ (by decide) (kE_row3 (c0 := 12) (c1 := 6) (c2 := 1) (by first | (go_simp; done) | (go_simp; rfl)) (by first | (go_simp; done) | (go_simp; rfl)) (by first | (go_simp; done) | (go_simp; rfl)) (by first | (go_simp; done) | (go_simp; rfl)) (by first | (go_simp; done) | (go_simp; rfl)) (by first | (go_simp; done) | (go_simp; rfl)) (by decide) (by decide) (by decide) (Kd.C_alloc (Kd.C_alloc (Kd.C_alloc (Kd.C_alloc (RB.lit w dA _ _ rfl (by decide)) _) _) _) _) (Kd.C_alloc (Kd.C_alloc (Kd.C_alloc (RB.lit1 w _ dB _ _ rfl (by decide)) _) _) _) (Kd.C_alloc (Kd.C_alloc (RB.lit2 w _ _ dC _ _ rfl (by decide)) _) _)) (by decide) (fun x hx h => ?_)).mono ?_
    · have hd : ∀ y ∈ [((4 : Int), dA), (11, dB), (129, dC)], ¬ 100 ≤ y.2.length := by decide
      exact absurd h (hd x hx)
    rintro e w1 ⟨v1, rfl, hv1, hb1⟩
    have HB1 : Hid (Below w.heap.size w w1) := Lib.hid (below_step (w := w) (by repeat (first | exact Below.refl _ _ | apply below_alloc)) hb1)
    clear hb1
    rw [HPn.out] at hv1 ⊢
    obtain ⟨A1, c1, rfl, hc1, hr1⟩ := hv1.reads
    clear hv1 hc1 hr1 HPn kc kc1 kc2 kc5
    dsimp only
    go_wp2_with fail
    refine (awake17 _).mono ?_
    rintro e w2 ⟨rfl, hb2⟩
    have HB2 := Lib.hid (below_step HB1.out hb2)
    clear hb2
    dsimp only
    go_wp2_with fail
    go_ret
    exact ⟨rfl, HB2.out⟩
  · go_enter Tryd.func8, Tryd.ntmps8
    go_wp2_with fail
    obtain ⟨l, hl0, hl⟩ := need8
    have HPn := Lib.hid hl
    clear hl
    refine (iso_Pack s2100 (some ⟨w.heap.size + 1 + 1 + 1, 0, none⟩) 3 [(4, dA), (11, dB), (102, dC)] _ (by decide) (kE_row3 (c0 := 12) (c1 := 6) (c2 := 1) (by first | (go_simp; done) | (go_simp; rfl)) (by first | (go_simp; done) | (go_simp; rfl)) (by first | (go_simp; done) | (go_simp; rfl)) (by first | (go_simp; done) | (go_simp; rfl)) (by first | (go_simp; done) | (go_simp; rfl)) (by first | (go_simp; done) | (go_simp; rfl)) (by decide) (by decide) (by decide) (Kd.C_alloc (Kd.C_alloc (Kd.C_alloc (Kd.C_alloc (RB.lit w dA _ _ rfl (by decide)) _) _) _) _) (Kd.C_alloc (Kd.C_alloc (Kd.C_alloc (RB.lit1 w _ dB _ _ rfl (by decide)) _) _) _) (Kd.C_alloc (Kd.C_alloc (RB.lit2 w _ _ dC _ _ rfl (by decide)) _) _)) (by decide) (fun x hx h => ?_)).mono ?_
    · have hd : ∀ y ∈ [((4 : Int), dA), (11, dB), (102, dC)], ¬ 100 ≤ y.2.length := by decide
      exact absurd h (hd x hx)
    rintro e w1 ⟨v1, rfl, hv1, hb1⟩
    have HB1 : Hid (Below w.heap.size w w1) := Lib.hid (below_step (w := w) (by repeat (first | exact Below.refl _ _ | apply below_alloc)) hb1)
    clear hb1
    rw [HPn.out] at hv1 ⊢
    obtain ⟨A1, c1, rfl, hc1, hr1⟩ := hv1.reads
    clear hv1 hc1 hr1 HPn kc kc1 kc2 kc5
    dsimp only
    go_wp2_with fail
    refine (awake17 _).mono ?_
    rintro e w2 ⟨rfl, hb2⟩
    have HB2 := Lib.hid (below_step HB1.out hb2)
    clear hb2
    dsimp only
    go_wp2_with fail
    go_ret
    exact ⟨rfl, HB2.out⟩
theorem needs_law (a : Int) (_ : (Lit.int .i64 a).wf = true) (w : World) : Calls Tryd.prog 8 #[.int .i64 a] w fun e w' => e = .returned (.bool true) ∧ Below w.heap.size w w' := needs_walk a w
end Go.Proofs.YtonhmaklnkidhaaDoor.G
