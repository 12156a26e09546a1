/- What the functions of package element and of the verifier do, one contract each: a part of the proof; no conditions of its own (my own text, filled from XT5.lean.tpl). -/
import Derived.Test.YtonhmaklnkidhaaDoorT4
import Derived.Deep.RegionHeld3
namespace Go.Proofs.YtonhmaklnkidhaaDoor.G
open Go.RowKit Go.Proofs.YtonhmaklnkidhaaDoorW.PrintWords

set_option maxHeartbeats 1600000 in
set_option maxRecDepth 100000 in
/-- as many of one sign as asked for, checked -/
theorem kinds_ask (no c : Int) (n : Nat) (hn1 : 0 < n) (hn9 : n < 100) (pb : Nat) (w : World) (hpc : w.cell? ⟨pb, 0, none⟩ = some (.int .u8 c)) :
    Calls Tryd.prog 9 #[.int .i64 no, .int .i64 n, .pointer (some ⟨pb, 0, none⟩)] w fun e w' => e = .returned (.bool (checkOf no (List.replicate n c) == 0)) ∧ Below w.heap.size w w' := by
  have hpb := World.block_lt_of_cell? w _ hpc
  simp only at hpb
  go_enter Tryd.func9, Tryd.ntmps9
  go_wp2_with ((with_reducible refine gate_dst (N := 10) rfl ?_); refine Kd.R_make (Kd.int .u8) (w0 := w) w.heap.size 5 rfl (N := 10) rfl 22 _ _ rfl (n : Int) rfl rfl Tryd.underlying22 (.int .u8 0) 1 info_u8 rfl (by decide) (by omega) 0 (ok := fun _ => True) (okp := fun _ => True) rfl (fun _ hk => hk) trivial (by omega) (by omega) (Below.refl _ _) (Nat.le_refl _) ?_; intro v1 w1 hr1 hb1 hg1_ hn1_; clear hg1_ hn1_; simp only [Int.toNat_natCast] at hr1; obtain ⟨g, cap, hv1, hg0, hg1, hcl1⟩ := Kd.R_form hr1 (by simp; omega); clear hcl1; subst hv1; simp only [List.length_replicate] at hr1 ⊢; have HR1 := Lib.hid hr1; have HB1 := Lib.hid hb1; clear hr1 hb1)
  go_loopw [7, 13] (fun v6 v32 wr => ∃ k : Nat, k ≤ n ∧ v32 = .int .i64 k ∧ Hid (Kd.R (Kd.int .u8) 5 wr w.heap.size (fun _ => True) (.slice (some ⟨g, 0, none⟩) n cap) (List.replicate k c ++ List.replicate (n - k) 0)) ∧ Hid (Below w.heap.size w wr)) (fun _ v _ => n - (intOf v).toNat)
  case atStart => exact ⟨0, Nat.zero_le _, rfl, HR1, HB1⟩
  case round =>
    obtain ⟨k, hk, rfl, hR, hbel⟩ := hrel
    obtain ⟨wo, rfl⟩ : ∃ wo : World, wo = wr := ⟨_, rfl⟩
    have hpc2 : wo.cell? ⟨pb, 0, none⟩ = some (.int .u8 c) := (hbel.out.cell (p := ⟨pb, 0, none⟩) hpb).trans hpc
    by_cases hlt : k < n
    · have hR2 := hR.out
      have hlen := fill_len n k c 0 hk
      have hp := Kd.R_put (enc := Value.int .u8) (h1 := fun _ => rfl) (g := g) (cap := cap) (xs := List.replicate k c ++ List.replicate (n - k) 0) (by rw [hlen]; exact hR2) k c
      have hq := Kd.R_cell (enc := Value.int .u8) (h1 := fun _ => rfl) (g := g) (cap := cap) (xs := List.replicate k c ++ List.replicate (n - k) 0) 0 (by rw [hlen]; exact hR2) k (by omega) (by rw [hlen]; omega)
      rw [hlen] at hp
      simp only [Int.toNat_natCast] at hp hq
      rw [fill_next n k c 0 hlt] at hp
      obtain ⟨hq1, hq2⟩ := hq
      have HP := Lib.hid hp.1
      clear hp hR2 hlen
      go_wp2_with fail
      exact ⟨⟨k + 1, hlt, rfl, HP, Lib.hid (hbel.out.setCell hg0 _)⟩, by simp [intOf]; omega⟩
    · obtain rfl : k = n := by omega
      have hR2 := hR.out
      rw [fill_all] at hR2
      obtain ⟨hbad, hkc, hC⟩ := Kd.R_reads' hR2
      clear hbad
      rw [List.length_replicate] at hC
      have cC := element_Check no (some ⟨g, 0, none⟩) cap (List.replicate k c) wo (by rw [List.length_replicate]; exact hC) (by rw [List.length_replicate]; exact hkc)
      rw [List.length_replicate] at cC
      obtain ⟨q, hq⟩ : ∃ q, q = checkOf no (List.replicate k c) := ⟨_, rfl⟩
      rw [← hq] at cC
      have HQ := Lib.hid hq
      clear hq
      have HC := Lib.hid cC
      clear cC hC hR hR2 HR1
      go_wp2_with fail
      refine HC.out.mono ?_
      rintro e w2 ⟨rfl, hb⟩
      have HB := Lib.hid (below_then hbel.out hbel.out.size hb)
      clear hb
      dsimp only
      go_wp2_with fail
      go_ret
      exact ⟨by rw [← HQ.out]; rfl, HB.out⟩

set_option maxRecDepth 100000 in
theorem kinds_2 : ∀ c < 256, (checkOf 2 (List.replicate 12 ((c : Nat) : Int)) == 0) = (decide (48 ≤ (c : Int)) && decide ((c : Int) ≤ 57)) := by decide +kernel
set_option maxRecDepth 100000 in
theorem kinds_37 : ∀ c < 256, (checkOf 37 (List.replicate 12 ((c : Nat) : Int)) == 0) = ((decide (48 ≤ (c : Int)) && decide ((c : Int) ≤ 57)) || ((decide (65 ≤ (c : Int)) && decide ((c : Int) ≤ 90)) || (decide (97 ≤ (c : Int)) && decide ((c : Int) ≤ 122)))) := by decide +kernel
set_option maxRecDepth 100000 in
theorem kinds_43 : ∀ c < 256, (checkOf 43 (List.replicate 3 ((c : Nat) : Int)) == 0) = (decide (32 ≤ (c : Int)) && decide ((c : Int) ≤ 126)) := by decide +kernel
set_option maxRecDepth 100000 in
theorem kinds_120 : ∀ c < 256, (checkOf 120 (List.replicate 5 ((c : Nat) : Int)) == 0) = true := by decide +kernel
set_option maxRecDepth 100000 in
theorem kinds_55 : ∀ c < 256, (checkOf 55 (List.replicate 1 ((c : Nat) : Int)) == 0) = true := by decide +kernel

/-- what the tests say of a sign -/
theorem kinds_range (c : Int) :
    (decide (48 ≤ c) = false ∧ decide (c ≤ 57) = true ∧ decide (65 ≤ c) = false ∧ decide (c ≤ 90) = true ∧ decide (97 ≤ c) = false ∧ decide (c ≤ 122) = true ∧ decide (32 ≤ c) = false ∧ decide (c ≤ 126) = true) ∨
    (decide (48 ≤ c) = false ∧ decide (c ≤ 57) = true ∧ decide (65 ≤ c) = false ∧ decide (c ≤ 90) = true ∧ decide (97 ≤ c) = false ∧ decide (c ≤ 122) = true ∧ decide (32 ≤ c) = true ∧ decide (c ≤ 126) = true) ∨
    (decide (48 ≤ c) = true ∧ decide (c ≤ 57) = true ∧ decide (65 ≤ c) = false ∧ decide (c ≤ 90) = true ∧ decide (97 ≤ c) = false ∧ decide (c ≤ 122) = true ∧ decide (32 ≤ c) = true ∧ decide (c ≤ 126) = true) ∨
    (decide (48 ≤ c) = true ∧ decide (c ≤ 57) = false ∧ decide (65 ≤ c) = false ∧ decide (c ≤ 90) = true ∧ decide (97 ≤ c) = false ∧ decide (c ≤ 122) = true ∧ decide (32 ≤ c) = true ∧ decide (c ≤ 126) = true) ∨
    (decide (48 ≤ c) = true ∧ decide (c ≤ 57) = false ∧ decide (65 ≤ c) = true ∧ decide (c ≤ 90) = true ∧ decide (97 ≤ c) = false ∧ decide (c ≤ 122) = true ∧ decide (32 ≤ c) = true ∧ decide (c ≤ 126) = true) ∨
    (decide (48 ≤ c) = true ∧ decide (c ≤ 57) = false ∧ decide (65 ≤ c) = true ∧ decide (c ≤ 90) = false ∧ decide (97 ≤ c) = false ∧ decide (c ≤ 122) = true ∧ decide (32 ≤ c) = true ∧ decide (c ≤ 126) = true) ∨
    (decide (48 ≤ c) = true ∧ decide (c ≤ 57) = false ∧ decide (65 ≤ c) = true ∧ decide (c ≤ 90) = false ∧ decide (97 ≤ c) = true ∧ decide (c ≤ 122) = true ∧ decide (32 ≤ c) = true ∧ decide (c ≤ 126) = true) ∨
    (decide (48 ≤ c) = true ∧ decide (c ≤ 57) = false ∧ decide (65 ≤ c) = true ∧ decide (c ≤ 90) = false ∧ decide (97 ≤ c) = true ∧ decide (c ≤ 122) = false ∧ decide (32 ≤ c) = true ∧ decide (c ≤ 126) = true) ∨
    (decide (48 ≤ c) = true ∧ decide (c ≤ 57) = false ∧ decide (65 ≤ c) = true ∧ decide (c ≤ 90) = false ∧ decide (97 ≤ c) = true ∧ decide (c ≤ 122) = false ∧ decide (32 ≤ c) = true ∧ decide (c ≤ 126) = false) := by
  have hs : (c < 32) ∨ (32 ≤ c ∧ c < 48) ∨ (48 ≤ c ∧ c < 58) ∨ (58 ≤ c ∧ c < 65) ∨ (65 ≤ c ∧ c < 91) ∨ (91 ≤ c ∧ c < 97) ∨ (97 ≤ c ∧ c < 123) ∨ (123 ≤ c ∧ c < 127) ∨ (127 ≤ c) := by omega
  simp only [decide_eq_true_eq, decide_eq_false_iff_not]
  rcases hs with h | h | h | h | h | h | h | h | h
  · exact .inl ⟨by omega, by omega, by omega, by omega, by omega, by omega, by omega, by omega⟩
  · exact .inr (.inl ⟨by omega, by omega, by omega, by omega, by omega, by omega, by omega, by omega⟩)
  · exact .inr (.inr (.inl ⟨by omega, by omega, by omega, by omega, by omega, by omega, by omega, by omega⟩))
  · exact .inr (.inr (.inr (.inl ⟨by omega, by omega, by omega, by omega, by omega, by omega, by omega, by omega⟩)))
  · exact .inr (.inr (.inr (.inr (.inl ⟨by omega, by omega, by omega, by omega, by omega, by omega, by omega, by omega⟩))))
  · exact .inr (.inr (.inr (.inr (.inr (.inl ⟨by omega, by omega, by omega, by omega, by omega, by omega, by omega, by omega⟩)))))
  · exact .inr (.inr (.inr (.inr (.inr (.inr (.inl ⟨by omega, by omega, by omega, by omega, by omega, by omega, by omega, by omega⟩))))))
  · exact .inr (.inr (.inr (.inr (.inr (.inr (.inr (.inl ⟨by omega, by omega, by omega, by omega, by omega, by omega, by omega, by omega⟩)))))))
  · exact .inr (.inr (.inr (.inr (.inr (.inr (.inr (.inr (⟨by omega, by omega, by omega, by omega, by omega, by omega, by omega, by omega⟩))))))))
end Go.Proofs.YtonhmaklnkidhaaDoor.G
