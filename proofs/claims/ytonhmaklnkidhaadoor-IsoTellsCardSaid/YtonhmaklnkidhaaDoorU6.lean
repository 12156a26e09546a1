/- What the functions of package element and of the verifier do, one contract each: a part of the proof; no conditions of its own (my own text, filled from XU6.lean.tpl). -/
import Derived.Test.YtonhmaklnkidhaaDoorU5
namespace Go.Proofs.YtonhmaklnkidhaaDoor.G
open Go.RowKit Go.Proofs.YtonhmaklnkidhaaDoorW.PrintWords

/-- numbers that are read -/
abbrev RI (w : World) (A : Option Addr) (l : List Int) : Prop := Kd.C (Kd.int .i64) w A l.length l
theorem RI.below {w w1 : World} {A : Option Addr} {l : List Int} (h : RI w A l) (hb : Below w.heap.size w w1) : RI w1 A l := Kd.C_below h hb
theorem RI.at_ {w : World} {A : Option Addr} {l : List Int} (h : RI w A l) (k : Nat) (hk : k < l.length) : ∃ ad, A = some ad ∧ w.cell? (ad.add k) = some (.int .i64 l[k]) := by
  obtain ⟨ad, hA, hcell⟩ := (Kd.reads_of_C (enc := Value.int .i64) (d := (0 : Int)) (h1 := fun _ => rfl) h).2.2 (by omega)
  refine ⟨ad, hA, ?_⟩
  rw [hcell k hk]
  simp [List.getD_eq_getElem?_getD, hk]
theorem lastOk_next {l : List Int} {k : Nat} (hk : k < l.length) {was : Int} (h : lastOk 1 (l.take k) = some was) :
    lastOk 1 (l.take (k + 1)) = (if l[k] ≤ was ∨ 128 < l[k] ∨ l[k] = 65 then none else some l[k]) := by
  rw [List.take_succ_eq_append_getElem hk, lastOk_append, h]
  simp [lastOk]
theorem lastOk_bad {l : List Int} {k : Nat} (h : lastOk 1 (l.take k) = none) : lastOk 1 l = none := by
  have : l = l.take k ++ l.drop k := (List.take_append_drop k l).symm
  rw [this, lastOk_append, h]
  rfl
/-- bytes made, beside why not -/
def BytesPost (w : World) (r : List Int × Int) (e : Ending) (w' : World) : Prop :=
  ∃ v, e = .returned (.tuple #[v, .int .i64 r.2]) ∧ Kd.R (Kd.int .u8) 5 w' w.heap.size (fun _ => True) v r.1 ∧ Below w.heap.size w w'
theorem BytesPost.none_ {w w' : World} {x : Int} (hb : Below w.heap.size w w') : BytesPost w ([], x) (.returned (.tuple #[.slice none 0 0, .int .i64 x])) w' := ⟨_, rfl, Kd.R_nil _ _ _ _ _, hb⟩

set_option maxHeartbeats 3200000 in
set_option maxRecDepth 100000 in
theorem bitmap_Write (A : Option Addr) (c : Nat) (l : List Int) (w : World) (hr : RI w A l) (hm : l.length ≤ 140737488355328) :
    Calls Tryd.prog 40 #[.slice A l.length c] w (BytesPost w (mapB l)) := by
  have hmf : ∀ (fn : Fn) (first cap : Array Value) (w : World), (Instr.makeFunc fn first cap).run Tryd.prog w = .ok (.func fn first cap) w := fun _ _ _ _ => rfl
  have HEg := Lib.hid (enters_of Tryd.func62 (by kernel_rfl) rfl)
  obtain ⟨X, hX⟩ : ∃ X, X = mapB l := ⟨_, rfl⟩
  rw [← hX]
  have HX := Lib.hid hX
  have HR := Lib.hid hr
  clear hX hr
  go_enter Tryd.func40, Tryd.ntmps40
  go_wp2_with fail
  go_loop [4, 6, 13] (fun v4 _ v13 => ∃ (k : Nat) (was : Int), k ≤ l.length ∧ v4 = .int .i64 was ∧ v13 = .int .i64 k ∧ Hid (lastOk 1 (l.take k) = some was)) (fun _ _ v => l.length - (intOf v).toNat)
  case atStart => exact ⟨0, 1, Nat.zero_le _, rfl, rfl, Lib.hid rfl⟩
  case round =>
    obtain ⟨k, was, hk, rfl, rfl, hW⟩ := hrel
    by_cases hlt : k < l.length
    · obtain ⟨ad, rfl, hcell⟩ := HR.out.at_ k hlt
      have hN := lastOk_next hlt hW.out
      obtain ⟨n, hn⟩ : ∃ n, n = l[k] := ⟨_, rfl⟩
      rw [← hn] at hN hcell
      have HNn := Lib.hid hn
      clear hn
      by_cases h1 : n ≤ was
      · have HN := Lib.hid hN
        clear hN
        have b1 : decide (n ≤ was) = true := decide_eq_true h1
        clear h1
        go_wp2_with fail
        go_ret2
        rw [HX.out, mapB, lastOk_bad (k := k + 1) (by rw [HN.out, if_pos (.inl (of_decide_eq_true b1))])]
        exact BytesPost.none_ (Below.refl _ _)
      have b1 : decide (n ≤ was) = false := decide_eq_false h1
      by_cases h2 : 128 < n
      · have HN := Lib.hid hN
        clear hN h1
        have b2 : decide (128 < n) = true := decide_eq_true h2
        clear h2
        go_wp2_with fail
        go_ret2
        rw [HX.out, mapB, lastOk_bad (k := k + 1) (by rw [HN.out, if_pos (.inr (.inl (of_decide_eq_true b2)))])]
        exact BytesPost.none_ (Below.refl _ _)
      have b2 : decide (128 < n) = false := decide_eq_false h2
      by_cases h3 : n = 65
      · have HN := Lib.hid hN
        clear hN h1 h2
        have b3 : (n == 65) = true := beq_iff_eq.2 h3
        clear h3
        go_wp2_with fail
        go_ret2
        rw [HX.out, mapB, lastOk_bad (k := k + 1) (by rw [HN.out, if_pos (.inr (.inr (beq_iff_eq.1 b3)))])]
        exact BytesPost.none_ (Below.refl _ _)
      have b3 : (n == 65) = false := beq_eq_false_iff_ne.2 h3
      rw [if_neg (by omega)] at hN
      have HN := Lib.hid hN
      clear hN h1 h2 h3
      go_wp2_with fail
      exact ⟨⟨k + 1, n, hlt, rfl, rfl, HN⟩, by simp [intOf]; omega⟩
    · obtain rfl : k = l.length := by omega
      have hL := hW.out
      rw [List.take_length] at hL
      have hbd := lastOk_bounds 1 l was (by decide) (by decide) hL
      have HBD := Lib.hid hbd
      have hw64 : was ≤ 128 := hbd.2.1
      clear hbd
      by_cases h64 : 64 < was
      · have hx2 : mapB l = (l.foldl setN (setN (List.replicate 16 0) 1), 0) := by rw [mapB, hL]; simp [h64]
        have HXX : Hid (X = (l.foldl setN (setN (List.replicate 16 0) 1), 0)) := Lib.hid (HX.out.trans hx2)
        have b4 : decide (64 < was) = true := decide_eq_true h64
        clear hx2 hL h64
        go_wp2_with (first | ((with_reducible refine gate_dst (N := 30) rfl ?_); refine Kd.R_make (Kd.int .u8) (w0 := w) w.heap.size 5 rfl (N := 30) rfl 90 _ _ rfl 8 rfl rfl Tryd.underlying90 (.int .u8 0) 1 info_u8 rfl (by decide) (by omega) 0 (ok := fun _ => True) (okp := fun _ => True) rfl (fun _ hk => hk) trivial (by omega) (by decide) (Below.refl _ _) (Nat.le_refl _) ?_; intro v1 w1 hr1 hb1 hg1_ hn1_; clear hg1_ hn1_; obtain ⟨g1, cap1, hv1, hg10, hg11, hcl1⟩ := Kd.R_form hr1 (by decide); clear hcl1; subst hv1; have HR1 := Lib.hid hr1; have HB1 := Lib.hid hb1; clear hr1 hb1) | ((with_reducible refine gate_dst (N := 35) rfl ?_); refine Kd.R_make (Kd.int .u8) (w0 := w) w.heap.size 5 rfl (N := 35) rfl 90 _ _ rfl 16 rfl rfl Tryd.underlying90 (.int .u8 0) 1 info_u8 rfl (by decide) (by omega) 0 (ok := fun _ => True) (okp := fun _ => True) rfl (fun _ hk => hk) trivial (by omega) (by decide) HB1.out HB1.out.size ?_; intro v2 w2 hr2 hb2 hg2_ hn2_; clear hg2_ hn2_; obtain ⟨g2, cap2, hv2, hg20, hg21, hcl2⟩ := Kd.R_form hr2 (by decide); clear hcl2; subst hv2; have HR2 := Lib.hid hr2; have HB2 := Lib.hid hb2; clear hr2 hb2))
        have hS := bits_set g2 cap2 w.heap.size (List.replicate 16 0) 1 (by decide) (by simp) (by simp) w2 (by simpa using HR2.out)
        rw [List.length_replicate] at hS
        refine hS.mono ?_
        rintro e w4 ⟨rfl, hr4, hg4⟩
        have HR4 := Lib.hid hr4
        have HB4 := Lib.hid (HB2.out.trans (below_of_grown hg4 HB2.out.size hg20))
        clear hr4 hg4 hS
        dsimp only
        go_wp2_with fail
        go_loopw [10, 42] (fun _ v42 wr => ∃ k : Nat, k ≤ l.length ∧ v42 = .int .i64 k ∧ Hid (Kd.R (Kd.int .u8) 5 wr w.heap.size (fun _ => True) (.slice (some ⟨g2, 0, none⟩) 16 cap2) ((l.take k).foldl setN (setN (List.replicate 16 0) 1))) ∧ Hid (Below w.heap.size w wr)) (fun _ v _ => l.length - (intOf v).toNat)
        case atStart => exact ⟨0, Nat.zero_le _, rfl, HR4, HB4⟩
        case round =>
          obtain ⟨k, hk, rfl, hR2, hbel⟩ := hrel
          obtain ⟨wo, rfl⟩ : ∃ wo : World, wo = wr := ⟨_, rfl⟩
          by_cases hlt : k < l.length
          · obtain ⟨ad, rfl, hcell⟩ := (RI.below HR.out hbel.out).at_ k hlt
            obtain ⟨n, hn⟩ : ∃ n, n = l[k] := ⟨_, rfl⟩
            have hnm : n ∈ l := by rw [hn]; exact List.getElem_mem hlt
            rw [← hn] at hcell
            have hst : (l.take (k + 1)).foldl setN (setN (List.replicate 16 0) 1) = setN ((l.take k).foldl setN (setN (List.replicate 16 0) 1)) n := by rw [List.take_succ_eq_append_getElem hlt, List.foldl_append, ← hn]; rfl
            have hln : ((l.take k).foldl setN (setN (List.replicate 16 0) 1)).length = 16 := by rw [foldl_setN_len]; rw [setN_len]; simp
            generalize (l.take k).foldl setN (setN (List.replicate 16 0) 1) = xs at hst hln hR2
            have hb3 := HBD.out.2.2 n hnm
            have hS := bits_set g2 cap2 w.heap.size xs n hb3.1 (by rw [hln]; omega) (by omega) wo (by rw [hln]; exact hR2.out)
            rw [hln, ← hst] at hS
            have HS := Lib.hid hS
            clear hS hst hn hnm hb3 hR2
            go_wp2_with fail
            refine HS.out.mono ?_
            rintro e w5 ⟨rfl, hr5, hg5⟩
            have HR5 := Lib.hid hr5
            have HB5 := Lib.hid (hbel.out.trans (below_of_grown hg5 hbel.out.size hg20))
            clear hr5 hg5 HS
            dsimp only
            go_wp2_with fail
            exact ⟨⟨k + 1, hlt, rfl, HR5, HB5⟩, by simp [intOf]; omega⟩
          · obtain rfl : k = l.length := by omega
            go_wp2_with fail
            go_ret2
            rw [HXX.out]
            have hR3 := hR2.out
            rw [List.take_length] at hR3
            exact ⟨_, rfl, hR3, hbel.out⟩
      · have hx2 : mapB l = (l.foldl setN (List.replicate 8 0), 0) := by rw [mapB, hL]; simp [h64]
        have HXX : Hid (X = (l.foldl setN (List.replicate 8 0), 0)) := Lib.hid (HX.out.trans hx2)
        have b4 : decide (64 < was) = false := decide_eq_false h64
        clear hx2 hL
        go_wp2_with ((with_reducible refine gate_dst (N := 30) rfl ?_); refine Kd.R_make (Kd.int .u8) (w0 := w) w.heap.size 5 rfl (N := 30) rfl 90 _ _ rfl 8 rfl rfl Tryd.underlying90 (.int .u8 0) 1 info_u8 rfl (by decide) (by omega) 0 (ok := fun _ => True) (okp := fun _ => True) rfl (fun _ hk => hk) trivial (by omega) (by decide) (Below.refl _ _) (Nat.le_refl _) ?_; intro v1 w1 hr1 hb1 hg1_ hn1_; clear hg1_ hn1_; obtain ⟨g1, cap1, hv1, hg10, hg11, hcl1⟩ := Kd.R_form hr1 (by decide); clear hcl1; subst hv1; have HR1 := Lib.hid hr1; have HB1 := Lib.hid hb1; clear hr1 hb1)
        go_loopw [10, 42] (fun _ v42 wr => ∃ k : Nat, k ≤ l.length ∧ v42 = .int .i64 k ∧ Hid (Kd.R (Kd.int .u8) 5 wr w.heap.size (fun _ => True) (.slice (some ⟨g1, 0, none⟩) 8 cap1) ((l.take k).foldl setN (List.replicate 8 0))) ∧ Hid (Below w.heap.size w wr)) (fun _ v _ => l.length - (intOf v).toNat)
        case atStart => exact ⟨0, Nat.zero_le _, rfl, HR1, HB1⟩
        case round =>
          obtain ⟨k, hk, rfl, hR2, hbel⟩ := hrel
          obtain ⟨wo, rfl⟩ : ∃ wo : World, wo = wr := ⟨_, rfl⟩
          by_cases hlt : k < l.length
          · obtain ⟨ad, rfl, hcell⟩ := (RI.below HR.out hbel.out).at_ k hlt
            obtain ⟨n, hn⟩ : ∃ n, n = l[k] := ⟨_, rfl⟩
            have hnm : n ∈ l := by rw [hn]; exact List.getElem_mem hlt
            rw [← hn] at hcell
            have hst : (l.take (k + 1)).foldl setN (List.replicate 8 0) = setN ((l.take k).foldl setN (List.replicate 8 0)) n := by rw [List.take_succ_eq_append_getElem hlt, List.foldl_append, ← hn]; rfl
            have hln : ((l.take k).foldl setN (List.replicate 8 0)).length = 8 := by rw [foldl_setN_len]; simp
            generalize (l.take k).foldl setN (List.replicate 8 0) = xs at hst hln hR2
            have hb3 := HBD.out.2.2 n hnm
            have hS := bits_set g1 cap1 w.heap.size xs n hb3.1 (by rw [hln]; omega) (by omega) wo (by rw [hln]; exact hR2.out)
            rw [hln, ← hst] at hS
            have HS := Lib.hid hS
            clear hS hst hn hnm hb3 hR2
            go_wp2_with fail
            refine HS.out.mono ?_
            rintro e w5 ⟨rfl, hr5, hg5⟩
            have HR5 := Lib.hid hr5
            have HB5 := Lib.hid (hbel.out.trans (below_of_grown hg5 hbel.out.size hg10))
            clear hr5 hg5 HS
            dsimp only
            go_wp2_with fail
            exact ⟨⟨k + 1, hlt, rfl, HR5, HB5⟩, by simp [intOf]; omega⟩
          · obtain rfl : k = l.length := by omega
            go_wp2_with fail
            go_ret2
            rw [HXX.out]
            have hR3 := hR2.out
            rw [List.take_length] at hR3
            exact ⟨_, rfl, hR3, hbel.out⟩
end Go.Proofs.YtonhmaklnkidhaaDoor.G
