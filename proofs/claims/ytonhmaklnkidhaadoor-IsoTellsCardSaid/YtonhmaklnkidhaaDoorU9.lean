/- What the functions of package element and of the verifier do, one contract each: a part of the proof; no conditions of its own (my own text, filled from XU9.lean.tpl). -/
import Derived.Test.YtonhmaklnkidhaaDoorU8
namespace Go.Proofs.YtonhmaklnkidhaaDoor.G
open Go.RowKit Go.Proofs.YtonhmaklnkidhaaDoorW.PrintWords

/-- bytes that may be appended to, beside why not -/
def OutPost (w : World) (r : List Int × Int) (e : Ending) (w' : World) : Prop :=
  ∃ v, e = .returned (.tuple #[v, .int .i64 r.2]) ∧ BRow w' w.heap.size v r.1 ∧ Below w.heap.size w w'
theorem OutPost.none_ {w w' : World} {x : Int} (hb : Below w.heap.size w w') : OutPost w ([], x) (.returned (.tuple #[.slice none 0 0, .int .i64 x])) w' := ⟨_, rfl, BRow.nil_ _ _, hb⟩

set_option maxHeartbeats 6400000 in
set_option maxRecDepth 100000 in
theorem iso_Pack (mti : ByteArray) (A : Option Addr) (c : Nat) (fs : List (Int × List Int)) (w : World) (hmti : mti.size ≤ 9223372036854775807) (hC : Kd.C kE w A fs.length fs) (hm : fs.length ≤ 1000) (hP : ∀ x ∈ fs, 100 ≤ x.2.length → Pow w) :
    Calls Tryd.prog 21 #[.agg #[.string mti, .slice A fs.length c]] w (OutPost w (packOf mti fs)) := by
  obtain ⟨X, hX⟩ : ∃ X, X = packOf mti fs := ⟨_, rfl⟩
  rw [← hX]
  have HX := Lib.hid hX
  have HC := Lib.hid hC
  have HP := Lib.hid hP
  clear hX hC hP
  have Hb0 := Lib.hid (below_alloc (Below.refl w.heap.size w) (.cells #[.string mti, .slice A fs.length c] 46))
  go_enter Tryd.func21, Tryd.ntmps21
  go_wp2_with fail
  refine (digits_Right.calls mti 4 4 (rightB mti 4 4) _ (right_f mti 4 4 hmti)).mono ?_
  rintro e w1 ⟨rfl, hd⟩
  have hb1 := hd.below
  have hz1 : w.heap.size < w1.heap.size := Nat.lt_of_lt_of_le (by simp) hb1.size
  obtain ⟨hc1, hf1⟩ := bcell hb1
  have HB1 := Lib.hid (below_then Hb0.out (by simp) hb1)
  clear hd hb1 Hb0
  dsimp only
  by_cases hr : rightB mti 4 4 = false
  · rw [hr]
    have HX2 : Hid (X = ([], 5)) := Lib.hid (by rw [HX.out, packOf, if_pos hr])
    clear hr
    go_wp2_with fail
    go_ret2
    rw [HX2.out]
    exact OutPost.none_ HB1.out
  have hr' : rightB mti 4 4 = true := by simpa using hr
  rw [hr']
  have hm4 : mti.size = 4 := by
    unfold rightB at hr'
    simp at hr'
    omega
  have HX2 : Hid (X = if (mapB (fs.map (·.1))).2 ≠ 0 then ([], 1) else packGo (bytesOf mti ++ (mapB (fs.map (·.1))).1) fs) := Lib.hid (by rw [HX.out, packOf, if_neg hr])
  clear hr hr' HX
  have q0 : w1.cell? ⟨w.heap.size, 0, none⟩ = some (.string mti) := by rw [hc1 _ _ (by simp)]; go_simp
  have q1 : w1.cell? ⟨w.heap.size, 1, none⟩ = some (.slice A fs.length c) := by rw [hc1 _ _ (by simp)]; go_simp
  clear hc1 hf1
  go_wp2_with fail
  have HC1 := Lib.hid (Kd.C_below HC.out HB1.out)
  have HP1 : Hid (∀ x ∈ fs, 100 ≤ x.2.length → Pow w1) := Lib.hid (fun x hx h => (HP.out x hx h).on HB1.out)
  clear HC HP
  have hzz : w.heap.size < w1.heap.size := hz1
  go_loopw [4, 6, 21] (fun v4 _ v21 wr => ∃ k : Nat, k ≤ fs.length ∧ v21 = .int .i64 k ∧ Hid (Kd.R (Kd.int .i64) 3 wr w1.heap.size (fun _ => True) v4 ((fs.take k).map (·.1))) ∧ Hid (Below w1.heap.size w1 wr)) (fun _ _ v _ => fs.length - (intOf v).toNat)
  case atStart => exact ⟨0, Nat.zero_le _, rfl, Lib.hid (Kd.R_nil _ _ _ _ _), Lib.hid (Below.refl _ _)⟩
  case round =>
    obtain ⟨k, hk, rfl, hR, hbel⟩ := hrel
    obtain ⟨wo, rfl⟩ : ∃ wo : World, wo = wr := ⟨_, rfl⟩
    by_cases hlt : k < fs.length
    · obtain ⟨ad, B, cB, rfl, hx0, hx1, hx2, hx3⟩ := kE_at (Kd.C_below HC1.out hbel.out) k hlt
      have hsn : (fs.take (k + 1)).map (·.1) = (fs.take k).map (·.1) ++ [fs[k].1] := by rw [List.take_succ_eq_append_getElem hlt, List.map_append]; rfl
      clear hx2 hx3
      generalize fs[k].1 = no at hx0 hsn
      generalize fs[k].2.length = bl at hx1
      have HSN := Lib.hid hsn
      have Ha := Lib.hid (below_alloc hbel.out (.cells #[.int .i64 no, .slice B bl cB] 26))
      have HRa := Lib.hid (Kd.R_alloc hR.out (.cells #[.int .i64 no, .slice B bl cB] 26))
      have hsz : (wo.alloc (.cells #[.int .i64 no, .slice B bl cB] 26)).heap.size = wo.heap.size + 1 := by simp
      have HSZ := Lib.hid hsz
      clear hsn hsz
      go_wp2_with (at_builtin; refine Kd.R_append (Kd.int .i64) (w0 := w1) w1.heap.size rfl (.tmp 25) (.tmp 28) 43 3 (.int .i64 0) 8 rfl Tryd.underlying43 info_int rfl (by decide) (by omega) u4 ((fs.take k).map (·.1)) no [.int .i64 no] (fun _ => True) (fun _ => False) rfl (by rw [HSZ.out]; rfl) rfl (fun _ hk => hk.elim) (fun _ _ => trivial) HRa.out Ha.out Ha.out.size (by rw [List.length_map, List.length_take]; omega) ?_; intro v5 w5 ho5 hb5 hg5 hat5; clear hg5 hat5; have HO5 := Lib.hid ho5; have HB5 := Lib.hid hb5; clear ho5 hb5)
      exact ⟨⟨k + 1, hlt, rfl, Lib.hid (by rw [HSN.out]; exact HO5.out), HB5⟩, by simp [intOf]; omega⟩
    · obtain rfl : k = fs.length := by omega
      have hR2 := hR.out
      rw [List.take_length] at hR2
      obtain ⟨nos, hnos⟩ : ∃ nos, nos = fs.map (·.1) := ⟨_, rfl⟩
      have hnl : nos.length = fs.length := by rw [hnos, List.length_map]
      rw [← hnos] at hR2 HX2
      obtain ⟨A4, c4, hv4, hc4, hr4⟩ := Kd.R_reads hR2
      subst hv4
      have HW := Lib.hid (bitmap_Write A4 c4 nos wo hr4 (by omega))
      rw [hnl] at HW ⊢
      have hml := mapB_len nos
      generalize mapB nos = mb at HW HX2 hml
      obtain ⟨mb1, mb2⟩ := mb
      simp only at hml
      have q0' : wo.cell? ⟨w.heap.size, 0, none⟩ = some (.string mti) := (hbel.out.cell (p := ⟨w.heap.size, 0, none⟩) hzz).trans q0
      have q1' : wo.cell? ⟨w.heap.size, 1, none⟩ = some (.slice A fs.length c) := (hbel.out.cell (p := ⟨w.heap.size, 1, none⟩) hzz).trans q1
      have hzo : w.heap.size < wo.heap.size := Nat.lt_of_lt_of_le hzz hbel.out.size
      clear hnos hr4 hR2 hR hnl hc4
      go_wp2_with fail
      refine HW.out.mono ?_
      rintro e w2 ⟨v2, rfl, hv2, hb2⟩
      have HV2 := Lib.hid (BRow.of_R hv2)
      have HBo2 := Lib.hid hb2
      have HB2 := Lib.hid (below_then hbel.out hbel.out.size hb2)
      clear hv2 hb2 HW
      dsimp only at HX2 HV2 ⊢
      by_cases hm0 : mb2 ≠ 0
      · have HX3 : Hid (X = ([], 1)) := Lib.hid (by rw [HX2.out, if_pos hm0])
        have b2 : (mb2 != 0) = true := bne_iff_ne.2 hm0
        clear hm0
        go_wp2_with fail
        go_ret2
        rw [HX3.out]
        exact OutPost.none_ (below_then HB1.out HB1.out.size HB2.out)
      have HX3 : Hid (X = packGo (bytesOf mti ++ mb1) fs) := Lib.hid (by rw [HX2.out, if_neg hm0])
      have b2 : (mb2 != 0) = false := by simpa using hm0
      clear hm0
      have r0 : w2.cell? ⟨w.heap.size, 0, none⟩ = some (.string mti) := (HBo2.out.cell (p := ⟨w.heap.size, 0, none⟩) hzo).trans q0'
      have r1 : w2.cell? ⟨w.heap.size, 1, none⟩ = some (.slice A fs.length c) := (HBo2.out.cell (p := ⟨w.heap.size, 1, none⟩) hzo).trans q1'
      obtain ⟨A2, c2, hv2, hc2, hr2⟩ := HV2.out.reads
      subst hv2
      have HR2 := Lib.hid hr2
      have hz2 : w.heap.size < w2.heap.size := Nat.lt_of_lt_of_le hzo HBo2.out.size
      clear hr2 HV2 q0' q1'
      go_wp2_with ((with_reducible refine gate_dst (N := 40) rfl ?_); refine wpList_conv _ rfl (.tmp 39) rfl mti rfl (by omega) ?_; intro v3 w3 hv3 hb3; obtain ⟨A3, c3, hvv, hc3, hr3⟩ := hv3.reads; subst hvv; have HR3 := Lib.hid hr3; have HB3 := Lib.hid hb3; clear hv3 hb3 hr3)
      have H3a := Lib.hid (below_alloc (Below.refl w3.heap.size w3) (.cells #[.slice A3 (bytesOf mti).length c3, .slice A2 mb1.length c2] 22))
      have hml4 : (bytesOf mti).length = 4 := by rw [bytesOf_length, hm4]
      have cC := slices_Concat w3.heap.size A3 A2 c3 c2 (bytesOf mti) mb1 (w3.alloc (.cells #[.slice A3 (bytesOf mti).length c3, .slice A2 mb1.length c2] 22)) (RB.below HR3.out H3a.out) (RB.below (RB.below HR2.out HB3.out) H3a.out) (by omega) (by omega) (by rw [World.cell?_alloc_new]; rfl) (by rw [World.cell?_alloc_new]; rfl)
      have hbl : (bytesOf mti ++ mb1).length ≤ 20 := by rw [List.length_append]; omega
      generalize bytesOf mti ++ mb1 = bs at *
      have HCc := Lib.hid cC
      have HB3a := Lib.hid (below_then (below_then HB2.out HB2.out.size HB3.out) (Nat.le_trans HB2.out.size HB3.out.size) H3a.out)
      have r1' : (w3.alloc (.cells #[.slice A3 (bytesOf mti).length c3, .slice A2 mb1.length c2] 22)).cell? ⟨w.heap.size, 1, none⟩ = some (.slice A fs.length c) := (H3a.out.cell (p := ⟨w.heap.size, 1, none⟩) (Nat.lt_of_lt_of_le hz2 HB3.out.size)).trans ((HB3.out.cell (p := ⟨w.heap.size, 1, none⟩) hz2).trans r1)
      have hz3 : w.heap.size < (w3.alloc (.cells #[.slice A3 (bytesOf mti).length c3, .slice A2 mb1.length c2] 22)).heap.size := Nat.lt_of_lt_of_le hz2 (Nat.le_trans HB3.out.size H3a.out.size)
      clear cC H3a hml4
      refine HCc.out.mono ?_
      rintro e w4 ⟨v4, rfl, hv4, hb4⟩
      have r4 : w4.cell? ⟨w.heap.size, 1, none⟩ = some (.slice A fs.length c) := (hb4.cell (p := ⟨w.heap.size, 1, none⟩) hz3).trans r1'
      have HV4 := Lib.hid (hv4.less HB3a.out.size)
      have HB4 := Lib.hid (below_then HB3a.out HB3a.out.size hb4)
      clear hv4 hb4 HCc r0 r1 r1' hz3 HR2 HR3 HB2 HB3 HB3a HBo2 hbel q0 q1
      dsimp only
      go_wp2_with fail
      go_loopw [9, 11, 12, 13, 47] (fun v9 _ _ _ v47 wr => ∃ (k : Nat) (acc : List Int), k ≤ fs.length ∧ v47 = .int .i64 k ∧ Hid (BRow wr w1.heap.size v9 acc) ∧ Hid (X = packGo acc (fs.drop k)) ∧ Hid (acc.length ≤ 20 + 1003 * k) ∧ Hid (Below w1.heap.size w1 wr)) (fun _ _ _ _ v _ => fs.length - (intOf v).toNat)
      case atStart => exact ⟨0, bs, Nat.zero_le _, rfl, HV4, HX3, Lib.hid (by omega), HB4⟩
      case round =>
        obtain ⟨k, acc, hk, rfl, hV, hXk, hal, hbel⟩ := hrel
        obtain ⟨wo, rfl⟩ : ∃ wo : World, wo = wr := ⟨_, rfl⟩
        by_cases hlt : k < fs.length
        · obtain ⟨ad, B, cB, rfl, hx0, hx1, hx2, hx3⟩ := kE_at (Kd.C_below HC1.out hbel.out) k hlt
          have hdr : fs.drop k = fs[k] :: fs.drop (k + 1) := List.drop_eq_getElem_cons hlt
          have hxm : fs[k] ∈ fs := List.getElem_mem hlt
          obtain ⟨x, hx⟩ : ∃ x, x = fs[k] := ⟨_, rfl⟩
          rw [← hx] at hx0 hx1 hx2 hx3 hdr hxm
          obtain ⟨no, d⟩ := x
          simp only at hx0 hx1 hx2 hx3
          have hXk2 := hXk.out
          rw [hdr, packGo] at hXk2
          simp only at hXk2
          have hpw := HP1.out _ hxm
          simp only at hpw
          have Ha := Lib.hid (below_alloc (Below.refl wo.heap.size wo) (.cells #[.int .i64 no, .slice B d.length cB] 26))
          have hWr := element_Write no B cB d (wo.alloc (.cells #[.int .i64 no, .slice B d.length cB] 26)) (RB.below hx3 Ha.out) hx2 (fun h => ((hpw h).on hbel.out).on Ha.out)
          have hwl := writeOf_len no d
          generalize writeOf no d = r at hWr hXk2 hwl
          obtain ⟨r1, r2⟩ := r
          simp only at hXk2 hwl
          have HWr := Lib.hid hWr
          have HXk2 := Lib.hid hXk2
          clear hWr hXk2 hXk hdr hxm hx hpw hx3
          go_wp2_with fail
          refine HWr.out.mono ?_
          rintro e w5 ⟨v5, rfl, hv5, hb5⟩
          have hv5' : BRow w5 (wo.alloc (.cells #[.int .i64 no, .slice B d.length cB] 26)).heap.size v5 r1 := hv5
          obtain ⟨A5, c5, hvv, hc5, hr5⟩ := hv5'.reads
          subst hvv
          have HR5 := Lib.hid hr5
          have HB5a := Lib.hid (below_then Ha.out Ha.out.size hb5)
          have HV5 := Lib.hid (hV.out.below HB5a.out)
          have HB5 := Lib.hid (below_then hbel.out hbel.out.size HB5a.out)
          clear hv5 hv5' hb5 hr5 HWr HB5a
          dsimp only
          by_cases h2 : r2 ≠ 0
          · have HX4 : Hid (X = ([], r2)) := Lib.hid (by rw [HXk2.out, if_pos h2])
            have b2 : (r2 != 0) = true := bne_iff_ne.2 h2
            clear h2
            go_wp2_with fail
            go_ret2
            rw [HX4.out]
            exact OutPost.none_ (below_then HB1.out HB1.out.size HB5.out)
          have HX4 : Hid (X = packGo (acc ++ r1) (fs.drop (k + 1))) := Lib.hid (by rw [HXk2.out, if_neg h2])
          have b2 : (r2 != 0) = false := by simpa using h2
          clear h2 HXk2
          go_wp2_with (at_builtin; refine wpList_bytes_append _ rfl (.tmp 59) (.tmp 60) rfl w1.heap.size _ acc rfl HV5.out A5 c5 r1 rfl HR5.out (by have := hal.out; omega) HB5.out.size ?_; intro v6 w6 hv6 hb6 hgr6 hat6; clear hgr6 hat6; have HV6 := Lib.hid hv6; have HB6 := Lib.hid (HB5.out.trans hb6); clear hv6 hb6)
          exact ⟨⟨k + 1, _, hlt, rfl, HV6, HX4, Lib.hid (by rw [List.length_append]; have := hal.out; omega), HB6⟩, by simp [intOf]; omega⟩
        · obtain rfl : k = fs.length := by omega
          have hXk2 := hXk.out
          rw [List.drop_length, packGo] at hXk2
          obtain ⟨A5, c5, hv5, hc5, hr5⟩ := hV.out.reads
          subst hv5
          obtain ⟨z, hz⟩ : ∃ z, z = acc.length := ⟨_, rfl⟩
          rw [← hz] at hXk2 ⊢
          have HXk2 := Lib.hid hXk2
          have HZ := Lib.hid hz
          clear hXk2 hz hXk hr5 hc5
          by_cases h4 : 4096 < z
          · have HX4 : Hid (X = ([], 4)) := Lib.hid (by rw [HXk2.out, if_pos h4])
            have b2 : decide ((4096 : Int) < (z : Int)) = true := decide_eq_true (by omega)
            clear h4 HXk2
            go_wp2_with fail
            go_ret2
            rw [HX4.out]
            exact OutPost.none_ (below_then HB1.out HB1.out.size hbel.out)
          · have HX4 : Hid (X = (acc, 0)) := Lib.hid (by rw [HXk2.out, if_neg h4])
            have b2 : decide ((4096 : Int) < (z : Int)) = false := decide_eq_false (by omega)
            clear h4 HXk2
            go_wp2_with fail
            go_ret2
            rw [HX4.out]
            have hV3 := hV.out
            rw [← HZ.out] at hV3
            exact ⟨_, rfl, hV3.less HB1.out.size, below_then HB1.out HB1.out.size hbel.out⟩
end Go.Proofs.YtonhmaklnkidhaaDoor.G
