/- What the functions of package element and of the verifier do, one contract each: a part of the proof; no conditions of its own (my own text, filled from XT4.lean.tpl). -/
import Derived.Test.YtonhmaklnkidhaaDoorT3
namespace Go.Proofs.YtonhmaklnkidhaaDoor.G
open Go.RowKit Go.Proofs.YtonhmaklnkidhaaDoorW.PrintWords

theorem fill_next (n k : Nat) (x y : Int) (h : k < n) : (List.replicate k x ++ List.replicate (n - k) y).set k x = List.replicate (k + 1) x ++ List.replicate (n - (k + 1)) y := by
  obtain ⟨m, rfl⟩ : ∃ m, n = k + 1 + m := ⟨n - (k + 1), by omega⟩
  have e1 : k + 1 + m - k = m + 1 := by omega
  have e2 : k + 1 + m - (k + 1) = m := by omega
  rw [e1, e2, List.set_append_right _ _ (by simp), List.length_replicate, Nat.sub_self, List.replicate_succ, List.set_cons_zero, List.replicate_succ']
  simp
theorem fill_len (n k : Nat) (x y : Int) (h : k ≤ n) : (List.replicate k x ++ List.replicate (n - k) y).length = n := by simp; omega
theorem fill_all (n : Nat) (x y : Int) : List.replicate n x ++ List.replicate (n - n) y = List.replicate n x := by simp

set_option maxHeartbeats 1600000 in
set_option maxRecDepth 100000 in
theorem dig_walk (a b : Int) (w : World) : Calls Tryd.prog 5 #[.int .i64 a, .int .i64 b] w fun e w' => e = .returned (.bool true) ∧ Below w.heap.size w w' := by
  obtain ⟨u, hu, hN⟩ := dig_n a
  have hN2 : Hid (wrap64 (1 + wrap64 ((IntKind.u64.wrap a).tmod 99)) = ((u + 1 : Nat) : Int)) := Lib.hid hN
  clear hN
  go_enter Tryd.func5, Tryd.ntmps5
  go_wp2_with ((with_reducible refine gate_dst (N := 29) rfl ?_); rw [hN2.out]; refine Kd.R_make (Kd.int .u8) (w0 := w) w.heap.size 5 rfl (N := 29) rfl 22 _ _ rfl ((u + 1 : Nat) : Int) rfl rfl Tryd.underlying22 (.int .u8 0) 1 info_u8 rfl (by decide) (by omega) 0 (ok := fun _ => True) (okp := fun _ => True) rfl (fun _ hk => hk) trivial (by omega) (by omega) (Below.refl _ _) (Nat.le_refl _) ?_; intro v1 w1 hr1 hb1 hg1_ hn1_; clear hg1_ hn1_; simp only [Int.toNat_natCast] at hr1; obtain ⟨g, cap, hv1, hg0, hg1, hcl1⟩ := Kd.R_form hr1 (by simp); clear hcl1; subst hv1; simp only [List.length_replicate] at hr1 ⊢; have HR1 := Lib.hid hr1; have HB1 := Lib.hid hb1; clear hr1 hb1 hN2; generalize hn : u + 1 = n at *)
  have hn1 : 0 < n := by omega
  have hn9 : n < 100 := by omega
  go_loopw [6, 32] (fun v6 v32 wr => ∃ k : Nat, k ≤ n ∧ v32 = .int .i64 k ∧ Hid (Kd.R (Kd.int .u8) 5 wr w.heap.size (fun _ => True) (.slice (some ⟨g, 0, none⟩) n cap) (List.replicate k 122 ++ List.replicate (n - k) 0)) ∧ Hid (Below w.heap.size w wr)) (fun _ v _ => n - (intOf v).toNat)
  case atStart => exact ⟨0, Nat.zero_le _, rfl, HR1, HB1⟩
  case round =>
    obtain ⟨k, hk, rfl, hR, hbel⟩ := hrel
    obtain ⟨wo, rfl⟩ : ∃ wo : World, wo = wr := ⟨_, rfl⟩
    by_cases hlt : k < n
    · have hR2 := hR.out
      have hlen := fill_len n k 122 0 hk
      have hnn : n = (List.replicate k (122 : Int) ++ List.replicate (n - k) 0).length := hlen.symm
      have hp := Kd.R_put (enc := Value.int .u8) (h1 := fun _ => rfl) (g := g) (cap := cap) (xs := List.replicate k 122 ++ List.replicate (n - k) 0) (by rw [hlen]; exact hR2) k 122
      have hq := Kd.R_cell (enc := Value.int .u8) (h1 := fun _ => rfl) (g := g) (cap := cap) (xs := List.replicate k 122 ++ List.replicate (n - k) 0) 0 (by rw [hlen]; exact hR2) k (by omega) (by rw [hlen]; omega)
      rw [hlen] at hp
      simp only [Int.toNat_natCast] at hp hq
      rw [fill_next n k 122 0 hlt] at hp
      obtain ⟨hq1, hq2⟩ := hq
      have HP := Lib.hid hp.1
      have HG := Lib.hid hp.2
      clear hp hR2 hlen hnn
      go_wp2_with fail
      exact ⟨⟨k + 1, hlt, rfl, HP, Lib.hid (hbel.out.setCell hg0 _)⟩, by simp [intOf]; omega⟩
    · obtain rfl : k = n := by omega
      have hR2 := hR.out
      rw [fill_all] at hR2
      obtain ⟨hbad, hkc, hC⟩ := Kd.R_reads' hR2
      clear hbad
      rw [List.length_replicate] at hC
      obtain ⟨l, hl⟩ : ∃ l : List Int, l = List.replicate k 122 := ⟨_, rfl⟩
      have hlk : l.length = k := by rw [hl, List.length_replicate]
      rw [← hl, ← hlk] at hC
      have hw : writeOf 60 l = (nums8 (three k) ++ l, 0) := by rw [hl, ← hn]; exact write_zs hu
      have h0 := read_000 u hu
      have h1 := read_0x1 u hu
      have h2 := read_101 u hu
      rw [hn, ← hl] at h0 h1 h2
      have hd := digits_three u hu
      rw [hn] at hd
      have hlt3 : (three k).length = 3 := by unfold three; split <;> rfl
      have hlb : (nums8 (three k) ++ l).length = k + 3 := by rw [List.length_append, nums8, List.length_map, hlt3, hlk]; omega
      have hst : strOfNums (nums8 (three k) ++ l) = (⟨(three k).toArray⟩ : ByteArray) ++ strOfNums l := strOfNums_app _ _
      have hsl : (strOfNums l).size = k := by rw [strOfNums_size, hlk]
      have hs3 : (⟨(three k).toArray⟩ : ByteArray).size = 3 := hlt3
      generalize hD : (⟨(three k).toArray⟩ : ByteArray) = D at hd hst hs3
      generalize hS : strOfNums l = S at hst hsl
      generalize hM : nums8 (three k) ++ l = M at hw hlb hst
      clear hl hR hR2 HR1 HB1 hD hlt3
      have cW := element_Write 60 (some ⟨g, 0, none⟩) cap l wo hC (by omega) (fun h => absurd h (by omega))
      rw [hw, hlk] at cW
      have HW := Lib.hid cW
      have HC := Lib.hid hC
      have H0 := Lib.hid h0
      have H1 := Lib.hid h1
      have H2 := Lib.hid h2
      have HD := Lib.hid hd
      have HS := Lib.hid hS
      have HST := Lib.hid hst
      clear cW hw hC h0 h1 h2 hd hS hst hM
      go_wp2_with fail
      refine HW.out.mono ?_
      rintro e w2 ⟨v2, rfl, hv2, hb2⟩
      obtain ⟨A2, c2, rfl, hc2, hr2⟩ := hv2.reads
      dsimp only at hr2 hc2 ⊢
      rw [hlb] at hc2 ⊢
      have HC2 := Lib.hid (RB.below HC.out hb2)
      have HB2 := Lib.hid (below_then hbel.out hbel.out.size hb2)
      have HR2 := Lib.hid hr2
      have hku : IntKind.u64.wrap (k : Int) = k := by rw [IntKind.wrap_u64]; omega
      clear hv2 hb2 HW HC hr2
      have kc := fun (w : World) (C : Array Value) (n c : Nat) => Lib.run_convert_bytes_const (P := Tryd.prog) w 22 5 C n c Tryd.underlying22 Tryd.underlying5
      go_wp2_with fail
      refine (PD.comptoirref01_Digits.calls 12 k 3 D 0 w2 HD.out).mono ?_
      rintro e w3 ⟨rfl, hb3⟩
      have HC3 := Lib.hid (RB.below HC2.out hb3)
      have HR3 := Lib.hid (RB.below HR2.out hb3)
      have HB3 := Lib.hid (below_then HB2.out HB2.out.size hb3)
      clear hb3 HC2 HR2 HD
      have Ha3 := Lib.hid (below_alloc (Below.refl w3.heap.size w3) (.cells #[.int .u8 48, .int .u8 48, .int .u8 48] 5 (3, 4)))
      have HL3 := Lib.hid (BRow.lit w3 [48, 48, 48] #[.int .u8 48, .int .u8 48, .int .u8 48] 3 rfl rfl (by decide))
      go_wp2_with (at_builtin; refine wpList_bytes_append _ rfl (.tmp 53) (.tmp 54) rfl w3.heap.size _ [48, 48, 48] rfl HL3.out (some ⟨g, 0, none⟩) cap l (by rw [hlk]; rfl) (RB.below HC3.out Ha3.out) (by simp only [List.length_cons, List.length_nil]; omega) Ha3.out.size ?_; intro v4 w4 hv4 hb4 hgr4 hat4; clear hgr4 hat4; have HV4 := Lib.hid hv4; have Hb4 := Lib.hid (Ha3.out.trans hb4); clear hv4 hb4)
      obtain ⟨A4, c4, hvv, hcc, hrr⟩ := HV4.out.reads
      subst hvv
      have hR := element_Read 60 A4 c4 ([48, 48, 48] ++ l) w4 hrr hcc
      have hx := H0.out
      generalize readOf 60 ([48, 48, 48] ++ l) = r at hR hx
      obtain ⟨r1, r2, r3⟩ := r
      simp only at hx
      subst hx
      refine hR.mono ?_
      rintro e w5 ⟨v, rfl, _, hb⟩
      have HC5 := Lib.hid (RB.below (RB.below HC3.out Hb4.out) hb)
      have HR5 := Lib.hid (RB.below (RB.below HR3.out Hb4.out) hb)
      have HB5 := Lib.hid (below_then HB3.out HB3.out.size (below_then Hb4.out Hb4.out.size hb))
      clear hR hb HC3 HR3 HB3 Hb4 Ha3 HL3 HV4 hcc hrr H0
      dsimp only
      have Ha6 := Lib.hid (below_alloc (Below.refl w5.heap.size w5) (.cells #[.int .u8 48, .int .u8 120, .int .u8 49] 5 (3, 4)))
      have HL6 := Lib.hid (BRow.lit w5 [48, 120, 49] #[.int .u8 48, .int .u8 120, .int .u8 49] 3 rfl rfl (by decide))
      go_wp2_with (at_builtin; refine wpList_bytes_append _ rfl (.tmp 62) (.tmp 63) rfl w5.heap.size _ [48, 120, 49] rfl HL6.out (some ⟨g, 0, none⟩) cap l (by rw [hlk]; rfl) (RB.below HC5.out Ha6.out) (by simp only [List.length_cons, List.length_nil]; omega) Ha6.out.size ?_; intro v6 w6 hv6 hb6 hgr6 hat6; clear hgr6 hat6; have HV6 := Lib.hid hv6; have Hb6 := Lib.hid (Ha6.out.trans hb6); clear hv6 hb6)
      obtain ⟨A6, c6, hvv, hcc, hrr⟩ := HV6.out.reads
      subst hvv
      have hR := element_Read 60 A6 c6 ([48, 120, 49] ++ l) w6 hrr hcc
      have hx := H1.out
      generalize readOf 60 ([48, 120, 49] ++ l) = r at hR hx
      obtain ⟨r1, r2, r3⟩ := r
      simp only at hx
      subst hx
      refine hR.mono ?_
      rintro e w7 ⟨v, rfl, _, hb⟩
      have HC7 := Lib.hid (RB.below (RB.below HC5.out Hb6.out) hb)
      have HR7 := Lib.hid (RB.below (RB.below HR5.out Hb6.out) hb)
      have HB7 := Lib.hid (below_then HB5.out HB5.out.size (below_then Hb6.out Hb6.out.size hb))
      clear hR hb HC5 HR5 HB5 Hb6 Ha6 HL6 HV6 hcc hrr H1
      dsimp only
      have Ha8 := Lib.hid (below_alloc (Below.refl w7.heap.size w7) (.cells #[.int .u8 49, .int .u8 48, .int .u8 49] 5 (3, 4)))
      have HL8 := Lib.hid (BRow.lit w7 [49, 48, 49] #[.int .u8 49, .int .u8 48, .int .u8 49] 3 rfl rfl (by decide))
      go_wp2_with (at_builtin; refine wpList_bytes_append _ rfl (.tmp 71) (.tmp 72) rfl w7.heap.size _ [49, 48, 49] rfl HL8.out (some ⟨g, 0, none⟩) cap l (by rw [hlk]; rfl) (RB.below HC7.out Ha8.out) (by simp only [List.length_cons, List.length_nil]; omega) Ha8.out.size ?_; intro v8 w8 hv8 hb8 hgr8 hat8; clear hgr8 hat8; have HV8 := Lib.hid hv8; have Hb8 := Lib.hid (Ha8.out.trans hb8); clear hv8 hb8)
      obtain ⟨A8, c8, hvv, hcc, hrr⟩ := HV8.out.reads
      subst hvv
      have hR := element_Read 60 A8 c8 ([49, 48, 49] ++ l) w8 hrr hcc
      have hx := H2.out
      generalize readOf 60 ([49, 48, 49] ++ l) = r at hR hx
      obtain ⟨r1, r2, r3⟩ := r
      simp only at hx
      subst hx
      refine hR.mono ?_
      rintro e w9 ⟨v, rfl, _, hb⟩
      have HC9 := Lib.hid (RB.below (RB.below HC7.out Hb8.out) hb)
      have HR9 := Lib.hid (RB.below (RB.below HR7.out Hb8.out) hb)
      have HB9 := Lib.hid (below_then HB7.out HB7.out.size (below_then Hb8.out Hb8.out.size hb))
      clear hR hb HC7 HR7 HB7 Hb8 Ha8 HL8 HV8 hcc hrr H2
      dsimp only
      have HI := Lib.hid (dig_i b)
      have Hb9 := Lib.hid (below_alloc (Below.refl w9.heap.size w9) (.cells #[.int .i64 3, .int .i64 0, .int .i64 (-1), .int .i64 65] 3))
      have HC10 := Lib.hid (RB.below HC9.out Hb9.out)
      have HR10 := Lib.hid (RB.below HR9.out Hb9.out)
      have HB10 := Lib.hid (below_then HB9.out HB9.out.size Hb9.out)
      clear HC9 HR9 HB9 Hb9
      have HE : Hid (∀ no, isEl no = false → ∀ W (hr : RB W A2 M), Calls Tryd.prog 16 #[.int .i64 no, .slice A2 (k + 3) c2] W fun e w' => (∃ v, e = .returned (.tuple #[v, .int .i64 0, .int .i64 16])) ∧ Below W.heap.size W w') := Lib.hid (by
        intro no hno W hr
        have hR := element_Read no A2 c2 M W hr (by omega)
        rw [read_none no M hno, hlb] at hR
        exact hR.mono fun e w' ⟨v, he, _, hb⟩ => ⟨⟨v, he⟩, hb⟩)
      rcases HI.out with hq | hq | hq | hq
      all_goals
        go_wp2_with fail
        refine (HE.out _ (by decide) _ HR10.out).mono ?_
        rintro e wx ⟨⟨v, rfl⟩, hb⟩
        have HC11 := Lib.hid (RB.below HC10.out hb)
        have HR11 := Lib.hid (RB.below HR10.out hb)
        have HB11 := Lib.hid (below_then HB10.out HB10.out.size hb)
        clear hb HC10 HR10 HB10 HE
        dsimp only
        go_wp2_with fail
        refine (awake16 _).mono ?_
        rintro e wy ⟨rfl, hb⟩
        have hC12 := RB.below HC11.out hb
        have hR12 := RB.below HR11.out hb
        have HB12 := Lib.hid (below_then HB11.out HB11.out.size hb)
        have s1 := hC12.string cap
        have s2 := hR12.string c2
        rw [hlk, HS.out] at s1
        rw [hlb, HST.out] at s2
        clear hb HC11 HR11 HB11 hC12 hR12 kc HS HST HI
        dsimp only
        go_wp2_with fail
        go_ret
        exact ⟨rfl, HB12.out⟩
/-- the law as the row wants it -/
theorem dig_law (a : Int) (_ : (Lit.int .i64 a).wf = true) (b : Int) (_ : (Lit.int .i64 b).wf = true) (w : World) :
    Calls Tryd.prog 5 #[.int .i64 a, .int .i64 b] w fun e w' => e = .returned (.bool true) ∧ Below w.heap.size w w' := dig_walk a b w
end Go.Proofs.YtonhmaklnkidhaaDoor.G
