/- What the functions of package element and of the verifier do, one contract each: a part of the proof; no conditions of its own (my own text, filled from XV6.lean.tpl). -/
import Derived.Test.YtonhmaklnkidhaaDoorV5
namespace Go.Proofs.YtonhmaklnkidhaaDoor.G
open Go.RowKit Go.Proofs.YtonhmaklnkidhaaDoorW.PrintWords

theorem each_len (nos rest : List Int) (els : List (Int × List Int)) : (eachOf nos rest els).2.1.length ≤ els.length + nos.length := by
  induction nos generalizing rest els with
  | nil => exact Nat.le_refl _
  | cons no r ih =>
    have hs := stepOf_len no rest els
    rw [eachOf]
    split
    · rw [List.length_cons]; omega
    · have := ih (stepOf no rest els).1 (stepOf no rest els).2.1
      rw [List.length_cons]
      omega
theorem parse_bounds (l : List Int) : (parseOf l).1.size ≤ 4 ∧ (parseOf l).2.1.length ≤ 127 := by
  have hm := mapOf_bounds (l.drop 4)
  have he := each_len (mapOf (l.drop 4)).1 (l.drop (4 + (mapOf (l.drop 4)).2.1.toNat)) []
  have e0 : (⟨#[]⟩ : ByteArray).size = 0 := rfl
  unfold parseOf
  split
  · exact ⟨Nat.zero_le 4, by simp⟩
  split
  · exact ⟨Nat.zero_le 4, by simp⟩
  split
  · exact ⟨Nat.zero_le 4, by simp⟩
  split
  · exact ⟨Nat.zero_le 4, by simp⟩
  split
  · exact ⟨Nat.zero_le 4, by simp⟩
  split
  · exact ⟨Nat.zero_le 4, by simp⟩
  refine ⟨?_, ?_⟩
  · simp only
    rw [str_size, List.length_take]
    omega
  · simp only at he ⊢
    simp only [List.length_nil] at he
    omega
theorem pack_bounds {mti : ByteArray} {fs : List (Int × List Int)} (h : (packOf mti fs).2 = 0) : 4 ≤ (packOf mti fs).1.length ∧ (packOf mti fs).1.length ≤ 4096 := by
  obtain ⟨h1, _, _, h4, h5⟩ := packOf_ok h
  rw [h4]
  refine ⟨?_, h5⟩
  simp only
  rw [List.length_append, right4 h1]
  omega
set_option maxHeartbeats 6400000 in
set_option maxRecDepth 100000 in
theorem back_law (w : World) (mti : ByteArray) (A : Option Addr) (c : Nat) (fs : List (Int × List Int)) (hC : Kd.C kE w A fs.length fs) (_ : fs.length ≤ c) (hmti : mti.size ≤ maxLen) (_ : ∀ y ∈ fs, (Lit.int .i64 y.1).wf = true ∧ Byt y.2 ∧ y.2.length ≤ maxLen)
    (Ab : Option Addr) (cb : Nat) (b : List Int) (hb : RB w Ab b) (hbc : b.length ≤ cb) (hbB : Byt b) (_ : b.length ≤ maxLen)
    (Am : Option Addr) (cm : Nat) (more : List Int) (hm : RB w Am more) (hmc : more.length ≤ cm) (_ : Byt more) (_ : more.length ≤ maxLen) (cut : Int) (_ : (Lit.int .i64 cut).wf = true) (P : Pow w) :
    Calls Tryd.prog 7 #[.agg #[.string mti, .slice A fs.length c], .slice Ab b.length cb, .slice Am more.length cm, .int .i64 cut] w fun e w' => e = .returned (.bool true) ∧ Below w.heap.size w w' := by
  have hmx : mti.size ≤ 9223372036854775807 := by simpa [maxLen] using hmti
  have H0 := Lib.hid (below_alloc (Below.refl w.heap.size w) (.cells #[.string mti, .slice A fs.length c] 46))
  have HC := Lib.hid hC
  have HB := Lib.hid hb
  have HM := Lib.hid hm
  have HPw := Lib.hid P
  clear hC hb hm P hmti
  by_cases g : 4096 < b.length ∨ 60 < fs.length ∨ 50 < more.length
  · have g' : (decide ((4096 : Int) < (b.length : Int)) = true) ∨ (decide ((4096 : Int) < (b.length : Int)) = false ∧ decide ((60 : Int) < (fs.length : Int)) = true) ∨ (decide ((4096 : Int) < (b.length : Int)) = false ∧ decide ((60 : Int) < (fs.length : Int)) = false ∧ decide ((50 : Int) < (more.length : Int)) = true) := by
      simp only [decide_eq_true_eq, decide_eq_false_iff_not]
      omega
    clear g
    rcases g' with b1 | ⟨b1, b2⟩ | ⟨b1, b2, b3⟩
    all_goals
      go_enter Tryd.func7, Tryd.ntmps7
      go_wp2_with fail
      refine (awake17 _).mono ?_
      rintro e w2 ⟨rfl, hb2⟩
      have HB2 := Lib.hid (below_step H0.out hb2)
      clear hb2
      dsimp only
      go_wp2_with fail
      go_ret
      exact ⟨rfl, HB2.out⟩
  have b1 : decide ((4096 : Int) < (b.length : Int)) = false := decide_eq_false (by omega)
  have b2 : decide ((60 : Int) < (fs.length : Int)) = false := decide_eq_false (by omega)
  have b3 : decide ((50 : Int) < (more.length : Int)) = false := decide_eq_false (by omega)
  have L1 : b.length ≤ 4096 := by omega
  have L2 : fs.length ≤ 60 := by omega
  have L3 : more.length ≤ 50 := by omega
  clear g
  go_enter Tryd.func7, Tryd.ntmps7
  go_wp2_with fail
  refine (iso_Pack mti A c fs _ hmx (Kd.C_below HC.out H0.out) (by omega) (fun x hx h => HPw.out.on H0.out)).mono ?_
  rintro e w1 ⟨v1, rfl, hv1, hb1⟩
  have q0 : w1.cell? ⟨w.heap.size, 0, none⟩ = some (.string mti) := by rw [(bcell hb1).1 _ _ (by simp)]; go_simp
  have q1 : w1.cell? ⟨w.heap.size, 1, none⟩ = some (.slice A fs.length c) := by rw [(bcell hb1).1 _ _ (by simp)]; go_simp
  have HB1 := Lib.hid (below_step H0.out hb1)
  have hz1 : w.heap.size < w1.heap.size := Nat.lt_of_lt_of_le (by simp) hb1.size
  have hpk := @pack_bounds mti fs
  have hpp := @parse_pack mti fs
  have hpm := @parse_more mti fs more
  have hpc := @parse_cut mti fs
  generalize packOf mti fs = X at hv1 hpk hpp hpm hpc
  obtain ⟨x, er⟩ := X
  simp only at hpk hpp hpm hpc
  obtain ⟨A1, c1, hv, hc1', hr1'⟩ := hv1.reads
  have hc1 : x.length ≤ c1 := hc1'
  have hr1 : RB w1 A1 x := hr1'
  subst hv
  clear hc1' hr1'
  have HR1 := Lib.hid hr1
  clear hb1 hv1 hr1
  dsimp only
  by_cases he : er ≠ 0
  · have b4 : (er == 0) = false := by simpa using he
    clear he hpk hpp hpm hpc HR1 q0 q1 hc1
    go_wp2_with fail
    refine (awake17 _).mono ?_
    rintro e w4 ⟨rfl, hb4⟩
    have HBT := Lib.hid (below_step HB1.out hb4)
    clear hb4 HB1
    dsimp only
    go_wp2_with fail
    refine (iso_Parse Ab cb b _ (RB.below HB.out HBT.out) hbc (by omega)).mono ?_
    rintro e w5 ⟨v5, rfl, hr5, hb5⟩
    have HB5 := Lib.hid (below_step HBT.out hb5)
    have hpb := parse_bounds b
    have hpk5 := @pack_parse b hbB
    generalize parseOf b = Y at hr5 hpb hpk5
    obtain ⟨m5, f5, e5⟩ := Y
    simp only at hpb hpk5
    obtain ⟨A5, c5, hv5', _, hC5'⟩ := Kd.R_reads hr5
    have hv5 : v5 = .slice A5 f5.length c5 := hv5'
    have hC5 : Kd.C kE w5 A5 f5.length f5 := hC5'
    subst hv5
    have HC5 := Lib.hid hC5
    clear hr5 hb5 hC5 hC5' hv5'
    dsimp only
    by_cases h5 : e5 ≠ 0
    · have b8 : (e5 != 0) = true := bne_iff_ne.2 h5
      clear h5 hpk5
      go_wp2_with fail
      refine (awake17 _).mono ?_
      rintro e w6 ⟨rfl, hb6⟩
      have HB6 := Lib.hid (below_step (below_alloc HB5.out _) hb6)
      clear hb6
      dsimp only
      go_wp2_with fail
      go_ret
      exact ⟨rfl, HB6.out⟩
    have h50 : e5 = 0 := by simpa using h5
    subst h50
    have HPK := Lib.hid (hpk5 rfl)
    clear h5 hpk5
    go_wp2_with fail
    refine (iso_Pack m5 A5 c5 f5 _ (by omega) (Kd.C_alloc HC5.out _) (by omega) (fun x hx h => HPw.out.on (below_alloc HB5.out _))).mono ?_
    rintro e w6 ⟨v6, rfl, hv6, hb6⟩
    rw [HPK.out] at hv6 ⊢
    obtain ⟨A6, c6, hv6', _, hr6⟩ := hv6.reads
    subst hv6'
    have HR6 := Lib.hid hr6
    have HB6 := Lib.hid (below_step (below_alloc HB5.out _) hb6)
    clear hb6 hv6 hr6 HPK HC5
    dsimp only
    go_wp2_with fail
    refine (awake17 _).mono ?_
    rintro e w7 ⟨rfl, hb7⟩
    have HR7 := Lib.hid (RB.below HR6.out hb7)
    have HB7 := Lib.hid (below_step HB6.out hb7)
    clear hb7
    dsimp only
    go_wp2_with fail
    refine (help_Bytes A6 Ab c6 cb b _ HR7.out (RB.below HB.out HB7.out)).mono ?_
    rintro e w8 ⟨rfl, rfl⟩
    dsimp only
    go_wp2_with fail
    go_ret
    exact ⟨rfl, HB7.out⟩
  have he0 : er = 0 := by simpa using he
  subst he0
  have hpk' := hpk rfl
  have b4 : ((x.length : Int) == 0) = false := by rw [beq_eq_false_iff_ne]; omega
  have HPP := Lib.hid (hpp rfl)
  have HPM := Lib.hid (hpm rfl)
  have HPC := Lib.hid (fun k (hk : k < x.length) => hpc (k := k) rfl hk)
  clear he hpk hpp hpm hpc
  go_wp2_with fail
  refine (awake17 _).mono ?_
  rintro e w2 ⟨rfl, hb2⟩
  have q0' := (hb2.cell (p := ⟨w.heap.size, 0, none⟩) hz1).trans q0
  have q1' := (hb2.cell (p := ⟨w.heap.size, 1, none⟩) hz1).trans q1
  have hz2 : w.heap.size < w2.heap.size := Nat.lt_of_lt_of_le hz1 hb2.size
  have HB2 := Lib.hid (below_step HB1.out hb2)
  have HR2 := Lib.hid (RB.below HR1.out hb2)
  clear hb2 q0 q1 HR1
  dsimp only
  go_wp2_with fail
  refine (iso_Parse A1 c1 x _ HR2.out hc1 (by omega)).mono ?_
  rintro e w3 ⟨v3, rfl, hr3, hb3⟩
  have q0 := (hb3.cell (p := ⟨w.heap.size, 0, none⟩) hz2).trans q0'
  have q1 := (hb3.cell (p := ⟨w.heap.size, 1, none⟩) hz2).trans q1'
  have hz3 : w.heap.size < w3.heap.size := Nat.lt_of_lt_of_le hz2 hb3.size
  have HB3 := Lib.hid (below_step HB2.out hb3)
  have HR3 := Lib.hid (RB.below HR2.out hb3)
  rw [HPP.out] at hr3 ⊢
  obtain ⟨A3, c3, hv3, _, hC3⟩ := Kd.R_reads hr3
  have HC3 := Lib.hid hC3
  subst hv3
  clear hb3 q0' q1' hr3 hC3 HPP HR2 HB2 hz1 hz2
  have HX3 := Lib.hid (RB.below HM.out HB3.out)
  dsimp only
  go_wp2_with (first
    | ((with_reducible refine gate_dst (N := 62) rfl ?_); refine Kd.R_append_row (Value.int .u8) 0 (h1 := fun _ => rfl) (w0 := w3.alloc (.cells #[.string mti, .slice A3 fs.length c3] 46)) (w3.alloc (.cells #[.string mti, .slice A3 fs.length c3] 46)).heap.size rfl (.const (.slice none 0 0)) (.tmp 61) 22 5 (.int .u8 0) 1 rfl Tryd.underlying22 info_u8 rfl (by decide) (.slice none 0 0) [] x A1 x.length c1 (fun _ => True) rfl rfl (fun _ _ => trivial) (Kd.R_nil _ _ _ _ _) (Kd.C_alloc HR3.out _) (Below.refl _ _) (Nat.le_refl _) (by simp; omega) ?_; intro v8 w8 ho8 hb8 hg8 hat8; rw [List.nil_append] at ho8; have HO8 := Lib.hid ho8; have HB8 := Lib.hid hb8; clear ho8 hb8 hg8 hat8)
    | ((with_reducible refine gate_dst (N := 64) rfl ?_); refine Kd.R_append_row (Value.int .u8) 0 (h1 := fun _ => rfl) (w0 := w3.alloc (.cells #[.string mti, .slice A3 fs.length c3] 46)) (w3.alloc (.cells #[.string mti, .slice A3 fs.length c3] 46)).heap.size rfl (.tmp 62) (.tmp 63) 22 5 (.int .u8 0) 1 rfl Tryd.underlying22 info_u8 rfl (by decide) _ x more Am more.length cm (fun _ => True) rfl rfl (fun _ _ => trivial) HO8.out (RB.below (Kd.C_alloc HX3.out _) HB8.out) HB8.out HB8.out.size (by omega) ?_; intro v9 w9 ho9 hb9 hg9 hat9; obtain ⟨A9, c9, hv9, hc9, hr9⟩ := Kd.R_reads ho9; subst hv9; have HR9 := Lib.hid hr9; have HW9 := Lib.hid hb9; clear ho9 hb9 hg9 hat9 hr9 HO8 HB8))
  have hI := iso_Parse A9 c9 (x ++ more) w9 HR9.out hc9 (by rw [List.length_append]; omega)
  rw [List.length_append] at hI
  refine hI.mono ?_
  clear hI
  rintro e w10 ⟨v10, rfl, hr10, hb10⟩
  have HW10 := Lib.hid (below_step HW9.out hb10)
  generalize parseOf (x ++ more) = Y at hr10 HPM
  obtain ⟨m10, f10, g⟩ := Y
  obtain ⟨A10, c10, hv10', _, _⟩ := Kd.R_reads hr10
  have hv10 : v10 = .slice A10 f10.length c10 := hv10'
  subst hv10
  clear hv10' hr10 hb10 HR9 hc9 HW9
  obtain ⟨k, hk⟩ : ∃ k : Nat, (IntKind.u64.wrap cut).tmod (x.length : Int) = k ∧ k < x.length := by
    have h0 : 0 ≤ IntKind.u64.wrap cut := by rw [IntKind.wrap_u64]; omega
    obtain ⟨m, hm⟩ := Int.eq_ofNat_of_zero_le h0
    refine ⟨m % x.length, ?_, Nat.mod_lt _ (by omega)⟩
    rw [hm]
    exact (Int.ofNat_tmod m x.length).symm
  obtain ⟨e1, hk⟩ := hk
  have e0 : IntKind.u64.wrap (x.length : Int) = x.length := by rw [IntKind.wrap_u64]; omega
  have e3 : IntKind.u64.wrap (k : Int) = k := by rw [IntKind.wrap_u64]; omega
  have e2 : IntKind.i64.wrap (k : Int) = k := by rw [IntKind.wrap_i64]; omega
  obtain ⟨hcut, hcr, hcl⟩ := cut_take A1 c1 x (k : Int) (by omega) (by omega) hc1
  rw [Int.toNat_natCast] at hcut hcr hcl
  have HPCk := Lib.hid (HPC.out k hk)
  have hxl : (x.take k).length ≤ 4096 := by rw [List.length_take]; omega
  have HR10 := Lib.hid (hcr _ (RB.below (Kd.C_alloc HR3.out (.cells #[.string mti, .slice A3 fs.length c3] 46)) HW10.out))
  generalize x.take k = x4 at hcut hcl HPCk hxl HR10
  clear hcr HPC
  dsimp only
  go_wp2_with fail
  refine (iso_Parse A1 c1 x4 _ (Kd.C_alloc HR10.out _) hcl (by omega)).mono ?_
  rintro e w12 ⟨v12, rfl, hr12, hb12⟩
  have HW12 := Lib.hid (below_step (below_alloc HW10.out _) hb12)
  generalize parseOf x4 = Z at hr12 HPCk
  obtain ⟨m12, f12, h⟩ := Z
  obtain ⟨A12, c12, hv12', _, _⟩ := Kd.R_reads hr12
  have hv12 : v12 = .slice A12 f12.length c12 := hv12'
  subst hv12
  have hne : h ≠ 0 := HPCk.out
  have b7 : (h == 0) = false := by simpa using hne
  clear hv12' hr12 hb12 hne HPCk HR10 hcl hcut hxl HW10
  have HW3 := Lib.hid (below_alloc (Below.refl w3.heap.size w3) (.cells #[.string mti, .slice A3 fs.length c3] 46))
  have r0 : w12.cell? ⟨w3.heap.size, 0, none⟩ = some (.string mti) := (HW12.out.cell (p := ⟨w3.heap.size, 0, none⟩) (by simp)).trans (by rw [World.cell?_alloc_new]; rfl)
  have r1 : w12.cell? ⟨w3.heap.size, 1, none⟩ = some (.slice A3 fs.length c3) := (HW12.out.cell (p := ⟨w3.heap.size, 1, none⟩) (by simp)).trans (by rw [World.cell?_alloc_new]; rfl)
  have HW3b := Lib.hid (below_step HW3.out HW12.out)
  have p0 : w12.cell? ⟨w.heap.size, 0, none⟩ = some (.string mti) := (HW3b.out.cell (p := ⟨w.heap.size, 0, none⟩) hz3).trans q0
  have p1 : w12.cell? ⟨w.heap.size, 1, none⟩ = some (.slice A fs.length c) := (HW3b.out.cell (p := ⟨w.heap.size, 1, none⟩) hz3).trans q1
  have hz4 : w3.heap.size < w12.heap.size := Nat.lt_of_lt_of_le (by simp) HW12.out.size
  have hz5 : w.heap.size < w12.heap.size := by omega
  clear q0 q1 HW12 HW3
  have hE0 : IntKind.i64.wrap ((x.length : Int) + (more.length : Int)) = (x.length : Int) + (more.length : Int) := by rw [IntKind.wrap_i64]; omega
  obtain ⟨E, hE, hE1⟩ : ∃ E : Int, IntKind.i64.wrap ((x.length : Int) + (more.length : Int)) = E ∧ E = (x.length : Int) + (more.length : Int) := ⟨_, hE0, rfl⟩
  have D : decide (0 < more.length) = false ∨ (decide (0 < more.length) = true ∧ (g != 17) = false) ∨ (decide (0 < more.length) = true ∧ (g != 17) = true ∧ decide ((4096 : Int) < E) = true) := by
    by_cases h0 : 0 < more.length
    · by_cases h1 : g = 17
      · exact Or.inr (Or.inl ⟨decide_eq_true h0, by simpa using h1⟩)
      · refine Or.inr (Or.inr ⟨decide_eq_true h0, bne_iff_ne.2 h1, decide_eq_true ?_⟩)
        by_cases h2 : (x ++ more).length ≤ 4096
        · exact absurd (HPM.out h0 h2) h1
        · rw [List.length_append] at h2
          omega
    · exact Or.inl (decide_eq_false h0)
  have HE1 := Lib.hid hE1
  have b9 : decide ((4096 : Int) < E) = decide ((4096 : Int) < E) := rfl
  clear hE0 hE1 HPM b9
  rcases D with d1 | ⟨d1, d2⟩ | ⟨d1, d2, d3⟩
  all_goals
    dsimp only
    go_wp2_with fail
    refine (help_Iso mti A3 A c3 c fs _ (Kd.C_alloc (Kd.C_below HC3.out HW3b.out) _) (Kd.C_alloc (Kd.C_below HC.out (below_step HB3.out HW3b.out)) _)).mono ?_
    rintro e w14 ⟨rfl, hb14⟩
    have HBT := Lib.hid (below_step (below_alloc (below_step HB3.out HW3b.out) _) hb14)
    clear hb14 p0 p1 r0 r1 HW3b HB3 HC3
    dsimp only
    go_wp2_with fail
    refine (iso_Parse Ab cb b _ (RB.below HB.out HBT.out) hbc (by omega)).mono ?_
    rintro e w5 ⟨v5, rfl, hr5, hb5⟩
    have HB5 := Lib.hid (below_step HBT.out hb5)
    have hpb := parse_bounds b
    have hpk5 := @pack_parse b hbB
    generalize parseOf b = Y at hr5 hpb hpk5
    obtain ⟨m5, f5, e5⟩ := Y
    simp only at hpb hpk5
    obtain ⟨A5, c5, hv5', _, hC5'⟩ := Kd.R_reads hr5
    have hv5 : v5 = .slice A5 f5.length c5 := hv5'
    have hC5 : Kd.C kE w5 A5 f5.length f5 := hC5'
    subst hv5
    have HC5 := Lib.hid hC5
    clear hr5 hb5 hC5 hC5' hv5'
    dsimp only
    by_cases h5 : e5 ≠ 0
    · have b8 : (e5 != 0) = true := bne_iff_ne.2 h5
      clear h5 hpk5
      go_wp2_with fail
      refine (awake17 _).mono ?_
      rintro e w6 ⟨rfl, hb6⟩
      have HB6 := Lib.hid (below_step (below_alloc HB5.out _) hb6)
      clear hb6
      dsimp only
      go_wp2_with fail
      go_ret
      exact ⟨rfl, HB6.out⟩
    have h50 : e5 = 0 := by simpa using h5
    subst h50
    have HPK := Lib.hid (hpk5 rfl)
    clear h5 hpk5
    go_wp2_with fail
    refine (iso_Pack m5 A5 c5 f5 _ (by omega) (Kd.C_alloc HC5.out _) (by omega) (fun x hx h => HPw.out.on (below_alloc HB5.out _))).mono ?_
    rintro e w6 ⟨v6, rfl, hv6, hb6⟩
    rw [HPK.out] at hv6 ⊢
    obtain ⟨A6, c6, hv6', _, hr6⟩ := hv6.reads
    subst hv6'
    have HR6 := Lib.hid hr6
    have HB6 := Lib.hid (below_step (below_alloc HB5.out _) hb6)
    clear hb6 hv6 hr6 HPK HC5
    dsimp only
    go_wp2_with fail
    refine (awake17 _).mono ?_
    rintro e w7 ⟨rfl, hb7⟩
    have HR7 := Lib.hid (RB.below HR6.out hb7)
    have HB7 := Lib.hid (below_step HB6.out hb7)
    clear hb7
    dsimp only
    go_wp2_with fail
    refine (help_Bytes A6 Ab c6 cb b _ HR7.out (RB.below HB.out HB7.out)).mono ?_
    rintro e w8 ⟨rfl, rfl⟩
    dsimp only
    go_wp2_with fail
    go_ret
    exact ⟨rfl, HB7.out⟩
end Go.Proofs.YtonhmaklnkidhaaDoor.G
