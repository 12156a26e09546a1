/- What the functions of package element and of the verifier do, one contract each: a part of the proof; no conditions of its own (my own text, filled from XG7.lean.tpl). -/
import Derived.Test.YtonhmaklnkidhaaDoorG6
namespace Go.Proofs.YtonhmaklnkidhaaDoor.G
open Go.RowKit Go.Proofs.YtonhmaklnkidhaaDoorW.PrintWords

/-- bytes that are read -/
abbrev RB (w : World) (A : Option Addr) (l : List Int) : Prop := Kd.C (Kd.int .u8) w A l.length l
theorem info_u8 : (Tryd.prog.info? 5).map (fun i => (i.zero, i.size, i.bytes)) = some (some (.int .u8 0), 1, 1) := by kernel_rfl
theorem cut_take (A : Option Addr) (c : Nat) (l : List Int) (j : Int) (h0 : 0 ≤ j) (hj : j ≤ l.length) (hc : l.length ≤ c) :
    (∀ W : World, (Instr.slice 22 (.slice A l.length c) none (some (.int .i64 j)) none).run Tryd.prog W = .ok (.slice A (l.take j.toNat).length c) W) ∧ (∀ w, RB w A l → RB w A (l.take j.toNat)) ∧ (l.take j.toNat).length ≤ c := by
  obtain ⟨i0, hi, _, hsz, _⟩ := info_parts info_u8
  obtain ⟨h1, h2, h3⟩ := print_take_of (P := Tryd.prog) (Value.int .u8) 0 22 5 .i64 Tryd.underlying22 hi hsz A c l j h0 hj hc
  exact ⟨h1, fun w h => Kd.C_of_reads (h1 := fun _ => rfl) (h2 w (Kd.reads_of_C h)), h3⟩
theorem cut_drop (A : Option Addr) (c : Nat) (l : List Int) (j : Int) (h0 : 0 ≤ j) (hj : j ≤ l.length) (hc : l.length ≤ c) :
    ∃ A' : Option Addr, (∀ W : World, (Instr.slice 22 (.slice A l.length c) (some (.int .i64 j)) none none).run Tryd.prog W = .ok (.slice A' (l.drop j.toNat).length (c - j.toNat)) W) ∧ (∀ w, RB w A l → RB w A' (l.drop j.toNat)) ∧ (l.drop j.toNat).length ≤ c - j.toNat := by
  obtain ⟨i0, hi, _, hsz, _⟩ := info_parts info_u8
  obtain ⟨A', h1, h2, h3⟩ := print_drop_of (P := Tryd.prog) (Value.int .u8) 0 22 5 .i64 Tryd.underlying22 hi hsz A c l j h0 hj hc
  exact ⟨A', h1, fun w h => Kd.C_of_reads (h1 := fun _ => rfl) (h2 w (Kd.reads_of_C h)), h3⟩
theorem cut_mid (A : Option Addr) (c : Nat) (l : List Int) (a b : Int) (h0 : 0 ≤ a) (hab : a ≤ b) (hj : b ≤ l.length) (hc : l.length ≤ c) :
    ∃ A' : Option Addr, (∀ W : World, (Instr.slice 22 (.slice A l.length c) (some (.int .i64 a)) (some (.int .i64 b)) none).run Tryd.prog W = .ok (.slice A' ((l.take b.toNat).drop a.toNat).length (c - a.toNat)) W) ∧ (∀ w, RB w A l → RB w A' ((l.take b.toNat).drop a.toNat)) ∧ ((l.take b.toNat).drop a.toNat).length ≤ c - a.toNat := by
  obtain ⟨i0, hi, _, hsz, _⟩ := info_parts info_u8
  obtain ⟨A', h1, h2, h3⟩ := print_mid_of (P := Tryd.prog) (Value.int .u8) 0 22 5 .i64 .i64 Tryd.underlying22 hi hsz A c l a b h0 hab hj hc
  exact ⟨A', h1, fun w h => Kd.C_of_reads (h1 := fun _ => rfl) (h2 w (Kd.reads_of_C h)), h3⟩
theorem RB.below {w w1 : World} {A : Option Addr} {l : List Int} (h : RB w A l) (hb : Below w.heap.size w w1) : RB w1 A l := Kd.C_below h hb
theorem RB.string {w : World} {A : Option Addr} {l : List Int} (h : RB w A l) (c : Nat) : (convert 22 9 (.slice A l.length c)).run Tryd.prog w = .ok (.string (strOfNums l)) w :=
  Kd.C_string (P := Tryd.prog) (src := 22) (dst := 9) Tryd.underlying22 Tryd.underlying5 Tryd.underlying9 (c := c) h

/-- how long an element is at the beginning of bytes, and why not -/
def sizeOf (F : Fmt) (l : List Int) : Int × Int :=
  if F.digits = 0 then (F.most, 0) else if (l.length : Int) < F.digits then (0, 3) else
  if (numberOf (strOfNums (l.take F.digits.toNat))).2 ≠ 0 then (0, (numberOf (strOfNums (l.take F.digits.toNat))).2) else
  if longB F (numberOf (strOfNums (l.take F.digits.toNat))).1 = false then (0, 17) else ((numberOf (strOfNums (l.take F.digits.toNat))).1, 0)
theorem numberOf_bound (s : ByteArray) : 0 ≤ (numberOf s).1 ∧ (numberOf s).1 < 1000000000000000000 := by
  unfold numberOf
  split
  · rename_i h
    unfold rightB at h
    simp only [Bool.and_eq_true, decide_eq_true_eq] at h
    have hb := numL_bound s.data.toList fun c hc => by
      have := h.2
      unfold allB at this
      exact List.all_eq_true.1 this c hc
    have hl : s.data.toList.length = s.size := by simp
    have := pow_le s.data.toList.length (by omega)
    exact ⟨hb.1, Int.lt_of_lt_of_le hb.2 this⟩
  · exact ⟨by decide, by decide⟩
set_option maxHeartbeats 1600000 in
set_option maxRecDepth 100000 in
theorem element_size (F : Fmt) (hd : 0 ≤ F.digits) (A : Option Addr) (c : Nat) (l : List Int) (w : World) (hr : RB w A l) (hc : l.length ≤ c) :
    Calls Tryd.prog 30 #[.agg #[.int .i64 F.no, .int .i64 F.kind, .int .i64 F.digits, .int .i64 F.most], .slice A l.length c] w fun e w' => e = .returned (.tuple #[.int .i64 (sizeOf F l).1, .int .i64 (sizeOf F l).2]) ∧ Below w.heap.size w w' := by
  have hG : ∀ n W, Calls Tryd.prog 26 #[.agg #[.int .i64 F.no, .int .i64 F.kind, .int .i64 F.digits, .int .i64 F.most], .int .i64 n] W fun e w' => e = .returned (.bool (longB F n)) ∧ Below W.heap.size W w' := fun n W => element_long F.no F.kind F.digits F.most n W
  have HG := Lib.hid hG
  clear hG
  obtain ⟨X, hX⟩ : ∃ X, X = sizeOf F l := ⟨_, rfl⟩
  rw [← hX]
  have hl63 := Kd.C_max hr
  by_cases h1 : F.digits = 0
  · have b1 : (F.digits == 0) = true := beq_iff_eq.2 h1
    have HX : Hid (X = (F.most, 0)) := Lib.hid (by rw [hX, sizeOf, if_pos h1])
    clear h1 hX
    go_enter Tryd.func30, Tryd.ntmps30
    go_wp2
    go_ret2
    exact ⟨by rw [HX.out]; rfl, below_alloc (Below.refl _ _) _⟩
  have b1 : (F.digits == 0) = false := beq_eq_false_iff_ne.2 h1
  by_cases h2 : (l.length : Int) < F.digits
  · have HX : Hid (X = (0, 3)) := Lib.hid (by rw [hX, sizeOf, if_neg h1, if_pos h2])
    clear h1 hX
    go_enter Tryd.func30, Tryd.ntmps30
    go_wp2
    go_ret2
    exact ⟨by rw [HX.out]; rfl, below_alloc (Below.refl _ _) _⟩
  obtain ⟨hs1, hs2, hs3⟩ := cut_take A c l F.digits hd (by omega) hc
  rw [sizeOf, if_neg h1, if_neg h2] at hX
  have htl : (l.take F.digits.toNat).length ≤ 9223372036854775807 := by rw [List.length_take]; omega
  generalize l.take F.digits.toNat = T at *
  obtain ⟨s, hs⟩ : ∃ s, s = strOfNums T := ⟨_, rfl⟩
  have hsz : s.size ≤ 9223372036854775807 := by rw [hs, strOfNums_size]; exact htl
  have hst : ∀ W, Below w.heap.size w W → (convert 22 9 (.slice A T.length c)).run Tryd.prog W = .ok (.string s) W := fun W hW => by rw [hs]; exact (hs2 W (hr.below hW)).string c
  have hst0 := hst (w.alloc (.cells #[.int .i64 F.no, .int .i64 F.kind, .int .i64 F.digits, .int .i64 F.most] 32)) (below_alloc (Below.refl _ _) _)
  rw [← hs] at hX
  have hnb := numberOf_bound s
  have HN : Hid (∀ W, Calls Tryd.prog 50 #[.string s] W fun e w' => e = .returned (.tuple #[.int .u64 (numberOf s).1, .int .i64 (numberOf s).2]) ∧ Drawn0 W w') := Lib.hid (digits_Number s hsz)
  generalize numberOf s = N at *
  obtain ⟨v, q⟩ := N
  simp only at hX hnb
  have HX := Lib.hid hX
  obtain ⟨hv0, hv1⟩ := hnb
  clear hs hs2 hst hX h1
  go_enter Tryd.func30, Tryd.ntmps30
  go_wp2_with (go_at_call 50; refine (HN.out _).mono ?_; rintro e w1 ⟨rfl, nd, rfl⟩)
  · have HX2 : Hid (X = (0, q)) := Lib.hid (by rw [HX.out, if_pos (by simp_all)])
    go_ret2
    exact ⟨by rw [HX2.out]; rfl, pw_below_drewN (below_alloc (Below.refl _ _) _) _⟩
  · have hq : q = 0 := by simp_all
    cases hL : longB F v
    · have HX2 : Hid (X = (0, 17)) := Lib.hid (by rw [HX.out, if_neg (by simp [hq]), if_pos hL])
      go_wp2_with (go_at_call 26; refine (HG.out v _).mono ?_; rintro e w2 ⟨rfl, hb⟩; have HB2 := Lib.hid (below_then (pw_below_drewN (below_alloc (Below.refl w.heap.size w) _) nd) (by simp) hb); clear hb)
      go_ret2
      exact ⟨by rw [HX2.out]; rfl, HB2.out⟩
    · have HX2 : Hid (X = (v, 0)) := Lib.hid (by rw [HX.out, if_neg (by simp [hq]), if_neg (by simp [hL])])
      go_wp2_with (go_at_call 26; refine (HG.out v _).mono ?_; rintro e w2 ⟨rfl, hb⟩; have HB2 := Lib.hid (below_then (pw_below_drewN (below_alloc (Below.refl w.heap.size w) _) nd) (by simp) hb); clear hb)
      go_ret2
      exact ⟨by rw [HX2.out]; rfl, HB2.out⟩
end Go.Proofs.YtonhmaklnkidhaaDoor.G
