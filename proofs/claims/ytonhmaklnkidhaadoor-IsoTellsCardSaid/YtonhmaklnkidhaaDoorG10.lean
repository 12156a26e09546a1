/- What the functions of package element and of the verifier do, one contract each: a part of the proof; no conditions of its own (my own text, filled from XG10.lean.tpl). -/
import Derived.Test.YtonhmaklnkidhaaDoorG9
namespace Go.Proofs.YtonhmaklnkidhaaDoor.G
open Go.RowKit Go.Proofs.YtonhmaklnkidhaaDoorW.PrintWords

theorem nDigits_le : ∀ (k u : Nat), 1 ≤ k → u < 10 ^ k → Lib.nDigits u ≤ k
  | 0, _, h, _ => absurd h (by decide)
  | k + 1, u, _, hu => by
    by_cases h : u < 10
    · rw [Lib.nDigits_small h]; omega
    · rw [Lib.nDigits_big h]
      have hk : 1 ≤ k := by
        rcases Nat.eq_zero_or_pos k with rfl | h0
        · simp at hu; omega
        · exact h0
      have := nDigits_le k (u / 10) hk (by rw [Nat.pow_succ] at hu; omega)
      omega
theorem fmt_digits (no : Int) : (fmtOf no).digits = 0 ∨ (fmtOf no).most < 10 ^ (fmtOf no).digits.toNat := by
  have ht : ∀ f ∈ table, f.digits = 0 ∨ f.most < 10 ^ f.digits.toNat := by decide
  unfold fmtOf
  cases h : table.find? fun f => f.no == no with
  | none => exact .inl rfl
  | some f => exact ht f (List.mem_of_find?_eq_some h)
theorem check_zero {no : Int} {l : List Int} (h : checkOf no l = 0) : isEl no = true ∧ longB (fmtOf no) l.length = true ∧ kindB (fmtOf no).kind (fmtOf no).most (strOfNums l) = true := by
  unfold checkOf at h
  split at h
  · omega
  split at h
  · omega
  split at h
  · rename_i h1 h2 h3
    exact ⟨by simpa using h1, by simpa using h2, h3⟩
  · omega
/-- the digits ahead of an element -/
def headOf (F : Fmt) (n : Nat) : List UInt8 := if 0 < F.digits then padded n F.digits.toNat else []
def nums8 (l : List UInt8) : List Int := l.map fun b => (b.toNat : Int)
theorem bytesOf_mk (l : List UInt8) : bytesOf ⟨l.toArray⟩ = nums8 l := by simp [bytesOf, nums8]
theorem padded_length (v width : Nat) (h : (Lib.decDigits v).length ≤ width) : (padded v width).length = width := by
  unfold padded
  simp
  omega
/-- an element as bytes, and why not -/
def writeOf (no : Int) (l : List Int) : List Int × Int := if checkOf no l ≠ 0 then ([], checkOf no l) else (nums8 (headOf (fmtOf no) l.length) ++ l, 0)
/-- bytes that may be appended to are handed back, and why not -/
def WritePost (w : World) (r : List Int × Int) (e : Ending) (w' : World) : Prop :=
  ∃ v : Value, e = .returned (.tuple #[v, .int .i64 r.2]) ∧ BRow w' w.heap.size v r.1 ∧ Below w.heap.size w w'
theorem WritePost.none_ {w w' : World} {x : Int} (hb : Below w.heap.size w w') : WritePost w ([], x) (.returned (.tuple #[.slice none 0 0, .int .i64 x])) w' := ⟨_, rfl, BRow.nil_ _ _, hb⟩
set_option maxHeartbeats 1600000 in
set_option maxRecDepth 100000 in
theorem element_Write (no : Int) (A : Option Addr) (c : Nat) (l : List Int) (w : World) (hr : RB w A l) (hc : l.length ≤ c) (htab : 100 ≤ l.length → Pow w) :
    Calls Tryd.prog 14 #[.agg #[.int .i64 no, .slice A l.length c]] w (WritePost w (writeOf no l)) := by
  obtain ⟨X, hX⟩ : ∃ X, X = writeOf no l := ⟨_, rfl⟩
  rw [← hX]
  unfold writeOf at hX
  have hC := fun W hW => element_Check no A c l W hW hc
  have hz := @check_zero no l
  have hfb := fmt_bounds no
  have hfd := fmt_digits no
  have hO := fun W => element_Of no W
  generalize checkOf no l = q at *
  by_cases hq : q = 0
  case neg =>
    have HX : Hid (X = ([], q)) := Lib.hid (by rw [hX, if_pos hq])
    have b2 : (q != 0) = true := bne_iff_ne.2 hq
    have HC := Lib.hid hC
    clear hX hq hC hz hfb hfd hO
    go_enter Tryd.func14, Tryd.ntmps14
    go_wp2_with fail
    refine (HC.out _ (RB.below hr (below_alloc (Below.refl _ _) _))).mono ?_
    rintro e w1 ⟨rfl, hb⟩
    have HB := Lib.hid (below_then (below_alloc (Below.refl w.heap.size w) _) (by simp) hb)
    clear hb
    go_wp2
    go_ret2
    rw [HX.out]
    exact WritePost.none_ HB.out
  obtain ⟨hI, hL, _⟩ := hz hq
  have hle := long_le hL
  clear hL hz
  rw [hI] at hO
  have b2 : (q != 0) = false := bne_eq_false_iff_eq.2 hq
  rw [if_neg (by simp [hq])] at hX
  generalize fmtOf no = F at *
  obtain ⟨fn, fk, fd, fm⟩ := F
  simp only at hfb hfd hO hle hX
  obtain ⟨hd0, hd4, hm0, hm9⟩ := hfb
  obtain ⟨D, rfl⟩ := Int.eq_ofNat_of_zero_le hd0
  simp only [Int.toNat_natCast] at hfd
  have HC := Lib.hid hC
  have HO := Lib.hid hO
  have HT := Lib.hid htab
  clear hC hO hq hI htab
  rcases Nat.eq_zero_or_pos D with hD | hD
  · subst hD
    have HX : Hid (X = (nums8 [] ++ l, 0)) := Lib.hid hX
    clear hX hfd
    go_enter Tryd.func14, Tryd.ntmps14
    go_wp2_with fail
    refine (HC.out _ (RB.below hr (below_alloc (Below.refl _ _) _))).mono ?_
    rintro e w1 ⟨rfl, hb⟩
    have HB := Lib.hid (below_then (below_alloc (Below.refl w.heap.size w) _) (by simp) hb)
    have hz1 : w.heap.size < w1.heap.size := Nat.lt_of_lt_of_le (by simp) hb.size
    obtain ⟨hc1, hf1⟩ := bcell hb
    clear hb
    go_wp2_with fail
    refine (HO.out _).mono ?_
    rintro e w2 ⟨rfl, hb⟩
    have HB2 := Lib.hid (below_then HB.out HB.out.size hb)
    have hz2 : w.heap.size < w2.heap.size := Nat.lt_of_lt_of_le hz1 hb.size
    obtain ⟨hc2, hf2⟩ := bcell hb
    clear hb
    have hz2' : w.heap.size < w2.heap.size + 1 := by omega
    have H3 := Lib.hid (below_alloc HB2.out (.cells #[.int .i64 fn, .int .i64 fk, .int .i64 0, .int .i64 fm] 32))
    go_wp2_with (first
      | ((with_reducible refine gate_dst (N := 33) rfl ?_); refine wpList_conv _ rfl (.tmp 32) rfl ⟨#[]⟩ rfl (by decide) ?_; intro v0 w4 hv0 hb; have hz4 : w2.heap.size < w4.heap.size := Nat.lt_of_lt_of_le (by simp) hb.size; obtain ⟨hc4, hf4⟩ := bcell hb; have H4 := Lib.hid (below_then H3.out H3.out.size hb); have Hv := Lib.hid (hv0.less H3.out.size); clear hv0 hb)
      | (at_builtin; refine wpList_bytes_append _ rfl (.tmp 33) (.tmp 35) rfl w.heap.size _ (bytesOf ⟨#[]⟩) rfl Hv.out A c l rfl (RB.below hr H4.out) (by simp only [bytesOf_length]; show 0 + l.length ≤ _; omega) H4.out.size ?_; intro v1 w5 hb5 hbel hg5 hat5; have HB5 := Lib.hid hb5; have HW5 := Lib.hid (H4.out.trans hbel); clear hb5 hbel hg5 hat5))
    go_ret2
    rw [HX.out]
    exact ⟨v1, rfl, HB5.out, HW5.out⟩
  · have hfd : fm < 10 ^ D := by
      rcases hfd with h | h
      · omega
      · exact h
    have hll : l.length < 10 ^ D := by
      have h1 : ((l.length : Nat) : Int) < ((10 ^ D : Nat) : Int) := by
        rw [Int.natCast_pow]
        exact Int.lt_of_le_of_lt hle hfd
      omega
    have hnd : (Lib.decDigits l.length).length ≤ D := by rw [Lib.decDigits_length]; exact nDigits_le D _ hD hll
    have hX2 : X = (nums8 (padded l.length D) ++ l, 0) := by rw [hX, headOf, if_pos (by simp only; omega)]; simp
    have hT2 := fun W hW => digits_Text l.length D (by omega) hD (by omega) hnd W hW
    obtain ⟨S, hS⟩ : ∃ S : ByteArray, S = ⟨(padded l.length D).toArray⟩ := ⟨_, rfl⟩
    have hSs : S.size ≤ 4 := by
      rw [hS]
      have := padded_length l.length D hnd
      simp only [ByteArray.size, List.size_toArray]
      omega
    have hSb : bytesOf S = nums8 (padded l.length D) := by rw [hS, bytesOf_mk]
    rw [← hS] at hT2
    rw [← hSb] at hX2
    have HX := Lib.hid hX2
    have HT2 := Lib.hid hT2
    have hu : Hid (IntKind.u64.wrap (l.length : Int) = l.length) := Lib.hid (by rw [IntKind.wrap_u64]; omega)
    have b3 : decide ((0 : Int) < (D : Int)) = true := by simp; omega
    have hDp : 0 < D := hD
    clear hX hX2 hT2 hS hSb hfd hll hnd hD
    go_enter Tryd.func14, Tryd.ntmps14
    go_wp2_with fail
    refine (HC.out _ (RB.below hr (below_alloc (Below.refl _ _) _))).mono ?_
    rintro e w1 ⟨rfl, hb⟩
    have HB := Lib.hid (below_then (below_alloc (Below.refl w.heap.size w) _) (by simp) hb)
    have hz1 : w.heap.size < w1.heap.size := Nat.lt_of_lt_of_le (by simp) hb.size
    obtain ⟨hc1, hf1⟩ := bcell hb
    clear hb
    go_wp2_with fail
    refine (HO.out _).mono ?_
    rintro e w2 ⟨rfl, hb⟩
    have HB2 := Lib.hid (below_then HB.out HB.out.size hb)
    have hz2 : w.heap.size < w2.heap.size := Nat.lt_of_lt_of_le hz1 hb.size
    obtain ⟨hc2, hf2⟩ := bcell hb
    clear hb
    have hz2' : w.heap.size < w2.heap.size + 1 := by omega
    have H3 := Lib.hid (below_alloc HB2.out (.cells #[.int .i64 fn, .int .i64 fk, .int .i64 D, .int .i64 fm] 32))
    go_wp2_with fail
    refine (HT2.out _ (fun h => (HT.out h).on H3.out)).mono ?_
    rintro e w3 ⟨rfl, hb⟩
    have hz3 : w2.heap.size < w3.heap.size := Nat.lt_of_lt_of_le (by simp) hb.size
    have hz3' : w.heap.size < w3.heap.size := by omega
    obtain ⟨hc3, hf3⟩ := bcell hb
    have H3a := Lib.hid (below_then H3.out H3.out.size hb)
    clear hb
    go_wp2_with (first
      | ((with_reducible refine gate_dst (N := 33) rfl ?_); refine wpList_conv _ rfl (.tmp 32) rfl S rfl (by omega) ?_; intro v0 w4 hv0 hb; obtain ⟨hc4, hf4⟩ := bcell hb; have H4 := Lib.hid (below_then H3a.out H3a.out.size hb); have Hv := Lib.hid (hv0.less H3a.out.size); clear hv0 hb)
      | (at_builtin; refine wpList_bytes_append _ rfl (.tmp 33) (.tmp 35) rfl w.heap.size _ (bytesOf S) rfl Hv.out A c l rfl (RB.below hr H4.out) (by rw [bytesOf_length]; omega) H4.out.size ?_; intro v1 w5 hb5 hbel hg5 hat5; have HB5 := Lib.hid hb5; have HW5 := Lib.hid (H4.out.trans hbel); clear hb5 hbel hg5 hat5))
    go_ret2
    rw [HX.out]
    exact ⟨v1, rfl, HB5.out, HW5.out⟩
end Go.Proofs.YtonhmaklnkidhaaDoor.G
