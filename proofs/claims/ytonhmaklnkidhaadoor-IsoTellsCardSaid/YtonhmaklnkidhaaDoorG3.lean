/- What the functions of package element and of the verifier do, one contract each: a part of the proof; no conditions of its own (my own text, filled from XG3.lean.tpl). -/
import Derived.Test.YtonhmaklnkidhaaDoorG2
import Derived.Lib.AppendIntMem
namespace Go.Proofs.YtonhmaklnkidhaaDoor.G
open Go.RowKit Go.Sort Go.Lib Go.Proofs.YtonhmaklnkidhaaDoorW.PrintWords

/-- the table of powers reads so, here and wherever nothing that lies here has changed -/
def Pow (w : World) : Prop := Lib.TabBelow Tryd.prog w.heap.size w "internal/strconv.uint64pow10" .u64 Lib.pow10Tab
theorem below_less {B C : Nat} {w w1 : World} (h : Below C w w1) (hB : B ≤ C) : Below B w w1 := ⟨h.os, h.tape, h.output, h.size, fun i hi => h.block i (Nat.lt_of_lt_of_le hi hB)⟩
theorem Pow.on {w w1 : World} (h : Pow w) (hb : Below w.heap.size w w1) : Pow w1 := fun w2 h2 => h w2 (below_then hb hb.size h2)
theorem tab_on {w w1 : World} (h : Pow w) (hb : Below w.heap.size w w1) : Lib.TabIs Tryd.prog w1 "internal/strconv.uint64pow10" .u64 Lib.pow10Tab := h w1 hb

set_option maxHeartbeats 3200000 in
set_option maxRecDepth 100000 in
/-- internal/strconv.FormatUint at base 10 -/
theorem intFormatUint_calls (u : Nat) (hu64 : u < 18446744073709551616) (w : World) (htab : 100 ≤ u → Pow w) :
    Calls Tryd.prog 71 #[.int .u64 u, .int .i64 10] w fun e w' => e = .returned (.string ⟨(Lib.decDigits u).toArray⟩) ∧ Below w.heap.size w w' := by
  by_cases hs : u < 100
  · have hw : wrap64 (u : Int) = u := by unfold wrap64; omega
    go_enter Tryd.func71, Tryd.ntmps71
    go_wp2_with (go_at_call 85; refine (Tryd.internal_strconv_small u hs _).mono ?_; rintro e w' ⟨rfl, rfl⟩)
    go_ret
    exact ⟨rfl, Below.refl _ _⟩
  · have htab := htab (by omega)
    have hu1 : 1 ≤ u := by omega
    have hnd20 : Lib.nDigits u ≤ 20 := by have := Lib.numDigits_eq u hu1 hu64; split at this <;> omega
    have hb3 : Lib.nDigits u ≤ 24 := by omega
    have hal : Tryd.prog.arrayLen 116 = 24 := by simp [Program.arrayLen, Tryd.underlying116]
    have hsl1 : ∀ W, (Instr.sliceAt 116 (.pointer (some ⟨w.heap.size, 0, none⟩)) none (some (.int .i64 (Lib.nDigits u : Int))) none).run Tryd.prog W = .ok (.slice (some ⟨w.heap.size, 0, none⟩) (Lib.nDigits u) 24) W := fun W => by
      rw [run_sliceAt_array_h W 116 ⟨w.heap.size, 0, none⟩ (by simp [Program.arrayLen, Program.elem, Tryd.underlying116]) .i64 (Lib.nDigits u : Int) (by omega) (by rw [hal]; omega)]
      go_simp
    have hH0 := Lib.holds_zero0 w 116 (Lib.nDigits u) hb3
    have hfmt := Tryd.internal_strconv_formatBase10 w.heap.size 0 24 u (Array.replicate (Lib.nDigits u) 0) (w.alloc (.cells Lib.zeros24 116)) hH0 (by rw [Array.size_replicate]; exact Lib.lt_pow_nDigits u) hu64 (by rw [Array.size_replicate]; omega)
    rw [Array.size_replicate] at hfmt
    have HH0 := Lib.hid hH0
    have HT := Lib.hid (tab_on htab ((Below.refl _ w).alloc (Nat.le_refl _) (.cells Lib.zeros24 116)))
    clear hH0 hal htab
    go_enter Tryd.func71, Tryd.ntmps71
    go_wp2_with (go_at_call 86; refine (Tryd.internal_strconv_numDigits u hu1 hu64 _ HT.out).mono ?_; rintro e w' ⟨rfl, rfl⟩)
    go_at_call 87
    refine hfmt.mono ?_
    rintro e w' ⟨rfl, k, v', dk, rfl, hF⟩
    have hcv : (convert 22 9 (.slice (some ⟨w.heap.size, 0, none⟩) (Lib.nDigits u) 24)).run Tryd.prog ((putRow (fun (b : UInt8) => Value.int .u8 (b.toNat : Int)) (w.alloc (.cells Lib.zeros24 116)) w.heap.size 0 dk).drewN k) = .ok (.string ⟨(Lib.decDigits u).toArray⟩) ((putRow (fun (b : UInt8) => Value.int .u8 (b.toNat : Int)) (w.alloc (.cells Lib.zeros24 116)) w.heap.size 0 dk).drewN k) := by
      have h := run_convert_bytes_back (P := Tryd.prog) ((putRow (fun (b : UInt8) => Value.int .u8 (b.toNat : Int)) (w.alloc (.cells Lib.zeros24 116)) w.heap.size 0 dk).drewN k) 22 9 5 ⟨w.heap.size, 0, none⟩ 24 (Lib.decDigits u) Tryd.underlying22 Tryd.underlying5 Tryd.underlying9 (fun j hj => by
        rw [Lib.row_is_numeral hF j hj, Lib.add_plain, World.cell?_drewN]
        exact cell?_putRow (fun (b : UInt8) => Value.int .u8 (b.toNat : Int)) _ w.heap.size 0 _ dk HH0.out (by rw [hF.size, Array.size_replicate]) j (by rw [hF.size]; rw [Lib.decDigits_length] at hj; exact hj))
      rw [Lib.decDigits_length] at h
      exact h
    go_wp2
    go_ret
    obtain ⟨os, eo⟩ := Lib.fin_at w (.cells Lib.zeros24 116) dk k 0
    refine ⟨rfl, ?_⟩
    rw [eo]
    exact Lib.below_grow _ _ (Nat.le_refl _) _ _

set_option maxRecDepth 100000 in
theorem FormatUint_calls (u : Nat) (hu64 : u < 18446744073709551616) (w : World) (htab : 100 ≤ u → Pow w) :
    Calls Tryd.prog 48 #[.int .u64 u, .int .i64 10] w fun e w' => e = .returned (.string ⟨(Lib.decDigits u).toArray⟩) ∧ Below w.heap.size w w' := by
  go_enter Tryd.func48, Tryd.ntmps48
  go_wp2_with (go_at_call 71; refine (intFormatUint_calls u hu64 _ htab).mono ?_; rintro e w' ⟨rfl, hb⟩; have HB := Lib.hid hb; clear hb)
  go_ret
  exact ⟨rfl, HB.out⟩

/-- a number in so many digits -/
def padded (v width : Nat) : List UInt8 := List.replicate (width - (Lib.decDigits v).length) 48 ++ Lib.decDigits v
theorem repeat_one (n : Nat) : Lib.repeatL [48] n = List.replicate n 48 := by
  induction n with
  | zero => rfl
  | succ n ih =>
    show [48] ++ Lib.repeatL [48] n = _
    rw [ih]
    rfl
theorem padded_eq (v width : Nat) (S R : ByteArray) (hl : S.size = (Lib.decDigits v).length) (hS : S = ⟨(Lib.decDigits v).toArray⟩) (hR : R = ⟨(Lib.repeatL (⟨#[48]⟩ : ByteArray).data.toList (width - S.size)).toArray⟩) : (⟨(padded v width).toArray⟩ : ByteArray) = R ++ S := by
  have hr : Lib.repeatL (⟨#[48]⟩ : ByteArray).data.toList (width - S.size) = List.replicate (width - S.size) 48 := repeat_one _
  rw [hr] at hR
  rw [hR, hl, hS]
  unfold padded
  apply ByteArray.ext
  simp [ByteArray.data_append]
set_option maxHeartbeats 800000 in
set_option maxRecDepth 100000 in
theorem digits_Text (v width : Nat) (hv : v < 18446744073709551616) (h1 : 1 ≤ width) (h2 : width ≤ 20) (hl : (Lib.decDigits v).length ≤ width) (w : World) (htab : 100 ≤ v → Pow w) :
    Calls Tryd.prog 28 #[.int .u64 v, .int .i64 width] w fun e w' => e = .returned (.tuple #[.string ⟨(padded v width).toArray⟩, .int .i64 0]) ∧ Below w.heap.size w w' := by
  have hsz : (⟨(Lib.decDigits v).toArray⟩ : ByteArray).size = (Lib.decDigits v).length := by simp [ByteArray.size]
  obtain ⟨S, hS⟩ : ∃ S : ByteArray, S = ⟨(Lib.decDigits v).toArray⟩ := ⟨_, rfl⟩
  have hSl : S.size ≤ width := by rw [hS, hsz]; exact hl
  have hSd : Hid (S.size = (Lib.decDigits v).length) := Lib.hid (by rw [hS, hsz])
  have HS := Lib.hid hS
  have ew : Hid (((width : Int) - (S.size : Int)) = ((width - S.size : Nat) : Int)) := Lib.hid (by omega)
  have HT := Lib.hid htab
  clear hsz hl hS htab
  have hF := fun W hW => FormatUint_calls v hv W hW
  rw [← HS.out] at hF
  have HF := Lib.hid hF
  clear hF
  go_enter Tryd.func28, Tryd.ntmps28
  go_wp2_with (first | (go_at_call 48; refine (HF.out _ HT.out).mono ?_; rintro e w1 ⟨rfl, hb⟩; have HB := Lib.hid hb; clear hb))
  rw [ew.out]
  obtain ⟨R, hR⟩ : ∃ R : ByteArray, R = ⟨(Lib.repeatL (⟨#[48]⟩ : ByteArray).data.toList (width - S.size)).toArray⟩ := ⟨_, rfl⟩
  have hrs : R.size + S.size ≤ 9223372036854775807 := by
    have : R.size = width - S.size := by
      rw [hR, show Lib.repeatL (⟨#[48]⟩ : ByteArray).data.toList (width - S.size) = _ from repeat_one _]
      exact List.length_replicate ..
    omega
  have hRep := Tryd.strings_Repeat ⟨#[48]⟩ (width - S.size) w1 (by omega) (by show 1 * (width - S.size) ≤ 140737488355328; omega)
  rw [← hR] at hRep
  have HRR := Lib.hid hR
  clear hR
  refine hRep.mono ?_
  rintro e w2 ⟨rfl, hb⟩
  have HB2 := Lib.hid (below_step HB.out hb)
  clear hb hRep
  go_wp2
  go_ret2
  exact ⟨by rw [padded_eq v width S R hSd.out HS.out HRR.out]; rfl, HB2.out⟩
end Go.Proofs.YtonhmaklnkidhaaDoor.G
