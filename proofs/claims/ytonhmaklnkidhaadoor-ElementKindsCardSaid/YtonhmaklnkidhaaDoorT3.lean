/- What the functions of package element and of the verifier do, one contract each: a part of the proof; no conditions of its own (my own text, filled from XT3.lean.tpl). -/
import Derived.Test.YtonhmaklnkidhaaDoorG11
import Derived.Test.YtonhmaklnkidhaaDoorD1
import Derived.BigGuard
namespace Go.Proofs.YtonhmaklnkidhaaDoor.G
open Go.RowKit Go.Proofs.YtonhmaklnkidhaaDoorW.PrintWords

/-- the three digits of a number below 100 -/
def three (u : Nat) : List UInt8 := if u < 10 then [48, 48, Lib.dg u 0] else [48, Lib.dg u 1, Lib.dg u 0]
theorem padded_three {u : Nat} (hu : u < 100) : padded u 3 = three u := by
  unfold three padded
  by_cases h : u < 10
  · rw [if_pos h, Lib.decDigits_eq, Lib.nDigits_small h]; rfl
  · have : Lib.nDigits u = 2 := by rw [Lib.nDigits_big h, Lib.nDigits_small (by omega)]
    rw [if_neg h, Lib.decDigits_eq, this]
    rfl
set_option maxRecDepth 100000 in
theorem digits_three : ∀ u < 99, PD.comptoirref01_Digits.f 12 ((u + 1 : Nat) : Int) 3 = some (⟨(three (u + 1)).toArray⟩, 0) := by decide +kernel
set_option maxRecDepth 100000 in
theorem check_zs : ∀ u < 99, checkOf 60 (List.replicate (u + 1) 122) = 0 := by decide +kernel
set_option maxRecDepth 100000 in
theorem read_000 : ∀ u < 99, (readOf 60 ([48, 48, 48] ++ List.replicate (u + 1) 122)).2.2 = 17 := by decide +kernel
set_option maxRecDepth 100000 in
theorem read_0x1 : ∀ u < 99, (readOf 60 ([48, 120, 49] ++ List.replicate (u + 1) 122)).2.2 = 5 := by decide +kernel
set_option maxRecDepth 100000 in
theorem read_101 : ∀ u < 99, (readOf 60 ([49, 48, 49] ++ List.replicate (u + 1) 122)).2.2 = 17 := by decide +kernel
theorem head_three {u : Nat} (hu : u < 100) : headOf (fmtOf 60) u = three u := by
  have h : fmtOf 60 = ⟨60, 3, 3, 100⟩ := rfl
  rw [h]
  exact padded_three hu
theorem write_zs {u : Nat} (hu : u < 99) : writeOf 60 (List.replicate (u + 1) 122) = (nums8 (three (u + 1)) ++ List.replicate (u + 1) 122, 0) := by
  rw [writeOf, check_zs u hu, if_neg (by decide), List.length_replicate, head_three (by omega)]
theorem read_none (no : Int) (l : List Int) (h : isEl no = false) : readOf no l = ([], 0, 16) := by rw [readOf, if_pos h]
theorem strOfNums_app (p : List UInt8) (l : List Int) : strOfNums (nums8 p ++ l) = (⟨p.toArray⟩ : ByteArray) ++ strOfNums l := by
  simp only [strOfNums, nums8, List.map_append, List.map_map]
  have h : (fun n : Int => UInt8.ofNat n.toNat) ∘ (fun b : UInt8 => (b.toNat : Int)) = id := by funext b; simp
  rw [h, List.map_id]
  apply ByteArray.ext
  simp
/-- a constant's bytes, to append to -/
theorem BRow.lit (W : World) (l : List Int) (C : Array Value) (n : Nat) (hC : C = (nums .u8 l).toArray) (hn : n = l.length) (hl : l.length ≤ 9223372036854775807) :
    BRow (W.alloc (.cells C 5 (n, n + 1))) W.heap.size (.slice (some ⟨W.heap.size, 0, none⟩) n n) l := by
  subst hC hn
  have hc : ∀ j, j < l.length → (W.alloc (.cells (nums .u8 l).toArray 5 (l.length, l.length + 1))).cell? ⟨W.heap.size, j, none⟩ = some (.int .u8 (l.getD j 0)) := by
    intro j hj
    rw [World.cell?_alloc_mark]
    simp [nums, List.getD_eq_getElem?_getD, hj]
  refine .inr ⟨W.heap.size, l.length, rfl, Nat.le_refl _, by simp, Nat.le_refl _, hl, fun j hj => ⟨by rw [hc j hj]; rfl, ?_⟩, fun j hj => by rw [hc j hj]; simp [List.getD_eq_getElem?_getD, hj]⟩
  rw [World.frozen?_alloc_mark, decide_eq_false (by omega), Bool.false_and]
/-- the number of letters -/
theorem dig_n (a : Int) : ∃ u : Nat, u < 99 ∧ wrap64 (1 + wrap64 ((IntKind.u64.wrap a).tmod 99)) = ((u + 1 : Nat) : Int) := by
  have h0 : 0 ≤ IntKind.u64.wrap a := by rw [IntKind.wrap_u64]; omega
  obtain ⟨m, hm⟩ := Int.eq_ofNat_of_zero_le h0
  rw [hm]
  refine ⟨m % 99, Nat.mod_lt _ (by decide), ?_⟩
  have : ((m : Int)).tmod 99 = ((m % 99 : Nat) : Int) := rfl
  rw [this]
  have := Nat.mod_lt m (show 0 < 99 by decide)
  unfold wrap64
  omega
theorem dig_i (b : Int) : wrap64 ((IntKind.u64.wrap b).tmod 4) = 0 ∨ wrap64 ((IntKind.u64.wrap b).tmod 4) = 1 ∨ wrap64 ((IntKind.u64.wrap b).tmod 4) = 2 ∨ wrap64 ((IntKind.u64.wrap b).tmod 4) = 3 := by
  have h0 : 0 ≤ IntKind.u64.wrap b := by rw [IntKind.wrap_u64]; omega
  obtain ⟨m, hm⟩ := Int.eq_ofNat_of_zero_le h0
  rw [hm]
  have : ((m : Int)).tmod 4 = ((m % 4 : Nat) : Int) := rfl
  rw [this]
  have := Nat.mod_lt m (show 0 < 4 by decide)
  unfold wrap64
  omega
end Go.Proofs.YtonhmaklnkidhaaDoor.G
