/- What the functions of package element and of the verifier do, one contract each: a part of the proof; no conditions of its own (my own text, filled from XG11.lean.tpl). -/
import Derived.Test.YtonhmaklnkidhaaDoorG10
import Derived.Lib.SlBytesConst
namespace Go.Proofs.YtonhmaklnkidhaaDoor.G
open Go.RowKit Go.Proofs.YtonhmaklnkidhaaDoorW.PrintWords

def spareB (no : Int) : Bool := no == 43 || (no == 60 || (no == 61 || (no == 62 || (no == 63 || (no == 102 || (no == 103 || no == 120))))))
set_option maxHeartbeats 800000 in
set_option maxRecDepth 100000 in
theorem element_Spare (no : Int) (w : World) : Calls Tryd.prog 13 #[.int .i64 no] w fun e w' => e = .returned (.bool (spareB no)) ∧ w = w' := by
  by_cases h43 : no = 43
  · subst h43; go_enter Tryd.func13, Tryd.ntmps13; go_wp2; go_ret; exact ⟨rfl, rfl⟩
  by_cases h60 : no = 60
  · subst h60; go_enter Tryd.func13, Tryd.ntmps13; go_wp2; go_ret; exact ⟨rfl, rfl⟩
  by_cases h61 : no = 61
  · subst h61; go_enter Tryd.func13, Tryd.ntmps13; go_wp2; go_ret; exact ⟨rfl, rfl⟩
  by_cases h62 : no = 62
  · subst h62; go_enter Tryd.func13, Tryd.ntmps13; go_wp2; go_ret; exact ⟨rfl, rfl⟩
  by_cases h63 : no = 63
  · subst h63; go_enter Tryd.func13, Tryd.ntmps13; go_wp2; go_ret; exact ⟨rfl, rfl⟩
  by_cases h102 : no = 102
  · subst h102; go_enter Tryd.func13, Tryd.ntmps13; go_wp2; go_ret; exact ⟨rfl, rfl⟩
  by_cases h103 : no = 103
  · subst h103; go_enter Tryd.func13, Tryd.ntmps13; go_wp2; go_ret; exact ⟨rfl, rfl⟩
  by_cases h120 : no = 120
  · subst h120; go_enter Tryd.func13, Tryd.ntmps13; go_wp2; go_ret; exact ⟨rfl, rfl⟩
  have hs : spareB no = false := by simp [spareB, h43, h60, h61, h62, h63, h102, h103, h120]
  rw [hs]
  have b43 := beq_eq_false_iff_ne.2 h43
  have b60 := beq_eq_false_iff_ne.2 h60
  have b61 := beq_eq_false_iff_ne.2 h61
  have b62 := beq_eq_false_iff_ne.2 h62
  have b63 := beq_eq_false_iff_ne.2 h63
  have b102 := beq_eq_false_iff_ne.2 h102
  have b103 := beq_eq_false_iff_ne.2 h103
  have b120 := beq_eq_false_iff_ne.2 h120
  clear h43 h60 h61 h62 h63 h102 h103 h120 hs
  go_enter Tryd.func13, Tryd.ntmps13
  go_wp2
  go_ret
  exact ⟨rfl, rfl⟩

/-- a literal's bytes read so -/
theorem RB.lit (W : World) (l : List Int) (C : Array Value) (fr : Nat × Nat) (hC : C = (nums .u8 l).toArray) (hl : l.length ≤ 9223372036854775807) : RB (W.alloc (.cells C 5 fr)) (some ⟨W.heap.size, 0, none⟩) l := by
  subst hC
  refine Kd.C_of_reads (enc := Value.int .u8) (d := (0 : Int)) (h1 := fun _ => rfl) ⟨rfl, hl, fun _ => ⟨_, rfl, fun j hj => ?_⟩⟩
  rw [add_plain, World.cell?_alloc_mark]
  simp [nums, List.getD_eq_getElem?_getD, hj]
theorem dec_small {u : Nat} (h : u < 10) : Lib.decDigits u = [Lib.dg u 0] := by
  rw [Lib.decDigits_eq, Lib.nDigits_small h]; rfl
theorem write_12 : writeOf 2 [49, 50] = ([48, 50, 49, 50], 0) := by
  have h1 : checkOf 2 [49, 50] = 0 := by decide +kernel
  rw [writeOf, h1, if_neg (by decide)]
  have h2 : headOf (fmtOf 2) 2 = padded 2 2 := by decide +kernel
  show (nums8 (headOf (fmtOf 2) 2) ++ [49, 50], (0 : Int)) = _
  rw [h2, padded, dec_small (by decide)]
  decide +kernel
theorem read_12 : readOf 2 [48, 50, 49, 50, 122] = ([49, 50], 4, 0) := by decide +kernel
set_option maxHeartbeats 1600000 in
set_option maxRecDepth 100000 in
theorem awake16 (w : World) : Calls Tryd.prog 11 #[] w fun e w' => e = .returned (.bool true) ∧ Below w.heap.size w w' := by
  have kc := fun (w : World) (C : Array Value) (n c : Nat) => Lib.run_convert_bytes_const (P := Tryd.prog) w 22 5 C n c Tryd.underlying22 Tryd.underlying5
  go_enter Tryd.func11, Tryd.ntmps11
  go_wp2_with fail
  have H1 : Below w.heap.size w (w.alloc (.cells #[.int .u8 49, .int .u8 50] 5 (2, 3))) := below_alloc (Below.refl _ _) _
  have cW := element_Write 2 (some ⟨w.heap.size, 0, none⟩) 2 [49, 50] (w.alloc (.cells #[.int .u8 49, .int .u8 50] 5 (2, 3))) (RB.lit w [49, 50] _ _ rfl (by decide)) (by decide) (fun h => absurd h (by decide))
  rw [write_12] at cW
  refine cW.mono ?_
  rintro e w1 ⟨v1, rfl, hv1, hb⟩
  obtain ⟨A1, c1, rfl, hc1, hr1⟩ := hv1.reads
  have HB1 := Lib.hid (below_then H1 H1.size hb)
  clear hb H1 cW
  go_wp2_with fail
  have H2 : Below w1.heap.size w1 (w1.alloc (.cells #[.int .u8 48, .int .u8 50, .int .u8 49, .int .u8 50, .int .u8 122] 5 (5, 6))) := below_alloc (Below.refl _ _) _
  have cR := element_Read 2 (some ⟨w1.heap.size, 0, none⟩) 5 [48, 50, 49, 50, 122] (w1.alloc (.cells #[.int .u8 48, .int .u8 50, .int .u8 49, .int .u8 50, .int .u8 122] 5 (5, 6))) (RB.lit w1 [48, 50, 49, 50, 122] _ _ rfl (by decide)) (by decide)
  rw [read_12] at cR
  refine cR.mono ?_
  rintro e w2 ⟨v2, rfl, hv2, hb⟩
  obtain ⟨A2, c2, rfl, hc2, hr2⟩ := (BRow.of_R hv2).reads
  have HB2 := Lib.hid (below_then H2 H2.size hb)
  have s1 : (convert 22 9 (.slice A1 4 c1)).run Tryd.prog w2 = .ok (.string (strOfNums [48, 50, 49, 50])) w2 := (hr1.below HB2.out).string c1
  have s2 : (convert 22 9 (.slice A2 2 c2)).run Tryd.prog w2 = .ok (.string (strOfNums [49, 50])) w2 := hr2.string c2
  have e1 : strOfNums [48, 50, 49, 50] = ⟨#[48, 50, 49, 50]⟩ := rfl
  have e2 : strOfNums [49, 50] = ⟨#[49, 50]⟩ := rfl
  rw [e1] at s1
  rw [e2] at s2
  clear hb H2 cR e1 e2 hr1 hr2 hv1 hv2
  have hsp := element_Spare 60 w2
  rw [show spareB 60 = true from rfl] at hsp
  have HSp := Lib.hid hsp
  clear hsp
  go_wp2_with (go_at_call 13; refine HSp.out.mono ?_; rintro e w' ⟨rfl, rfl⟩)
  go_ret
  exact ⟨rfl, below_then HB1.out HB1.out.size HB2.out⟩
end Go.Proofs.YtonhmaklnkidhaaDoor.G
