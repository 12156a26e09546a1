/- What the functions of package element and of the verifier do, one contract each: a part of the proof; no conditions of its own (my own text, filled from XU15.lean.tpl). -/
import Derived.Test.YtonhmaklnkidhaaDoorU14
namespace Go.Proofs.YtonhmaklnkidhaaDoor.G
open Go.RowKit Go.Proofs.YtonhmaklnkidhaaDoorW.PrintWords

def dA : List Int := [48, 48, 48, 48, 48, 48, 48, 48, 48, 53, 48, 48]
def dB : List Int := [48, 48, 48, 48, 48, 55]
def dC : List Int := [122]
theorem write_dA : writeOf 4 dA = (dA, 0) := by decide +kernel
theorem write_dB : writeOf 11 dB = (dB, 0) := by decide +kernel
theorem write_dC : writeOf 102 dC = ([48, 49, 122], 0) := by
  have h1 : checkOf 102 dC = 0 := by decide +kernel
  rw [writeOf, h1, if_neg (by decide)]
  have h2 : headOf (fmtOf 102) 1 = padded 1 2 := by decide +kernel
  show (nums8 (headOf (fmtOf 102) 1) ++ dC, (0 : Int)) = _
  rw [h2, padded, dec_small (by decide)]
  decide +kernel
theorem need0 : packOf ⟨#[50, 49, 120, 48]⟩ [(4, dA), (11, dB), (102, dC)] = ([], 5) := by decide +kernel
theorem need1 : packOf ⟨#[50, 49, 48]⟩ [(4, dA), (11, dB), (102, dC)] = ([], 5) := by decide +kernel
theorem need2 : packOf s2100 [(11, dB), (4, dA), (102, dC)] = ([], 1) := by decide +kernel
theorem need3 : packOf s2100 [(4, dA), (4, dB), (102, dC)] = ([], 1) := by decide +kernel
theorem pack_step {acc : List Int} {x : Int × List Int} {r : List (Int × List Int)} {b : List Int} (h : writeOf x.1 x.2 = (b, 0)) : packGo acc (x :: r) = packGo (acc ++ b) r := by
  rw [packGo, h]; simp
theorem pack_stop {acc : List Int} {x : Int × List Int} {r : List (Int × List Int)} {e : Int} (h : writeOf x.1 x.2 = ([], e)) (he : e ≠ 0) : packGo acc (x :: r) = ([], e) := by
  rw [packGo, h, if_pos he]
theorem pack_in {mti : ByteArray} {fs : List (Int × List Int)} (h1 : rightB mti 4 4 = true) (h2 : (mapB (fs.map (·.1))).2 = 0) : packOf mti fs = packGo (bytesOf mti ++ (mapB (fs.map (·.1))).1) fs := by
  rw [packOf, h1, if_neg (by decide), h2, if_neg (by decide)]
theorem need4 : packOf s2100 [(4, dA), (5, dB), (102, dC)] = ([], 16) := by
  rw [pack_in (by decide +kernel) (by decide +kernel), pack_step write_dA, pack_stop (e := 16) (by decide +kernel) (by decide)]
theorem need5 : packOf s2100 [(4, dA), (11, [55]), (102, dC)] = ([], 17) := by
  rw [pack_in (by decide +kernel) (by decide +kernel), pack_step write_dA, pack_stop (e := 17) (by decide +kernel) (by decide)]
theorem need6 : packOf s2100 [(4, dA), (11, [48, 48, 48, 48, 48, 120]), (102, dC)] = ([], 14) := by
  rw [pack_in (by decide +kernel) (by decide +kernel), pack_step write_dA, pack_stop (e := 14) (by decide +kernel) (by decide)]
theorem need7 : packOf s2100 [(4, dA), (11, dB), (129, dC)] = ([], 1) := by decide +kernel
theorem need8 : ∃ l : List Int, 0 < l.length ∧ packOf s2100 [(4, dA), (11, dB), (102, dC)] = (l, 0) := by
  have hb := mapB_len ([((4 : Int), dA), (11, dB), (102, dC)].map (·.1))
  have h4 : (bytesOf s2100).length = 4 := by decide +kernel
  rw [pack_in (by decide +kernel) (by decide +kernel), pack_step write_dA, pack_step write_dB, pack_step write_dC, packGo, if_neg]
  · refine ⟨_, ?_, rfl⟩
    rw [List.length_append]
    simp only [List.length_cons, List.length_nil]
    omega
  · have hA : dA.length = 12 := rfl
    have hB : dB.length = 6 := rfl
    simp only [List.length_append, h4, hA, hB, List.length_cons, List.length_nil]
    omega
end Go.Proofs.YtonhmaklnkidhaaDoor.G
