/- What the functions of package element and of the verifier do, one contract each: a part of the proof; no conditions of its own (my own text, filled from XU13.lean.tpl). -/
import Derived.Test.YtonhmaklnkidhaaDoorU12
namespace Go.Proofs.YtonhmaklnkidhaaDoor.G
open Go.RowKit Go.Proofs.YtonhmaklnkidhaaDoorW.PrintWords

def s2100 : ByteArray := ⟨#[50, 49, 48, 48]⟩
def b2100 : List Int := [50, 49, 48, 48, 64, 0, 0, 0, 0, 0, 0, 0, 48, 50, 49, 50]
theorem pack_2100 : packOf s2100 [(2, [49, 50])] = (b2100, 0) := by
  have h1 : rightB s2100 4 4 = true := by decide +kernel
  have h2 : mapB [2] = ([64, 0, 0, 0, 0, 0, 0, 0], 0) := by decide +kernel
  have h3 : bytesOf s2100 = [50, 49, 48, 48] := by decide +kernel
  have h4 : [((2 : Int), ([49, 50] : List Int))].map (·.1) = [2] := rfl
  rw [packOf, h1, if_neg (by decide), h4, h2, if_neg (by decide), packGo]
  simp only
  rw [write_12, if_neg (by decide), h3]
  simp only [packGo]
  decide +kernel
theorem parse_2100 : parseOf b2100 = (s2100, [(2, [49, 50])], 0) := by decide +kernel
end Go.Proofs.YtonhmaklnkidhaaDoor.G
