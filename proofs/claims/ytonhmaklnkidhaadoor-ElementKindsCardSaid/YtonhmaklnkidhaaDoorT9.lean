/- What the functions of package element and of the verifier do, one contract each: a part of the proof; no conditions of its own (my own text, filled from XT9.lean.tpl). -/
import Derived.Test.YtonhmaklnkidhaaDoorT7
import Derived.Test.YtonhmaklnkidhaaDoorT8
import Derived.Test.YtonhmaklnkidhaaDoorT10
namespace Go.Proofs.YtonhmaklnkidhaaDoor.G
open Go.RowKit Go.Proofs.YtonhmaklnkidhaaDoorW.PrintWords

theorem kinds_walk (c : Int) (hc0 : 0 ≤ c) (hc1 : c < 256) (w : World) : Calls Tryd.prog 3 #[.int .u8 c] w fun e w' => e = .returned (.bool true) ∧ Below w.heap.size w w' := by
  obtain ⟨m, rfl⟩ := Int.eq_ofNat_of_zero_le hc0
  have hm : m < 256 := by omega
  have K2 : KAsk w m 2 12 (checkOf 2 (List.replicate 12 (m : Int)) == 0) := fun W hW => kinds_ask 2 m 12 (by decide) (by decide) w.heap.size W hW
  rw [kinds_2 m hm] at K2
  have K37 : KAsk w m 37 12 (checkOf 37 (List.replicate 12 (m : Int)) == 0) := fun W hW => kinds_ask 37 m 12 (by decide) (by decide) w.heap.size W hW
  rw [kinds_37 m hm] at K37
  have K43 : KAsk w m 43 3 (checkOf 43 (List.replicate 3 (m : Int)) == 0) := fun W hW => kinds_ask 43 m 3 (by decide) (by decide) w.heap.size W hW
  rw [kinds_43 m hm] at K43
  have K120 : KAsk w m 120 5 (checkOf 120 (List.replicate 5 (m : Int)) == 0) := fun W hW => kinds_ask 120 m 5 (by decide) (by decide) w.heap.size W hW
  rw [kinds_120 m hm] at K120
  have K55 : KAsk w m 55 1 (checkOf 55 (List.replicate 1 (m : Int)) == 0) := fun W hW => kinds_ask 55 m 1 (by decide) (by decide) w.heap.size W hW
  rw [kinds_55 m hm] at K55
  rcases kinds_range (m : Int) with ⟨h1, h2, h3, h4, h5, h6, h7, h8⟩ | ⟨h1, h2, h3, h4, h5, h6, h7, h8⟩ | ⟨h1, h2, h3, h4, h5, h6, h7, h8⟩ | ⟨h1, h2, h3, h4, h5, h6, h7, h8⟩ | ⟨h1, h2, h3, h4, h5, h6, h7, h8⟩ | ⟨h1, h2, h3, h4, h5, h6, h7, h8⟩ | ⟨h1, h2, h3, h4, h5, h6, h7, h8⟩ | ⟨h1, h2, h3, h4, h5, h6, h7, h8⟩ | ⟨h1, h2, h3, h4, h5, h6, h7, h8⟩
  · rw [h1, h2] at K2
    rw [h1, h2, h3, h4, h5, h6] at K37
    rw [h7, h8] at K43
    exact kinds_r1 (m : Int) w h1 h2 h3 h4 h5 h6 h7 h8 (Lib.hid K2) (Lib.hid K37) (Lib.hid K43) (Lib.hid K120) (Lib.hid K55)
  · rw [h1, h2] at K2
    rw [h1, h2, h3, h4, h5, h6] at K37
    rw [h7, h8] at K43
    exact kinds_r2 (m : Int) w h1 h2 h3 h4 h5 h6 h7 h8 (Lib.hid K2) (Lib.hid K37) (Lib.hid K43) (Lib.hid K120) (Lib.hid K55)
  · rw [h1, h2] at K2
    rw [h1, h2, h3, h4, h5, h6] at K37
    rw [h7, h8] at K43
    exact kinds_r3 (m : Int) w h1 h2 h3 h4 h5 h6 h7 h8 (Lib.hid K2) (Lib.hid K37) (Lib.hid K43) (Lib.hid K120) (Lib.hid K55)
  · rw [h1, h2] at K2
    rw [h1, h2, h3, h4, h5, h6] at K37
    rw [h7, h8] at K43
    exact kinds_r4 (m : Int) w h1 h2 h3 h4 h5 h6 h7 h8 (Lib.hid K2) (Lib.hid K37) (Lib.hid K43) (Lib.hid K120) (Lib.hid K55)
  · rw [h1, h2] at K2
    rw [h1, h2, h3, h4, h5, h6] at K37
    rw [h7, h8] at K43
    exact kinds_r5 (m : Int) w h1 h2 h3 h4 h5 h6 h7 h8 (Lib.hid K2) (Lib.hid K37) (Lib.hid K43) (Lib.hid K120) (Lib.hid K55)
  · rw [h1, h2] at K2
    rw [h1, h2, h3, h4, h5, h6] at K37
    rw [h7, h8] at K43
    exact kinds_r6 (m : Int) w h1 h2 h3 h4 h5 h6 h7 h8 (Lib.hid K2) (Lib.hid K37) (Lib.hid K43) (Lib.hid K120) (Lib.hid K55)
  · rw [h1, h2] at K2
    rw [h1, h2, h3, h4, h5, h6] at K37
    rw [h7, h8] at K43
    exact kinds_r7 (m : Int) w h1 h2 h3 h4 h5 h6 h7 h8 (Lib.hid K2) (Lib.hid K37) (Lib.hid K43) (Lib.hid K120) (Lib.hid K55)
  · rw [h1, h2] at K2
    rw [h1, h2, h3, h4, h5, h6] at K37
    rw [h7, h8] at K43
    exact kinds_r8 (m : Int) w h1 h2 h3 h4 h5 h6 h7 h8 (Lib.hid K2) (Lib.hid K37) (Lib.hid K43) (Lib.hid K120) (Lib.hid K55)
  · rw [h1, h2] at K2
    rw [h1, h2, h3, h4, h5, h6] at K37
    rw [h7, h8] at K43
    exact kinds_r9 (m : Int) w h1 h2 h3 h4 h5 h6 h7 h8 (Lib.hid K2) (Lib.hid K37) (Lib.hid K43) (Lib.hid K120) (Lib.hid K55)
/-- the law as the row wants it -/
theorem kinds_law (c : Int) (hc : (Lit.int .u8 c).wf = true) (w : World) :
    Calls Tryd.prog 3 #[.int .u8 c] w fun e w' => e = .returned (.bool true) ∧ Below w.heap.size w w' := by
  have h : IntKind.u8.min ≤ c ∧ c ≤ IntKind.u8.max := by simpa [Lit.wf] using hc
  have h0 : IntKind.u8.min = 0 := rfl
  have h1 : IntKind.u8.max = 255 := rfl
  rw [h0, h1] at h
  exact kinds_walk c h.1 (by omega) w
end Go.Proofs.YtonhmaklnkidhaaDoor.G
