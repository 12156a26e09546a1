/- What the functions of package element and of the verifier do, one contract each: a part of the proof; no conditions of its own (my own text, filled from XU11.lean.tpl). -/
import Derived.Test.YtonhmaklnkidhaaDoorU10
namespace Go.Proofs.YtonhmaklnkidhaaDoor.G
open Go.RowKit Go.Proofs.YtonhmaklnkidhaaDoorW.PrintWords

/-- element after element -/
def eachOf : List Int → List Int → List (Int × List Int) → List Int × List (Int × List Int) × Int
  | [], rest, els => (rest, els, 0)
  | no :: r, rest, els => if (stepOf no rest els).2.2 ≠ 0 then stepOf no rest els else eachOf r (stepOf no rest els).1 (stepOf no rest els).2.1
theorem stepOf_len (no : Int) (rest : List Int) (els : List (Int × List Int)) : (stepOf no rest els).2.1.length ≤ els.length + 1 := by
  unfold stepOf
  split <;> simp
set_option maxHeartbeats 6400000 in
set_option maxRecDepth 100000 in
theorem iso_each (w0 w : World) (p : Nat) (A : Option Addr) (c : Nat) (nos rest : List Int) (els : List (Int × List Int)) (hn : ∀ w', Below w0.heap.size w0 w' → RI w' A nos) (h : WalkAt w0 w p rest els) (hm : els.length + nos.length ≤ 1000) :
    Calls Tryd.prog 35 #[.slice A nos.length c, .func (.func 36) #[.pointer (some ⟨p, 0, none⟩)] #[]] w (StepPost w0 p (eachOf nos rest els)) := by
  have eg : ∀ args w, (callFunc 36 args).run Tryd.prog w = .ok (.enter 36 args) w := enters_of Tryd.func36 (by kernel_rfl) rfl
  obtain ⟨X, hX⟩ : ∃ X, X = eachOf nos rest els := ⟨_, rfl⟩
  rw [← hX]
  have HX := Lib.hid hX
  have HN := Lib.hid hn
  have H := Lib.hid h
  clear hX hn h
  go_enter Tryd.func35, Tryd.ntmps35
  go_wp2_with fail
  go_loopw [6, 7, 10] (fun _ _ v10 wr => ∃ (k : Nat) (rest2 : List Int) (els2 : List (Int × List Int)), k ≤ nos.length ∧ v10 = .int .i64 k ∧ Hid (X = eachOf (nos.drop k) rest2 els2) ∧ Hid (els2.length ≤ els.length + k) ∧ Hid (WalkAt w0 wr p rest2 els2)) (fun _ _ v _ => nos.length - (intOf v).toNat)
  case atStart => exact ⟨0, rest, els, Nat.zero_le _, rfl, HX, Lib.hid (by omega), H⟩
  case round =>
    obtain ⟨k, rest2, els2, hk, rfl, hXk, hel, hW⟩ := hrel
    obtain ⟨wo, rfl⟩ : ∃ wo : World, wo = wr := ⟨_, rfl⟩
    by_cases hlt : k < nos.length
    · obtain ⟨ad, rfl, hcell⟩ := (HN.out wo hW.out.bel).at_ k hlt
      have hdr : nos.drop k = nos[k] :: nos.drop (k + 1) := List.drop_eq_getElem_cons hlt
      generalize nos[k] = no at hdr hcell
      have hXk2 := hXk.out
      rw [hdr, eachOf] at hXk2
      have hS := walk_read w0 wo p no rest2 els2 hW.out (by have := hel.out; omega)
      have hsl := stepOf_len no rest2 els2
      generalize stepOf no rest2 els2 = s at hS hXk2 hsl
      obtain ⟨s1, s2, s3⟩ := s
      simp only at hXk2 hsl
      have HS := Lib.hid hS
      have HXk2 := Lib.hid hXk2
      have HSL := Lib.hid hsl
      clear hS hXk2 hdr hXk hsl
      go_wp2_with fail
      refine HS.out.mono ?_
      rintro e w5 ⟨rfl, hw5⟩
      have HW5 := Lib.hid hw5
      clear hw5 HS
      dsimp only at HW5 ⊢
      by_cases h0 : s3 ≠ 0
      · have HX4 : Hid (X = (s1, s2, s3)) := Lib.hid (by rw [HXk2.out, if_pos h0])
        have b2 : (s3 != 0) = true := bne_iff_ne.2 h0
        clear h0 HXk2
        go_wp2_with fail
        go_ret
        rw [HX4.out]
        exact ⟨rfl, HW5.out⟩
      have HX4 : Hid (X = eachOf (nos.drop (k + 1)) s1 s2) := Lib.hid (by rw [HXk2.out, if_neg h0])
      have b2 : (s3 != 0) = false := by simpa using h0
      clear h0 HXk2
      go_wp2_with fail
      exact ⟨⟨k + 1, s1, s2, hlt, rfl, HX4, Lib.hid (by have := hel.out; have := HSL.out; omega), HW5⟩, by simp [intOf]; omega⟩
    · obtain rfl : k = nos.length := by omega
      have hXk2 := hXk.out
      rw [List.drop_length, eachOf] at hXk2
      have HXk2 := Lib.hid hXk2
      clear hXk2 hXk
      go_wp2_with fail
      go_ret
      rw [HXk2.out]
      exact ⟨rfl, hW.out⟩
/-- bytes as a message, and why not -/
def parseOf (l : List Int) : ByteArray × List (Int × List Int) × Int :=
  if 4096 < l.length then (⟨#[]⟩, [], 4) else
  if l.length < 4 then (⟨#[]⟩, [], 3) else
  if rightB (strOfNums (l.take 4)) 4 4 = false then (⟨#[]⟩, [], 5) else
  if (mapOf (l.drop 4)).2.2 ≠ 0 then (⟨#[]⟩, [], (mapOf (l.drop 4)).2.2) else
  if (eachOf (mapOf (l.drop 4)).1 (l.drop (4 + (mapOf (l.drop 4)).2.1.toNat)) []).2.2 ≠ 0 then (⟨#[]⟩, [], (eachOf (mapOf (l.drop 4)).1 (l.drop (4 + (mapOf (l.drop 4)).2.1.toNat)) []).2.2) else
  if 0 < (eachOf (mapOf (l.drop 4)).1 (l.drop (4 + (mapOf (l.drop 4)).2.1.toNat)) []).1.length then (⟨#[]⟩, [], 17) else
  (strOfNums (l.take 4), (eachOf (mapOf (l.drop 4)).1 (l.drop (4 + (mapOf (l.drop 4)).2.1.toNat)) []).2.1, 0)
theorem mapOf_bounds (l : List Int) : 0 ≤ (mapOf l).2.1 ∧ (mapOf l).1.length ≤ 127 ∧ ((mapOf l).2.2 = 0 → (mapOf l).2.1 ≤ l.length) := by
  unfold mapOf
  split
  · simp
  split
  · refine ⟨by simp, ?_, fun _ => ?_⟩
    · exact Nat.le_trans (whichL_le _ _ _) (by decide)
    · simp only; omega
  split
  · simp
  split
  · simp
  split
  · simp
  · refine ⟨by simp, whichL_le _ _ _, fun _ => ?_⟩
    simp only; omega
end Go.Proofs.YtonhmaklnkidhaaDoor.G
