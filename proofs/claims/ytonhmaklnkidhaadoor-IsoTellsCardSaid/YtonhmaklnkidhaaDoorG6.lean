/- What the functions of package element and of the verifier do, one contract each: a part of the proof; no conditions of its own (my own text, filled from XG6.lean.tpl). -/
import Derived.Test.YtonhmaklnkidhaaDoorG5
namespace Go.Proofs.YtonhmaklnkidhaaDoor.G
open Go.RowKit Go.Proofs.YtonhmaklnkidhaaDoorW.PrintWords

theorem bcell {W w1 : World} (hb : Below W.heap.size W w1) : (∀ b o, b < W.heap.size → w1.cell? ⟨b, o, none⟩ = W.cell? ⟨b, o, none⟩) ∧ (∀ b o, b < W.heap.size → w1.frozen? ⟨b, o, none⟩ = W.frozen? ⟨b, o, none⟩) :=
  ⟨fun b o h => hb.cell (p := ⟨b, o, none⟩) h, fun b o h => hb.frozen (p := ⟨b, o, none⟩) h⟩
def longB (f : Fmt) (n : Int) : Bool := decide (n = f.most) || (decide (0 < f.digits) && (decide (1 ≤ n) && decide (n ≤ f.most)))
set_option maxHeartbeats 400000 in
set_option maxRecDepth 100000 in
theorem element_long (a b d m n : Int) (w : World) :
    Calls Tryd.prog 26 #[.agg #[.int .i64 a, .int .i64 b, .int .i64 d, .int .i64 m], .int .i64 n] w fun e w' => e = .returned (.bool (longB ⟨a, b, d, m⟩ n)) ∧ Below w.heap.size w w' := by
  have hl : Hid (longB ⟨a, b, d, m⟩ n = (decide (n = m) || (decide (0 < d) && (decide (1 ≤ n) && decide (n ≤ m))))) := Lib.hid rfl
  generalize longB ⟨a, b, d, m⟩ n = L at *
  by_cases h1 : n = m
  · have b1 : (n == m) = true := beq_iff_eq.2 h1
    have HL : Hid (L = true) := Lib.hid (by rw [hl.out]; simp [h1])
    clear h1
    go_enter Tryd.func26, Tryd.ntmps26
    go_wp2
    go_ret
    exact ⟨by rw [HL.out]; rfl, below_alloc (Below.refl _ _) _⟩
  · have b1 : (n == m) = false := beq_eq_false_iff_ne.2 h1
    have HL : Hid (L = (decide (0 < d) && (decide (1 ≤ n) && decide (n ≤ m)))) := Lib.hid (by rw [hl.out]; simp [h1])
    clear h1
    by_cases h2 : 0 < d
    · by_cases h3 : 1 ≤ n
      · go_enter Tryd.func26, Tryd.ntmps26
        go_wp2
        all_goals
          go_ret
          exact ⟨ret_bool (by rw [HL.out]; simp_all), below_alloc (Below.refl _ _) _⟩
      · go_enter Tryd.func26, Tryd.ntmps26
        go_wp2
        go_ret
        exact ⟨ret_bool (by rw [HL.out]; simp_all; omega), below_alloc (Below.refl _ _) _⟩
    · go_enter Tryd.func26, Tryd.ntmps26
      go_wp2
      go_ret
      exact ⟨ret_bool (by rw [HL.out]; simp_all; omega), below_alloc (Below.refl _ _) _⟩

/-- why an element may not be -/
def checkOf (no : Int) (l : List Int) : Int := if isEl no = false then 16 else if longB (fmtOf no) l.length = false then 17 else if kindB (fmtOf no).kind (fmtOf no).most (strOfNums l) then 0 else 14
set_option maxHeartbeats 800000 in
set_option maxRecDepth 100000 in
theorem element_Check (no : Int) (A : Option Addr) (c : Nat) (l : List Int) (w : World) (hr : Kd.C (Kd.int .u8) w A l.length l) (hc : l.length ≤ c) :
    Calls Tryd.prog 10 #[.agg #[.int .i64 no, .slice A l.length c]] w fun e w' => e = .returned (.int .i64 (checkOf no l)) ∧ Below w.heap.size w w' := by
  obtain ⟨F, hF⟩ : ∃ F, F = fmtOf no := ⟨_, rfl⟩
  obtain ⟨I, hI⟩ : ∃ I, I = isEl no := ⟨_, rfl⟩
  obtain ⟨L, hL⟩ : ∃ L, L = longB F l.length := ⟨_, rfl⟩
  obtain ⟨R, hR⟩ : ∃ R : Int, R = if kindB F.kind F.most (strOfNums l) then 0 else 14 := ⟨_, rfl⟩
  have hO := fun W => element_Of no W
  have hG : ∀ W, Calls Tryd.prog 26 #[.agg #[.int .i64 F.no, .int .i64 F.kind, .int .i64 F.digits, .int .i64 F.most], .int .i64 l.length] W fun e w' => e = .returned (.bool L) ∧ Below W.heap.size W w' := fun W => by rw [hL]; exact element_long F.no F.kind F.digits F.most l.length W
  have hX : ∀ W, Kd.C (Kd.int .u8) W A l.length l → Calls Tryd.prog 27 #[.agg #[.int .i64 F.no, .int .i64 F.kind, .int .i64 F.digits, .int .i64 F.most], .slice A l.length c] W fun e w' => e = .returned (.int .i64 R) ∧ Below W.heap.size W w' := fun W hW => element_right.calls F.no F.kind F.digits F.most A c l R W hW hc (by rw [hR]; rfl)
  have hck : Hid (checkOf no l = if I = false then 16 else if L = false then 17 else R) := Lib.hid (by rw [hR, hL, hF, hI]; rfl)
  rw [← hF, ← hI] at hO
  have HO := Lib.hid hO
  have HG := Lib.hid hG
  have HX := Lib.hid hX
  clear hF hI hO hL hG hR hX
  go_enter Tryd.func10, Tryd.ntmps10
  go_wp2_with (go_at_call 12; refine (HO.out _).mono ?_; rintro e w1 ⟨rfl, hb⟩; have hz : w.heap.size < w1.heap.size := Nat.lt_of_lt_of_le (by simp) hb.size; obtain ⟨hc1, hf1⟩ := bcell hb; have HB := Lib.hid (below_then (below_alloc (Below.refl w.heap.size w) _) (by simp) hb); clear hb)
  · go_ret
    exact ⟨by rw [hck.out]; simp_all, below_alloc HB.out _⟩
  · have hz' : w.heap.size < w1.heap.size + 1 := by omega
    obtain rfl : I = true := by cases I <;> simp_all
    go_wp2_with (go_at_call 26; refine (HG.out _).mono ?_; rintro e w2 ⟨rfl, hb⟩; have hz2 : w1.heap.size < w2.heap.size := Nat.lt_of_lt_of_le (by simp) hb.size; obtain ⟨hc2, hf2⟩ := bcell hb; have HB2 := Lib.hid (below_then (below_alloc HB.out _) (by have := HB.out.size; simp; omega) hb); clear hb)
    · go_ret
      exact ⟨by rw [hck.out]; simp_all, HB2.out⟩
    · go_wp2_with (go_at_call 27; refine (HX.out _ (Kd.C_below hr HB2.out)).mono ?_; rintro e w3 ⟨rfl, hb⟩; have HB3 := Lib.hid (below_then HB2.out HB2.out.size hb); clear hb)
      go_ret
      exact ⟨by rw [hck.out]; simp_all, HB3.out⟩
end Go.Proofs.YtonhmaklnkidhaaDoor.G
