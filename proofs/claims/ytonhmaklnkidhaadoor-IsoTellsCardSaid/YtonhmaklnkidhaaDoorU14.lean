/- What the functions of package element and of the verifier do, one contract each: a part of the proof; no conditions of its own (my own text, filled from XU14.lean.tpl). -/
import Derived.Test.YtonhmaklnkidhaaDoorU13
import Derived.Lib.SlBytesConst
namespace Go.Proofs.YtonhmaklnkidhaaDoor.G
open Go.RowKit Go.Proofs.YtonhmaklnkidhaaDoorW.PrintWords

/-- elements that lie in a row of cells -/
theorem kE_of {w : World} {q : Nat} {fs : List (Int × List Int)} (hl : fs.length ≤ 9223372036854775807)
    (h : ∀ (k : Nat) (hk : k < fs.length), ∃ B c, w.cell? ⟨q, 2 * k, none⟩ = some (.int .i64 fs[k].1) ∧ w.cell? ⟨q, 2 * k + 1, none⟩ = some (.slice B fs[k].2.length c) ∧ fs[k].2.length ≤ c ∧ RB w B fs[k].2) : Kd.C kE w (some ⟨q, 0, none⟩) fs.length fs := by
  refine ⟨rfl, hl, fun _ => ⟨_, rfl, fun j p hj => ?_⟩⟩
  obtain ⟨hj1, hj2⟩ := List.getElem?_eq_some_iff.1 hj
  obtain ⟨B, c, h0, h1, h2, h3⟩ := h j hj1
  rw [hj2] at h0 h1 h2 h3
  refine ⟨[.int .i64 p.1, .slice B p.2.length c], rfl, ⟨[.int .i64 p.1], [.slice B p.2.length c], rfl, rfl, ⟨B, c, rfl, h2, h3⟩⟩, fun i u hi => ?_⟩
  have hsz : kE.sz = 2 := rfl
  rw [hsz, add_plain]
  match i, hi with
  | 0, hi =>
    have : Value.int .i64 p.1 = u := by simpa using hi
    rw [← this]
    have e : j * 2 + 0 = 2 * j := by omega
    rw [e]
    exact h0
  | 1, hi =>
    have : Value.slice B p.2.length c = u := by simpa using hi
    rw [← this]
    have e : j * 2 + 1 = 2 * j + 1 := by omega
    rw [e]
    exact h1
  | i + 2, hi => simp at hi
set_option maxHeartbeats 3200000 in
set_option maxRecDepth 100000 in
theorem awake17 (w : World) : Calls Tryd.prog 17 #[] w fun e w' => e = .returned (.bool true) ∧ Below w.heap.size w w' := by
  have kc := fun (w : World) (C : Array Value) (n c : Nat) => Lib.run_convert_bytes_const (P := Tryd.prog) w 22 5 C n c Tryd.underlying22 Tryd.underlying5
  go_enter Tryd.func17, Tryd.ntmps17
  go_wp2_with fail
  obtain ⟨W1, hW1⟩ : ∃ W1, W1 = w.alloc (.cells #[.int .u8 49, .int .u8 50] 5 (2, 3)) := ⟨_, rfl⟩
  obtain ⟨W2, hW2⟩ : ∃ W2, W2 = W1.alloc (.cells #[.int .i64 2, .slice (some ⟨w.heap.size, 0, none⟩) 2 2] 26) := ⟨_, rfl⟩
  have hb1 : Below w.heap.size w W1 := by rw [hW1]; exact below_alloc (Below.refl _ _) _
  have hb2 : Below W1.heap.size W1 W2 := by rw [hW2]; exact below_alloc (Below.refl _ _) _
  have hs1 : W1.heap.size = w.heap.size + 1 := by rw [hW1]; simp
  have hr1 : RB W1 (some ⟨w.heap.size, 0, none⟩) [49, 50] := by rw [hW1]; exact RB.lit w [49, 50] _ _ rfl (by decide)
  have hk : Kd.C kE W2 (some ⟨W1.heap.size, 0, none⟩) 1 [((2 : Int), ([49, 50] : List Int))] := by
    refine kE_of (fs := [((2 : Int), ([49, 50] : List Int))]) (by decide) (fun k hk => ?_)
    match k, hk with
    | 0, _ => exact ⟨some ⟨w.heap.size, 0, none⟩, 2, by rw [hW2, World.cell?_alloc_new]; rfl, by rw [hW2, World.cell?_alloc_new]; rfl, Nat.le_refl 2, RB.below hr1 hb2⟩
  have cP := iso_Pack s2100 (some ⟨W1.heap.size, 0, none⟩) 1 [((2 : Int), ([49, 50] : List Int))] W2 (by decide) hk (by decide) (fun x hx h => by
    have : x = ((2 : Int), ([49, 50] : List Int)) := by simpa using hx
    subst this
    exact absurd h (by decide))
  rw [pack_2100] at cP
  have hW : W2 = (w.alloc (.cells #[.int .u8 49, .int .u8 50] 5 (2, 3))).alloc (.cells #[.int .i64 2, .slice (some ⟨w.heap.size, 0, none⟩) 2 2] 26) := by rw [hW2, hW1]
  rw [← hW]
  rw [hs1] at cP
  have HB2 := Lib.hid (below_then hb1 hb1.size hb2)
  have HcP := Lib.hid cP
  clear cP hk hr1 hb1 hb2 hs1 hW1 hW2 hW
  refine HcP.out.mono ?_
  rintro e w1 ⟨v1, rfl, hv1, hb1⟩
  obtain ⟨A1, c1, rfl, hc1, hr1⟩ := hv1.reads
  have HB1 := Lib.hid (below_then HB2.out HB2.out.size hb1)
  have cQ := iso_Parse A1 c1 b2100 w1 hr1 hc1 (by decide)
  rw [parse_2100] at cQ
  have HcQ := Lib.hid cQ
  clear cQ hv1 hb1 hr1 HcP hc1
  dsimp only
  go_wp2_with fail
  refine HcQ.out.mono ?_
  rintro e w2 ⟨v2, rfl, hv2, hb2⟩
  obtain ⟨A2, c2, rfl⟩ := Kd.R_slice hv2
  have HB3 := Lib.hid (below_then HB1.out HB1.out.size hb2)
  clear hv2 hb2 HcQ
  dsimp only
  have hs : s2100.toList = [50, 49, 48, 48] := by decide +kernel
  go_wp2_with fail
  go_ret
  exact ⟨rfl, below_alloc HB3.out _⟩
end Go.Proofs.YtonhmaklnkidhaaDoor.G
