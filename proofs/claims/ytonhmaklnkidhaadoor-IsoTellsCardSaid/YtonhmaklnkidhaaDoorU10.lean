/- What the functions of package element and of the verifier do, one contract each: a part of the proof; no conditions of its own (my own text, filled from XU10.lean.tpl). -/
import Derived.Test.YtonhmaklnkidhaaDoorU9
namespace Go.Proofs.YtonhmaklnkidhaaDoor.G
open Go.RowKit Go.Proofs.YtonhmaklnkidhaaDoorW.PrintWords

theorem info_elt : (Tryd.prog.info? 26).map (fun i => (i.zero, i.size, i.bytes)) = some (some (.agg #[.int .i64 0, .slice none 0 0]), 2, 32) := by kernel_rfl
/-- where a reading of elements stands: what is left, and what has been read -/
structure WalkAt (w0 w : World) (p : Nat) (rest : List Int) (els : List (Int × List Int)) : Prop where
  bel : Below w0.heap.size w0 w
  le : w0.heap.size ≤ p
  f0 : w.frozen? ⟨p, 0, none⟩ = false
  f1 : w.frozen? ⟨p, 1, none⟩ = false
  left_ : ∃ A c, w.cell? ⟨p, 0, none⟩ = some (.slice A rest.length c) ∧ rest.length ≤ c ∧ ∀ w', Below w0.heap.size w0 w' → RB w' A rest
  row : ∃ v, w.cell? ⟨p, 1, none⟩ = some v ∧ Kd.R kE 26 w w0.heap.size (fun k => k ≠ p) v els
theorem WalkAt.lt {w0 w : World} {p : Nat} {rest : List Int} {els : List (Int × List Int)} (h : WalkAt w0 w p rest els) : p < w.heap.size := by
  obtain ⟨v, hv, _⟩ := h.row
  exact World.block_lt_of_cell? w _ hv
theorem WalkAt.below {w0 w w' : World} {p : Nat} {rest : List Int} {els : List (Int × List Int)} (h : WalkAt w0 w p rest els) (hb : Below w.heap.size w w') : WalkAt w0 w' p rest els := by
  have hp := h.lt
  obtain ⟨A, c, h0, hc, hr⟩ := h.left_
  obtain ⟨v, hv, hR⟩ := h.row
  exact ⟨below_then h.bel h.bel.size hb, h.le, (hb.frozen (p := ⟨p, 0, none⟩) hp).trans h.f0, (hb.frozen (p := ⟨p, 1, none⟩) hp).trans h.f1, ⟨A, c, (hb.cell (p := ⟨p, 0, none⟩) hp).trans h0, hc, hr⟩, ⟨v, (hb.cell (p := ⟨p, 1, none⟩) hp).trans hv, Kd.R_below hR hb⟩⟩
theorem WalkAt.set0 {w0 w : World} {p : Nat} {rest : List Int} {els : List (Int × List Int)} (h : WalkAt w0 w p rest els) {A : Option Addr} {c : Nat} {r2 : List Int} (hc : r2.length ≤ c) (hr : ∀ w', Below w0.heap.size w0 w' → RB w' A r2) :
    WalkAt w0 (w.setCell ⟨p, 0, none⟩ (.slice A r2.length c)) p r2 els := by
  obtain ⟨A', c', h0, _, _⟩ := h.left_
  obtain ⟨v, hv, hR⟩ := h.row
  refine ⟨h.bel.setCell h.le _, h.le, ?_, ?_, ⟨A, c, World.cell?_setCell_same _ _ _ h0, hc, hr⟩, ⟨v, ?_, Kd.R_far hR (fun k hk => hk) _⟩⟩
  · rw [World.frozen?_setCell]; exact h.f0
  · rw [World.frozen?_setCell]; exact h.f1
  · rw [World.cell?_setCell_other _ _ _ _ (by simp)]; exact hv
/-- one element more: what is read of it, what is left, and why not -/
def stepOf (no : Int) (rest : List Int) (els : List (Int × List Int)) : List Int × List (Int × List Int) × Int :=
  if (readOf no rest).2.2 = 0 then (rest.drop (readOf no rest).2.1.toNat, els ++ [(no, (readOf no rest).1)], 0) else (rest, els, (readOf no rest).2.2)
theorem readOf_len (no : Int) (l : List Int) : 0 ≤ (readOf no l).2.1 ∧ ((readOf no l).2.2 = 0 → (readOf no l).2.1 ≤ l.length) := by
  have hb := fmt_bounds no
  have hs := size_bounds no l
  unfold readOf
  split
  · simp
  split
  · simp
  split
  · simp
  · split
    · simp
    · simp only
      refine ⟨by omega, fun _ => by omega⟩
def StepPost (w0 : World) (p : Nat) (r : List Int × List (Int × List Int) × Int) (e : Ending) (w' : World) : Prop := e = .returned (.int .i64 r.2.2) ∧ WalkAt w0 w' p r.1 r.2.1
set_option maxHeartbeats 6400000 in
set_option maxRecDepth 100000 in
theorem walk_read (w0 w : World) (p : Nat) (no : Int) (rest : List Int) (els : List (Int × List Int)) (h : WalkAt w0 w p rest els) (hm : els.length ≤ 1000) :
    Calls Tryd.prog 36 #[.pointer (some ⟨p, 0, none⟩), .int .i64 no] w (StepPost w0 p (stepOf no rest els)) := by
  obtain ⟨X, hX⟩ : ∃ X, X = stepOf no rest els := ⟨_, rfl⟩
  rw [← hX]
  have H := Lib.hid h
  have hp := h.lt
  obtain ⟨A, c, h0, hc, hr⟩ := h.left_
  have cR := element_Read no A c rest w (hr w h.bel) hc
  have hl := readOf_len no rest
  unfold stepOf at hX
  generalize readOf no rest = r at cR hX hl
  obtain ⟨d, n, er⟩ := r
  simp only at hX hl
  have HX := Lib.hid hX
  have HR := Lib.hid hr
  have HcR := Lib.hid cR
  have HL := Lib.hid hl
  clear hX hr cR hl h
  go_enter Tryd.func36, Tryd.ntmps36
  go_wp2_with fail
  refine HcR.out.mono ?_
  rintro e w1 ⟨v1, rfl, hv1, hb1⟩
  have HO1 := Lib.hid hv1
  have H1 := Lib.hid (H.out.below hb1)
  have HB1 := Lib.hid hb1
  clear hv1 hb1 HcR
  dsimp only at HO1 ⊢
  by_cases he : er = 0
  case neg =>
    have HX2 : Hid (X = (rest, els, er)) := Lib.hid (by rw [HX.out, if_neg he])
    have b2 : (er == 0) = false := beq_eq_false_iff_ne.2 he
    clear he HX
    go_wp2_with fail
    go_ret
    rw [HX2.out]
    exact ⟨rfl, H1.out⟩
  have HX2 : Hid (X = (rest.drop n.toNat, els ++ [(no, d)], 0)) := Lib.hid (by rw [HX.out, if_pos he])
  subst he
  obtain ⟨A2, hcut, hcr, hcl⟩ := cut_drop A c rest n (HL.out.1) (HL.out.2 rfl) hc
  obtain ⟨r2, hr2⟩ : ∃ r2, r2 = rest.drop n.toNat := ⟨_, rfl⟩
  obtain ⟨c2, hc2⟩ : ∃ c2, c2 = c - n.toNat := ⟨_, rfl⟩
  rw [← hr2, ← hc2] at hcut hcl
  rw [← hr2] at hcr HX2
  have hS := H1.out.set0 hcl (fun w' hw' => hcr w' (HR.out w' hw'))
  have g0 : w1.cell? ⟨p, 0, none⟩ = some (.slice A rest.length c) := (HB1.out.cell (p := ⟨p, 0, none⟩) hp).trans h0
  have g1 := H1.out.f0
  obtain ⟨v0, hv0, hR0⟩ := H.out.row
  have hlt0 := Kd.R_lt hR0
  obtain ⟨v3, g2, hR3⟩ := hS.row
  have hv30 : v3 = v0 := by
    rw [World.cell?_setCell_other _ _ _ _ (by simp), HB1.out.cell (p := ⟨p, 1, none⟩) hp, hv0] at g2
    injection g2 with g2
    exact g2.symm
  subst hv30
  have g3 := hS.f1
  have k1 : w1.cell? ⟨p, 1, none⟩ = some v3 := (HB1.out.cell (p := ⟨p, 1, none⟩) hp).trans hv0
  obtain ⟨A5, c5, hv1⟩ := Kd.R_slice HO1.out
  subst hv1
  obtain ⟨Ws, hWs⟩ : ∃ Ws, Ws = w1.setCell ⟨p, 0, none⟩ (.slice A2 r2.length c2) := ⟨_, rfl⟩
  have hO2 : Kd.R (Kd.int .u8) 5 Ws w0.heap.size (fun k => w.heap.size ≤ k) (.slice A5 d.length c5) d := by
    rw [hWs]
    exact Kd.R_lower (Kd.R_far (Kd.R_mono (Kd.R_bound HO1.out) (ok' := fun k => w.heap.size ≤ k) (fun k hk => hk.2.1)) (fun k hk => by have hk' : w.heap.size ≤ k := hk; show k ≠ p; omega) _) H.out.bel.size
  have hM : kE.M Ws w0.heap.size (fun k => w.heap.size ≤ k) (no, d) [.int .i64 no, .slice A5 d.length c5] := ⟨[.int .i64 no], [.slice A5 d.length c5], rfl, rfl, ⟨_, rfl, hO2⟩⟩
  rw [← hWs] at hS g2 g3 hR3
  have hz0 : (w1.setCell ⟨p, 0, none⟩ (.slice A2 r2.length c2)).heap.size = w1.heap.size := by simp [World.setCell]
  have hzs : p < Ws.heap.size := hS.lt
  have HOK : Hid (∀ k, w.heap.size ≤ k → k ≠ p ∧ some k ≠ v3.ownBlock) := Lib.hid (fun k hk => ⟨by omega, fun e => by have := hlt0 k e.symm; omega⟩)
  have HM := Lib.hid hM
  have HS := Lib.hid hS
  have HR3 := Lib.hid hR3
  have HWs := Lib.hid hWs
  have G2 := Lib.hid g2
  have G3 := Lib.hid g3
  have HNE : Hid (some p ≠ v3.ownBlock) := Lib.hid (fun e => (hR3.1 p e.symm) rfl)
  have HZ : Hid (Ws.heap.size = w1.heap.size) := Lib.hid (by rw [hWs]; exact hz0)
  have HCL := Lib.hid hcl
  clear hcr hcl HX hO2 hM hS hR3 hR0 hlt0 hr2 hc2 hz0 hv0 hWs g2 g3
  go_wp2_with (at_builtin; rw [← HWs.out]; refine Kd.R_append kE (w0 := w0) w0.heap.size rfl (.tmp 33) (.tmp 37) 44 26 (.agg #[.int .i64 0, .slice none 0 0]) 32 rfl Tryd.underlying44 info_elt rfl (by decide) (by omega) v3 els (no, d) [.int .i64 no, .slice A5 d.length c5] (fun k => k ≠ p) (fun k => w.heap.size ≤ k) rfl (by rw [HZ.out]; rfl) HM.out HOK.out (fun k hk => by have := HS.out.lt; omega) HR3.out HS.out.bel HS.out.bel.size (by omega) ?_; intro v6 w6 ho6 hb6 hg6 hat6; clear hat6; obtain ⟨A6, c6, hv6⟩ := Kd.R_slice ho6; subst hv6; have m0 : w6.cell? ⟨p, 1, none⟩ = some v3 := (hg6.cell_far ⟨p, 1, none⟩ HS.out.lt HNE.out).trans G2.out; have m1 : w6.frozen? ⟨p, 1, none⟩ = false := (hg6.frozen_far ⟨p, 1, none⟩ HS.out.lt HNE.out).trans G3.out; have HO6 := Lib.hid ho6; have HB6 := Lib.hid hb6; have HG6 := Lib.hid hg6; clear ho6 hb6 hg6)
  go_ret
  rw [HX2.out]
  obtain ⟨A7, c7, j0, j1, j2⟩ := HS.out.left_
  have hR6 := HO6.out
  have e6 : (els ++ [(no, d)]).length = els.length + 1 := by simp
  rw [e6] at hR6
  refine ⟨rfl, HB6.out.setCell HS.out.le _, HS.out.le, ?_, ?_, ⟨A7, c7, ?_, j1, j2⟩, ⟨_, World.cell?_setCell_same _ _ _ m0, Kd.R_far hR6 (fun k hk => hk) _⟩⟩
  · rw [World.frozen?_setCell]
    exact (HG6.out.frozen_far ⟨p, 0, none⟩ HS.out.lt HNE.out).trans HS.out.f0
  · rw [World.frozen?_setCell]
    exact m1
  · rw [World.cell?_setCell_other _ _ _ _ (by simp)]
    exact (HG6.out.cell_far ⟨p, 0, none⟩ HS.out.lt HNE.out).trans j0
end Go.Proofs.YtonhmaklnkidhaaDoor.G
