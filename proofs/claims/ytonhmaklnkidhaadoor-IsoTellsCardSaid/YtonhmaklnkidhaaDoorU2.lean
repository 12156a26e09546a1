/- What the functions of package element and of the verifier do, one contract each: a part of the proof; no conditions of its own (my own text, filled from XU2.lean.tpl). -/
import Derived.Test.YtonhmaklnkidhaaDoorU1
import Derived.Lib.SliceRun
namespace Go.Proofs.YtonhmaklnkidhaaDoor.G
open Go.RowKit Go.Proofs.YtonhmaklnkidhaaDoorW.PrintWords

theorem grown_of_below {w w' : World} {row : Option Nat} (h : Below w.heap.size w w') : w.grownBy w' row := ⟨h.os, h.tape, h.output, h.size, fun k hk _ => h.block k hk⟩
theorem below_of_grown {w w' : World} {B p : Nat} (h : w.grownBy w' (some p)) (hB : B ≤ w.heap.size) (hp : B ≤ p) : Below B w w' :=
  ⟨h.os, h.tape, h.output, h.size, fun k hk => h.block k (by omega) (by intro e; injection e with e; omega)⟩
set_option maxRecDepth 100000 in
/-- slices.Clone of bytes -/
theorem slices_Clone (A : Option Addr) (c : Nat) (l : List Int) (w : World) (hr : RB w A l) (hm : l.length ≤ 140737488355328) :
    Calls Tryd.prog 51 #[.slice A l.length c] w fun e w' => (∃ v, e = .returned v ∧ BRow w' w.heap.size v l) ∧ Below w.heap.size w w' := by
  have hnil := fun (A : Option Addr) (n c : Nat) (W : World) => Lib.run_eql_slice_nil (P := Tryd.prog) W 22 5 A n c 0 0 Tryd.underlying22
  cases A with
  | none =>
    have h0 : l = [] := by
      rcases Nat.eq_zero_or_pos l.length with h0 | h0
      · exact List.eq_nil_of_length_eq_zero h0
      · obtain ⟨ad, h, _⟩ := hr.2.2 h0
        cases h
    subst h0
    go_enter Tryd.func51, Tryd.ntmps51
    go_wp2_with fail
    go_ret
    exact ⟨⟨_, rfl, BRow.nil_ _ _⟩, Below.refl _ _⟩
  | some ad =>
    have Ha := Lib.hid (below_alloc (Below.refl w.heap.size w) (.cells #[] 5))
    have HV : Hid (BRow (w.alloc (.cells #[] 5)) w.heap.size (.slice (some ⟨w.heap.size, 0, none⟩) 0 0) []) := Lib.hid (.inr ⟨w.heap.size, 0, rfl, Nat.le_refl _, by simp, Nat.le_refl _, by decide, fun j hj => absurd hj (Nat.not_lt_zero _), fun j hj => absurd hj (Nat.not_lt_zero _)⟩)
    have HR := Lib.hid hr
    clear hr
    go_enter Tryd.func51, Tryd.ntmps51
    go_wp2_with (at_builtin; refine wpList_bytes_append _ rfl (.tmp 5) (.tmp 6) rfl w.heap.size _ [] rfl HV.out (some ad) c l rfl (RB.below HR.out Ha.out) (by simpa using hm) Ha.out.size ?_; intro v1 w1 hv1 hb1 hgr1 hat1; clear hgr1 hat1; have HV1 := Lib.hid hv1; have HB1 := Lib.hid (Ha.out.trans hb1); clear hv1 hb1)
    go_ret
    exact ⟨⟨_, rfl, HV1.out⟩, HB1.out⟩

/-- a cursor -/
structure Cur (w : World) (p : Nat) (v : Value) (l : List Int) (pos : Int) : Prop where
  c0 : w.cell? ⟨p, 0, none⟩ = some v
  c1 : w.cell? ⟨p, 1, none⟩ = some (.int .i64 pos)
  f1 : w.frozen? ⟨p, 1, none⟩ = false
  rows : ∃ A c, v = .slice A l.length c ∧ l.length ≤ c ∧ ∀ w', w.grownBy w' (some p) → RB w' A l
theorem Cur.lt {w : World} {p : Nat} {v : Value} {l : List Int} {pos : Int} (h : Cur w p v l pos) : p < w.heap.size := World.block_lt_of_cell? w _ h.c0
theorem Cur.below {w w' : World} {p : Nat} {v : Value} {l : List Int} {pos : Int} (h : Cur w p v l pos) (hb : Below w.heap.size w w') : Cur w' p v l pos := by
  obtain ⟨A, c, hv, hc, hr⟩ := h.rows
  exact ⟨(hb.cell (p := ⟨p, 0, none⟩) h.lt).trans h.c0, (hb.cell (p := ⟨p, 1, none⟩) h.lt).trans h.c1, (hb.frozen (p := ⟨p, 1, none⟩) h.lt).trans h.f1, A, c, hv, hc, fun w2 h2 => hr w2 ((grown_of_below hb).trans h2)⟩
theorem Cur.set {w : World} {p : Nat} {v : Value} {l : List Int} {pos : Int} (h : Cur w p v l pos) (x : Int) : Cur (w.setCell ⟨p, 1, none⟩ (.int .i64 x)) p v l x := by
  obtain ⟨A, c, hv, hc, hr⟩ := h.rows
  refine ⟨?_, ?_, ?_, A, c, hv, hc, fun w2 h2 => hr w2 ((grown_setCell w p 1 _).trans h2)⟩
  · rw [World.cell?_setCell_other _ _ _ _ (by simp)]
    exact h.c0
  · exact World.cell?_setCell_same _ _ _ h.c1
  · rw [World.frozen?_setCell]
    exact h.f1

set_option maxRecDepth 100000 in
theorem cursor_New (A : Option Addr) (c : Nat) (l : List Int) (w : World) (hr : RB w A l) (hm : l.length ≤ 140737488355328) :
    Calls Tryd.prog 31 #[.slice A l.length c] w fun e w' => (∃ p v, e = .returned (.pointer (some ⟨p, 0, none⟩)) ∧ w.heap.size ≤ p ∧ Cur w' p v l 0) ∧ Below w.heap.size w w' := by
  have HC := Lib.hid (slices_Clone A c l w hr hm)
  clear hr
  go_enter Tryd.func31, Tryd.ntmps31
  go_wp2_with fail
  refine HC.out.mono ?_
  rintro e w1 ⟨⟨v1, rfl, hv1⟩, hb1⟩
  obtain ⟨A1, c1, rfl, hc1, hr1⟩ := hv1.reads
  have HR1 := Lib.hid hr1
  have HB1 := Lib.hid hb1
  clear hv1 hb1 hr1 HC
  dsimp only
  go_wp2_with fail
  go_ret
  have hB2 := below_alloc HB1.out (.cells #[Value.slice A1 l.length c1, .int .i64 0] 85)
  refine ⟨⟨w1.heap.size, _, rfl, HB1.out.size, ?_, ?_, ?_, A1, c1, rfl, hc1, fun w' hw' => ?_⟩, hB2⟩
  · rw [World.cell?_alloc_new]; rfl
  · rw [World.cell?_alloc_new]; rfl
  · rw [World.frozen?_alloc_new]
  · refine RB.below HR1.out ⟨hw'.os, hw'.tape, hw'.output, Nat.le_trans (by simp) hw'.size, fun k hk => ?_⟩
    rw [hw'.block k (by simp; omega) (by intro e; injection e with e; omega)]
    exact (below_alloc (Below.refl w1.heap.size w1) _).block k hk

set_option maxRecDepth 100000 in
theorem cursor_Left (p : Nat) (v : Value) (l : List Int) (pos : Int) (w : World) (h : Cur w p v l pos) (h0 : 0 ≤ pos) (h1 : pos ≤ l.length) (hm : l.length ≤ 140737488355328) :
    Calls Tryd.prog 94 #[.pointer (some ⟨p, 0, none⟩)] w fun e w' => e = .returned (.int .i64 (l.length - pos)) ∧ Below w.heap.size w w' := by
  obtain ⟨A, c, rfl, hc, hr⟩ := h.rows
  have hc0 := h.c0
  have hc1 := h.c1
  have e1 : IntKind.i64.wrap ((l.length : Int) - pos) = l.length - pos := by rw [IntKind.wrap_i64]; omega
  clear h hr
  go_enter Tryd.func94, Tryd.ntmps94
  go_wp2_with fail
  refine still_tail 10 (by kernel_rfl) (by kernel_rfl) ?_
  simp only [List.take_succ_cons, List.take_zero, List.drop_succ_cons, List.drop_zero]
  still_step
  still_step
  still_step
  still_step
  still_step
  still_step
  still_step
  still_step
  still_step
  still_step
  refine wpStill_nil ?_
  go_wp2_with fail
  go_ret
  exact ⟨rfl, below_drew (Below.refl _ _)⟩

/-- what a cursor's reading gives: bytes, or why not, and where it stands -/
def takeOf (l : List Int) (pos : Nat) (n : Nat) : List Int × Int × Nat := if l.length - pos < n then ([], 3, pos) else ((l.take (pos + n)).drop pos, 0, pos + n)
def TakePost (w : World) (p : Nat) (v : Value) (l : List Int) (r : List Int × Int × Nat) (e : Ending) (w' : World) : Prop :=
  (∃ A c, e = .returned (.tuple #[.slice A r.1.length c, .int .i64 r.2.1]) ∧ r.1.length ≤ c ∧ RB w' A r.1) ∧ Cur w' p v l (r.2.2 : Nat) ∧ w.grownBy w' (some p)
set_option maxHeartbeats 1600000 in
set_option maxRecDepth 100000 in
/-- the bytes are the cursor's own -/
theorem cursor_take (p : Nat) (v : Value) (l : List Int) (pos n : Nat) (w : World) (h : Cur w p v l pos) (h1 : pos ≤ l.length) (hn : n ≤ 1000) (hm : l.length ≤ 140737488355328) :
    Calls Tryd.prog 78 #[.pointer (some ⟨p, 0, none⟩), .int .i64 n] w (TakePost w p v l (takeOf l pos n)) := by
  have cL := cursor_Left p v l pos w h (by omega) (by omega) hm
  have hH := Lib.hid h
  obtain ⟨A, c, rfl, hc, hr⟩ := h.rows
  by_cases hs : l.length - pos < n
  · have ht : takeOf l pos n = ([], 3, pos) := if_pos hs
    rw [ht]
    have b1 : decide (((l.length : Int) - pos) < n) = true := decide_eq_true (by omega)
    have HL := Lib.hid cL
    clear cL hr h ht
    go_enter Tryd.func78, Tryd.ntmps78
    go_wp2_with fail
    refine HL.out.mono ?_
    rintro e w1 ⟨rfl, hb⟩
    have HB := Lib.hid hb
    clear hb
    dsimp only
    go_wp2_with fail
    go_ret2
    exact ⟨⟨none, 0, rfl, Nat.le_refl _, Kd.C_nil _ _⟩, hH.out.below HB.out, grown_of_below HB.out⟩
  · have ht : takeOf l pos n = ((l.take (pos + n)).drop pos, 0, pos + n) := if_neg hs
    rw [ht]
    have b1 : decide (((l.length : Int) - pos) < n) = false := decide_eq_false (by omega)
    obtain ⟨E, hE⟩ : ∃ E : Int, E = ((pos + n : Nat) : Int) := ⟨_, rfl⟩
    have e1 : IntKind.i64.wrap ((pos : Int) + n) = E := by rw [IntKind.wrap_i64]; omega
    have e2 : IntKind.i64.wrap (E - n) = pos := by rw [IntKind.wrap_i64]; omega
    obtain ⟨A2, hcut, hcr, hcl⟩ := cut_mid A c l (pos : Int) E (by omega) (by omega) (by omega) hc
    have hEn : E.toNat = pos + n := by omega
    rw [hEn, Int.toNat_natCast] at hcut hcr hcl
    have HE := Lib.hid hE
    have HCR := Lib.hid hcr
    have HCL := Lib.hid hcl
    have hpn : ((l.take (pos + n)).drop pos).length = n := by rw [List.length_drop, List.length_take]; omega
    have HPN := Lib.hid hpn
    generalize ((l.take (pos + n)).drop pos) = m at *
    clear hcr hcl hE hEn hpn
    have HL := Lib.hid cL
    clear cL hr h ht
    go_enter Tryd.func78, Tryd.ntmps78
    go_wp2_with fail
    refine HL.out.mono ?_
    rintro e w1 ⟨rfl, hb⟩
    have h1' := hH.out.below hb
    have hS := h1'.set E
    have q0 := h1'.c0
    have q1 := h1'.c1
    have q2 := h1'.f1
    have HS := Lib.hid hS
    have HB := Lib.hid hb
    clear hb h1' hS
    dsimp only
    go_wp2_with fail
    have HR : Hid (∀ w', w1.grownBy w' (some p) → RB w' A l) := Lib.hid (by
      obtain ⟨A', c', hv, _, hr'⟩ := (hH.out.below HB.out).rows
      injection hv with e1 e2 e3
      subst e1
      exact hr')
    have q0' := HS.out.c0
    have q1' := HS.out.c1
    refine still_tail 14 (by kernel_rfl) (by kernel_rfl) ?_
    simp only [List.take_succ_cons, List.take_zero, List.drop_succ_cons, List.drop_zero]
    still_step
    still_step
    still_step
    still_step
    still_step
    still_step
    still_step
    still_step
    still_step
    still_step
    still_step
    still_step
    still_step
    still_step
    refine wpStill_nil ?_
    go_wp2_with fail
    go_ret2
    have hg : w1.grownBy ((w1.setCell ⟨p, 1, none⟩ (.int .i64 E)).drew) (some p) := (grown_setCell w1 p 1 _).trans (grown_of_below (below_drew (Below.refl _ _)))
    refine ⟨⟨A2, _, rfl, HCL.out, HCR.out _ (HR.out _ hg)⟩, ?_, (grown_of_below HB.out).trans hg⟩
    rw [← HE.out]
    exact HS.out.below (below_drew (Below.refl _ _))
end Go.Proofs.YtonhmaklnkidhaaDoor.G
