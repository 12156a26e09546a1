/- What the functions of package element and of the verifier do, one contract each: a part of the proof; no conditions of its own (my own text, filled from XU7.lean.tpl). -/
import Derived.Test.YtonhmaklnkidhaaDoorU6
import Derived.Lib.AppendZeros
namespace Go.Proofs.YtonhmaklnkidhaaDoor.G
open Go.RowKit Go.Proofs.YtonhmaklnkidhaaDoorW.PrintWords

def RowPost (w : World) (l : List Int) (e : Ending) (w' : World) : Prop := ∃ v, e = .returned v ∧ BRow w' w.heap.size v l ∧ Below w.heap.size w w'
theorem zeroCells_size (z : Array Value) (n : Nat) : (Builtin.zeroCells z n).size = n * z.size := by
  simp [Builtin.zeroCells]
set_option maxHeartbeats 1600000 in
set_option maxRecDepth 100000 in
/-- slices.Grow of a nil slice -/
theorem slices_Grow (n : Nat) (h0 : 0 < n) (hn : n ≤ 100000) (w : World) : Calls Tryd.prog 63 #[.slice none 0 0, .int .i64 n] w (RowPost w []) := by
  obtain ⟨i0, hi, hz0, hz1, hz2⟩ := info_parts info_u8
  have hrun := fun (ty : TypeId) => Lib.run_append_nil_zeros (P := Tryd.prog) w 22 3 ty 5 i0 (.int .u8 0) .i64 .i64 Tryd.underlying22 Tryd.underlying3 hi hz0 n h0 (by omega) (by omega) (by rw [hz2]; omega)
  have hge := grownCap_ge w n 0 5
  obtain ⟨cap, hcap⟩ : ∃ cap, cap = grownCap w n 0 5 := ⟨_, rfl⟩
  rw [← hcap] at hrun hge
  obtain ⟨Z, hZ⟩ : ∃ Z, Z = Builtin.zeroCells (Value.int .u8 0).cells n ++ Builtin.zeroCells (Value.int .u8 0).cells (cap - n) := ⟨_, rfl⟩
  have hZs : Z.size = cap := by
    rw [hZ, Array.size_append, zeroCells_size, zeroCells_size]
    have : (Value.int .u8 0).cells.size = 1 := rfl
    rw [this]
    omega
  rw [← hZ] at hrun
  have HRun := Lib.hid hrun
  clear hrun hZ hcap hi hz0 hz1 hz2
  go_enter Tryd.func63, Tryd.ntmps63
  go_wp2_with (at_builtin; refine Lib.wpList_append_run _ rfl (.tmp 20) (.tmp 21) 22 3 rfl _ _ rfl rfl _ _ (HRun.out _) ?_)
  go_ret
  have hb : Below w.heap.size w (w.drew.alloc (.cells Z 5)) := below_alloc (below_drew (Below.refl _ _)) _
  refine ⟨_, rfl, .inr ⟨w.heap.size, cap, rfl, Nat.le_refl _, by simp, Nat.zero_le _, by decide, fun j hj => ⟨?_, ?_⟩, fun j hj => absurd hj (Nat.not_lt_zero _)⟩, hb⟩
  · show ((w.alloc (.cells Z 5)).cell? ⟨w.heap.size, j, none⟩).isSome = true
    rw [World.cell?_alloc_new, Array.getElem?_eq_getElem (by omega)]; rfl
  · show (w.alloc (.cells Z 5)).frozen? ⟨w.heap.size, j, none⟩ = false
    rw [World.frozen?_alloc_new]

def sizeUp (a b : Nat) : Nat → Nat
  | 0 => 0
  | 1 => a
  | _ => a + b
def joinUp (l m : List Int) : Nat → List Int
  | 0 => []
  | 1 => l
  | _ => l ++ m
set_option maxHeartbeats 3200000 in
set_option maxRecDepth 100000 in
/-- slices.Concat of two rows of bytes -/
theorem slices_Concat (q : Nat) (A B : Option Addr) (c d : Nat) (l m : List Int) (w : World) (hl : RB w A l) (hm : RB w B m) (h0 : 0 < l.length) (h1 : l.length + m.length ≤ 10000)
    (q0 : w.cell? ⟨q, 0, none⟩ = some (.slice A l.length c)) (q1 : w.cell? ⟨q, 1, none⟩ = some (.slice B m.length d)) :
    Calls Tryd.prog 41 #[.slice (some ⟨q, 0, none⟩) 2 2] w (RowPost w (l ++ m)) := by
  have hq : q < w.heap.size := World.block_lt_of_cell? w _ q0
  have HL := Lib.hid hl
  have HM := Lib.hid hm
  clear hl hm
  obtain ⟨a, ha⟩ : ∃ a, a = l.length := ⟨_, rfl⟩
  obtain ⟨b, hb⟩ : ∃ b, b = m.length := ⟨_, rfl⟩
  rw [← ha] at q0 h0 h1
  rw [← hb] at q1 h1
  have HA := Lib.hid ha
  have HBb := Lib.hid hb
  clear ha hb
  go_enter Tryd.func41, Tryd.ntmps41
  go_wp2_with fail
  go_loop [3, 5, 11] (fun v3 _ v11 => ∃ k : Nat, k ≤ 2 ∧ v11 = .int .i64 k ∧ v3 = .int .i64 (sizeUp a b k)) (fun _ _ v => 2 - (intOf v).toNat)
  case atStart => exact ⟨0, Nat.zero_le _, rfl, rfl⟩
  case round =>
    obtain ⟨k, hk, rfl, rfl⟩ := hrel
    match k, hk with
    | 0, _ =>
      have e0 : sizeUp a b 0 = 0 := rfl
      rw [e0]
      go_wp2_with fail
      exact ⟨⟨1, by decide, rfl, by simp [sizeUp]⟩, by simp [intOf]⟩
    | 1, _ =>
      have e0 : sizeUp a b 1 = a := rfl
      rw [e0]
      go_wp2_with fail
      exact ⟨⟨2, by decide, rfl, by simp [sizeUp]⟩, by simp [intOf]⟩
    | 2, _ =>
      have e0 : sizeUp a b 2 = a + b := rfl
      rw [e0]
      go_wp2_with fail
      have cG := slices_Grow (a + b) (by omega) (by omega) w
      rw [Int.natCast_add] at cG
      refine cG.mono ?_
      rintro e w1 ⟨v1, rfl, hv1, hb1⟩
      have HV1 := Lib.hid hv1
      have HB1 := Lib.hid hb1
      clear cG hv1 hb1
      dsimp only
      go_wp2_with fail
      go_loopw [6, 8, 27] (fun v6 _ v27 wr => ∃ k : Nat, k ≤ 2 ∧ v27 = .int .i64 k ∧ Hid (BRow wr w.heap.size v6 (joinUp l m k)) ∧ Hid (Below w.heap.size w wr)) (fun _ _ v _ => 2 - (intOf v).toNat)
      case atStart => exact ⟨0, Nat.zero_le _, rfl, HV1, HB1⟩
      case round =>
        obtain ⟨k, hk, rfl, hv, hbel⟩ := hrel
        obtain ⟨wo, rfl⟩ : ∃ wo : World, wo = wr := ⟨_, rfl⟩
        match k, hk with
        | 0, _ =>
          have hc0 : wo.cell? ⟨q, 0, none⟩ = some (.slice A a c) := (hbel.out.cell (p := ⟨q, 0, none⟩) hq).trans q0
          go_wp2_with (at_builtin; refine wpList_bytes_append _ rfl (.tmp 31) (.tmp 32) rfl w.heap.size _ [] rfl hv.out A c l (by rw [← HA.out]; rfl) (RB.below HL.out hbel.out) (by simp only [List.length_nil]; rw [← HA.out]; omega) hbel.out.size ?_; intro v5 w5 hv5 hb5 hgr5 hat5; clear hgr5 hat5; have HV5 := Lib.hid hv5; have HB5 := Lib.hid (hbel.out.trans hb5); clear hv5 hb5)
          exact ⟨⟨1, by decide, rfl, HV5, HB5⟩, by simp [intOf]⟩
        | 1, _ =>
          have hc0 : wo.cell? ⟨q, 1, none⟩ = some (.slice B b d) := (hbel.out.cell (p := ⟨q, 1, none⟩) hq).trans q1
          go_wp2_with (at_builtin; refine wpList_bytes_append _ rfl (.tmp 31) (.tmp 32) rfl w.heap.size _ l rfl hv.out B d m (by rw [← HBb.out]; rfl) (RB.below HM.out hbel.out) (by rw [← HA.out, ← HBb.out]; omega) hbel.out.size ?_; intro v5 w5 hv5 hb5 hgr5 hat5; clear hgr5 hat5; have HV5 := Lib.hid hv5; have HB5 := Lib.hid (hbel.out.trans hb5); clear hv5 hb5)
          exact ⟨⟨2, by decide, rfl, HV5, HB5⟩, by simp [intOf]⟩
        | 2, _ =>
          go_wp2_with fail
          go_ret
          exact ⟨_, rfl, hv.out, hbel.out⟩
end Go.Proofs.YtonhmaklnkidhaaDoor.G
