/- What the functions of package element and of the verifier do, one contract each: a part of the proof; no conditions of its own (my own text, filled from XU16.lean.tpl). -/
import Derived.Test.YtonhmaklnkidhaaDoorU15
namespace Go.Proofs.YtonhmaklnkidhaaDoor.G
open Go.RowKit Go.Proofs.YtonhmaklnkidhaaDoorW.PrintWords

theorem need_q (a : Int) : (IntKind.u64.wrap a).tmod 9 = 0 ∨ (IntKind.u64.wrap a).tmod 9 = 1 ∨ (IntKind.u64.wrap a).tmod 9 = 2 ∨ (IntKind.u64.wrap a).tmod 9 = 3 ∨ (IntKind.u64.wrap a).tmod 9 = 4 ∨ (IntKind.u64.wrap a).tmod 9 = 5 ∨ (IntKind.u64.wrap a).tmod 9 = 6 ∨ (IntKind.u64.wrap a).tmod 9 = 7 ∨ (IntKind.u64.wrap a).tmod 9 = 8 := by
  have h0 : 0 ≤ IntKind.u64.wrap a := by rw [IntKind.wrap_u64]; omega
  obtain ⟨m, hm⟩ := Int.eq_ofNat_of_zero_le h0
  rw [hm]
  have : ((m : Int)).tmod 9 = ((m % 9 : Nat) : Int) := rfl
  rw [this]
  have := Nat.mod_lt m (show 0 < 9 by decide)
  omega
theorem kE_row3 {W : World} {q c0 c1 c2 : Nat} {n0 n1 n2 : Int} {B0 B1 B2 : Option Addr} {d0 d1 d2 : List Int} (h0 : W.cell? ⟨q, 0, none⟩ = some (.int .i64 n0)) (h1 : W.cell? ⟨q, 1, none⟩ = some (.slice B0 d0.length c0)) (h2 : W.cell? ⟨q, 2, none⟩ = some (.int .i64 n1)) (h3 : W.cell? ⟨q, 3, none⟩ = some (.slice B1 d1.length c1)) (h4 : W.cell? ⟨q, 4, none⟩ = some (.int .i64 n2)) (h5 : W.cell? ⟨q, 5, none⟩ = some (.slice B2 d2.length c2))
    (l0 : d0.length ≤ c0) (l1 : d1.length ≤ c1) (l2 : d2.length ≤ c2) (r0 : RB W B0 d0) (r1 : RB W B1 d1) (r2 : RB W B2 d2) : Kd.C kE W (some ⟨q, 0, none⟩) 3 [(n0, d0), (n1, d1), (n2, d2)] := by
  refine kE_of (fs := [(n0, d0), (n1, d1), (n2, d2)]) (by simp) (fun k hk => ?_)
  match k, hk with
  | 0, _ => exact ⟨B0, c0, h0, h1, l0, r0⟩
  | 1, _ => exact ⟨B1, c1, h2, h3, l1, r1⟩
  | 2, _ => exact ⟨B2, c2, h4, h5, l2, r2⟩
theorem RB.lit1 (w : World) (o1 : Obj) (l : List Int) (C : Array Value) (fr : Nat × Nat) (hC : C = (nums .u8 l).toArray) (hl : l.length ≤ 9223372036854775807) : RB ((w.alloc o1).alloc (.cells C 5 fr)) (some ⟨w.heap.size + 1, 0, none⟩) l := by
  have h := RB.lit (w.alloc o1) l C fr hC hl
  have e : (w.alloc o1).heap.size = w.heap.size + 1 := by simp
  rw [e] at h
  exact h
theorem RB.lit2 (w : World) (o1 o2 : Obj) (l : List Int) (C : Array Value) (fr : Nat × Nat) (hC : C = (nums .u8 l).toArray) (hl : l.length ≤ 9223372036854775807) : RB (((w.alloc o1).alloc o2).alloc (.cells C 5 fr)) (some ⟨w.heap.size + 2, 0, none⟩) l := by
  have h := RB.lit ((w.alloc o1).alloc o2) l C fr hC hl
  have e : ((w.alloc o1).alloc o2).heap.size = w.heap.size + 2 := by simp
  rw [e] at h
  exact h
theorem RB.lit5 (w : World) (o1 o2 o3 o4 o5 : Obj) (l : List Int) (C : Array Value) (fr : Nat × Nat) (hC : C = (nums .u8 l).toArray) (hl : l.length ≤ 9223372036854775807) : RB ((((((w.alloc o1).alloc o2).alloc o3).alloc o4).alloc o5).alloc (.cells C 5 fr)) (some ⟨w.heap.size + 5, 0, none⟩) l := by
  have h := RB.lit (((((w.alloc o1).alloc o2).alloc o3).alloc o4).alloc o5) l C fr hC hl
  have e : (((((w.alloc o1).alloc o2).alloc o3).alloc o4).alloc o5).heap.size = w.heap.size + 5 := by simp
  rw [e] at h
  exact h
end Go.Proofs.YtonhmaklnkidhaaDoor.G
