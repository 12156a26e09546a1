/- What the functions of package element and of the verifier do, one contract each: a part of the proof; no conditions of its own (my own text, filled from XV4.lean.tpl). -/
import Derived.Test.YtonhmaklnkidhaaDoorV3
import Derived.Deep.SlicePairs
import Derived.OpenShut
import Derived.ChangeArms
namespace Go.Proofs.YtonhmaklnkidhaaDoor.G
open Go.ChangeShapes Go.WideShapes Go.RowKit Go.Proofs.YtonhmaklnkidhaaDoorW.PrintWords

/-! ### arguments that come in -/
theorem byt_of {l : List Int} (h : ∀ x ∈ l, (Lit.int .u8 x).wf = true) : Byt l := fun x hx => by
  have h2 : IntKind.u8.min ≤ x ∧ x ≤ IntKind.u8.max := by simpa [Lit.wf] using h x hx
  exact h2
section
variable {H : Type} {enc : TypeId × Value → H} {w : World} {base : Nat} {sp : Nat → Bool} {held : Bool}
/-- bytes -/
theorem open_bytes {fuel : Nat} {v : Value} {x : DataW H × List MemPlace} (h : DataW.trod enc Tryd.prog w base sp held fuel 22 [v] = some x) :
    ∃ A c l, v = .slice A l.length c ∧ RB w A l ∧ l.length ≤ c ∧ Byt l ∧ l.length ≤ maxLen := by
  rcases open_ints Tryd.underlying22 Tryd.underlying5 (by kernel_rfl) h with ⟨hcs, _⟩ | ⟨a, len, cap, zs, hcs, _, hl, hm, hz, _, hcell, hwz⟩
  · obtain rfl : v = .slice none 0 0 := by simpa using hcs
    exact ⟨none, 0, [], rfl, Kd.C_nil _ _, Nat.le_refl _, (fun x hx => by cases hx), Nat.zero_le _⟩
  · obtain rfl : v = .slice (some a) len cap := by simpa using hcs
    have hle : len ≤ zs.length := by
      rw [hz]
      split
      · exact hl
      · exact Nat.le_refl _
    have e : (zs.take len).length = len := by rw [List.length_take]; omega
    have hm' : len ≤ maxLen := Nat.le_trans hl hm
    refine ⟨some a, cap, zs.take len, by rw [e], Kd.C_of_reads (d := (0 : Int)) (h1 := fun _ => rfl) ?_, by rw [e]; exact hl, byt_of fun y hy => hwz y (List.mem_of_mem_take hy), by rw [e]; exact hm'⟩
    refine ⟨rfl, by rw [e]; simpa [maxLen] using hm', fun _ => ⟨a, rfl, fun j hj => ?_⟩⟩
    rw [e] at hj
    rw [hcell j (by omega)]
    simp [List.getD, List.getElem?_take, hj]
set_option maxRecDepth 100000 in
/-- elements -/
theorem open_els {fuel : Nat} {v : Value} {x : DataW H × List MemPlace} (h : DataW.trod enc Tryd.prog w base sp held fuel 44 [v] = some x) :
    ∃ A c fs, v = .slice A (fs : List (Int × List Int)).length c ∧ Kd.C kE w A fs.length fs ∧ fs.length ≤ c ∧ ∀ y ∈ fs, (Lit.int .i64 y.1).wf = true ∧ Byt y.2 ∧ y.2.length ≤ maxLen := by
  rcases Deep.open_slice_pairs Tryd.underlying44 Tryd.underlying26 (by kernel_rfl) rfl rfl (by kernel_rfl) (by kernel_rfl) h with ⟨hcs, _⟩ | ⟨a, len, cap, m, n, V0, V1, D0, D1, P0, P1, hcs, _, hl, hm, hmm, _, hx⟩
  · obtain rfl : v = .slice none 0 0 := by simpa using hcs
    exact ⟨none, 0, [], rfl, Kd.C_nil _ _, Nat.le_refl _, (fun x hx => by cases hx)⟩
  · obtain rfl : v = .slice (some a) len cap := by simpa using hcs
    have hlm : len ≤ m := by
      rw [hmm]
      split
      · exact hl
      · exact Nat.le_refl _
    have each : ∀ i, i < len → ∃ q : Int × List Int, (∃ B c, V0 i = .int .i64 q.1 ∧ V1 i = .slice B q.2.length c ∧ RB w B q.2 ∧ q.2.length ≤ c) ∧ (Lit.int .i64 q.1).wf = true ∧ Byt q.2 ∧ q.2.length ≤ maxLen := by
      intro i hi
      obtain ⟨_, _, h2, h3⟩ := hx i (by omega)
      obtain ⟨k, hk, _, hw⟩ := DataW.trod_int Tryd.underlying3 h2
      obtain ⟨B, c, l, hb, hr, hc, hy, hmx⟩ := open_bytes h3
      exact ⟨(k, l), ⟨B, c, by simpa using hk, hb, hr, hc⟩, hw, hy, hmx⟩
    obtain ⟨q, hq⟩ := Deep.choose_lt each
    have e : ((List.range len).map q).length = len := by simp
    have hm' : len ≤ maxLen := Nat.le_trans hl hm
    refine ⟨some a, cap, (List.range len).map q, by rw [e], ?_, by rw [e]; exact hl, fun y hy => ?_⟩
    · refine ⟨rfl, by rw [e]; simpa [maxLen] using hm', fun _ => ⟨a, rfl, fun j p hj => ?_⟩⟩
      obtain ⟨hj1, hj2⟩ := List.getElem?_eq_some_iff.1 hj
      rw [e] at hj1
      rw [List.getElem_map, List.getElem_range] at hj2
      subst hj2
      obtain ⟨⟨B, c, g0, g1, g2, g3⟩, _⟩ := hq j hj1
      obtain ⟨c0, c1, _, _⟩ := hx j (by omega)
      rw [g0] at c0
      rw [g1] at c1
      refine ⟨[.int .i64 (q j).1, .slice B (q j).2.length c], rfl, ⟨[.int .i64 (q j).1], [.slice B (q j).2.length c], rfl, rfl, ⟨B, c, rfl, g3, g2⟩⟩, fun i u hi => ?_⟩
      have hsz : kE.sz = 2 := rfl
      rw [hsz]
      match i, hi with
      | 0, hi =>
        have : Value.int .i64 (q j).1 = u := by simpa using hi
        rw [← this]
        exact c0
      | 1, hi =>
        have : Value.slice B (q j).2.length c = u := by simpa using hi
        rw [← this]
        exact c1
      | i + 2, hi => simp at hi
    · obtain ⟨i, hi, rfl⟩ := List.mem_map.1 hy
      obtain ⟨_, h1, h2, h3⟩ := hq i (List.mem_range.1 hi)
      exact ⟨h1, h2, h3⟩
set_option maxRecDepth 100000 in
/-- a message -/
theorem open_iso {v : Value} {d : DataW H} {ps : List MemPlace} (hv : Value.okWide Tryd.prog w .any base 46 v) {b0 : Nat} (h : DataW.Trod enc Tryd.prog w b0 sp held 46 v d ps) :
    ∃ s A c fs, v = .agg #[.string s, .slice A (fs : List (Int × List Int)).length c] ∧ Kd.C kE w A fs.length fs ∧ fs.length ≤ c ∧ s.size ≤ maxLen ∧ ∀ y ∈ fs, (Lit.int .i64 y.1).wf = true ∧ Byt y.2 ∧ y.2.length ≤ maxLen := by
  obtain ⟨cs, rfl, hcs⟩ := okWide_struct Tryd.underlying46 hv
  obtain ⟨fuel, hf⟩ := h
  obtain ⟨xs, n, _, _, hl, hxl, hg⟩ := DataW.trod_struct Tryd.underlying46 hf
  have c2 : Tryd.prog.cellsOf 46 = 2 := by kernel_rfl
  rw [c2] at hcs
  match cs, hcs with
  | ⟨[v0, v1]⟩, _ =>
    match xs, hxl with
    | [y0, y1], _ =>
      have g0 := hg 0 _ rfl
      have g1 := hg 1 _ rfl
      have cS : Tryd.prog.cellsOf 9 = 1 := by kernel_rfl
      have cE : Tryd.prog.cellsOf 44 = 1 := by kernel_rfl
      simp [Value.cells, cS, cE] at g0 g1
      obtain ⟨s, hs, _, hsz⟩ := DataW.trod_string Tryd.underlying9 g0
      obtain ⟨A, c, fs, hb, hr, hc, hy⟩ := open_els g1
      exact ⟨s, A, c, fs, by simp at hs; rw [hs, hb], hr, hc, hsz, hy⟩
end
end Go.Proofs.YtonhmaklnkidhaaDoor.G
