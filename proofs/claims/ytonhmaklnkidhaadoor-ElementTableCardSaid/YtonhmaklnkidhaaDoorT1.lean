/- What the functions of package element and of the verifier do, one contract each: a part of the proof; no conditions of its own (my own text, filled from XT1.lean.tpl). -/
import Derived.Test.YtonhmaklnkidhaaDoorG11
import Derived.Test.YtonhmaklnkidhaaDoorWEqStruct
import Derived.BigGuard
namespace Go.Proofs.YtonhmaklnkidhaaDoor.G
open Go.RowKit Go.Proofs.YtonhmaklnkidhaaDoorW.PrintWords

theorem eqFormat (d : Nat) (w : World) (x0 x1 x2 x3 y0 y1 y2 y3 : Int) :
    (Op.equalIn (d + 2) 32 (.agg #[.int .i64 x0, .int .i64 x1, .int .i64 x2, .int .i64 x3]) (.agg #[.int .i64 y0, .int .i64 y1, .int .i64 y2, .int .i64 y3])).run Tryd.prog w = .ok (x0 == y0 && (x1 == y1 && (x2 == y2 && x3 == y3))) w := by
  refine eqA_of Tryd.underlying32 (by kernel_rfl) ?_
  refine eqf_cons (by rfl) (by go_simp; rfl) (by go_simp; rfl) (by go_simp) ?_
  refine eqf_cons (by rfl) (by go_simp; rfl) (by go_simp; rfl) (by go_simp) ?_
  refine eqf_cons (by rfl) (by go_simp; rfl) (by go_simp; rfl) (by go_simp) ?_
  exact eqf_last (by rfl) (by go_simp; rfl) (by go_simp; rfl) (by go_simp)

theorem fmt_is {no : Int} (h : isEl no = true) : (fmtOf no).no = no ∧ 0 < (fmtOf no).most ∧ 0 ≤ (fmtOf no).digits ∧ (fmtOf no).digits ≤ 4 := by
  have ht : ∀ f ∈ table, 0 < f.most ∧ 0 ≤ f.digits ∧ f.digits ≤ 4 := by decide
  unfold isEl at h
  unfold fmtOf
  cases hc : table.find? fun f => f.no == no with
  | none => 
    rw [List.find?_eq_none] at hc
    rw [List.any_eq_true] at h
    obtain ⟨x, hx, hx2⟩ := h
    exact absurd hx2 (hc x hx)
  | some f => exact ⟨by simpa using List.find?_some hc, ht f (List.mem_of_find?_eq_some hc)⟩
theorem fmt_not {no : Int} (h : isEl no = false) : fmtOf no = ⟨0, 0, 0, 0⟩ := by
  unfold isEl at h
  unfold fmtOf
  cases hc : table.find? fun f => f.no == no with
  | none => rfl
  | some f =>
    have := List.any_eq_false.1 h f (List.mem_of_find?_eq_some hc)
    exact absurd (List.find?_some hc) this
theorem spare_is {no : Int} (h : spareB no = true) : isEl no = true := by
  simp only [spareB, Bool.or_eq_true, beq_iff_eq] at h
  rcases h with rfl | rfl | rfl | rfl | rfl | rfl | rfl | rfl <;> decide

/-- how the tests of a spare element fall out -/
theorem spare_cases (A : Int) :
    (spareB A = true ∧ A = 43) ∨ (spareB A = true ∧ (A == 43) = false ∧ decide (60 ≤ A) = true ∧ decide (A ≤ 63) = true) ∨ (spareB A = true ∧ A = 102) ∨ (spareB A = true ∧ A = 103) ∨ (spareB A = true ∧ A = 120) ∨
      (spareB A = false ∧ (A == 43) = false ∧ (A == 102) = false ∧ (A == 103) = false ∧ (A == 120) = false ∧ (decide (60 ≤ A) = false ∨ (decide (60 ≤ A) = true ∧ decide (A ≤ 63) = false))) := by
  by_cases h1 : A = 43
  · subst h1; exact .inl ⟨rfl, rfl⟩
  by_cases h2 : A = 102
  · subst h2; exact .inr (.inr (.inl ⟨rfl, rfl⟩))
  by_cases h3 : A = 103
  · subst h3; exact .inr (.inr (.inr (.inl ⟨rfl, rfl⟩)))
  by_cases h4 : A = 120
  · subst h4; exact .inr (.inr (.inr (.inr (.inl ⟨rfl, rfl⟩))))
  by_cases h5 : 60 ≤ A ∧ A ≤ 63
  · have : A = 60 ∨ A = 61 ∨ A = 62 ∨ A = 63 := by omega
    rcases this with rfl | rfl | rfl | rfl <;> exact .inr (.inl (by decide))
  · refine .inr (.inr (.inr (.inr (.inr ⟨?_, ?_, ?_, ?_, ?_, ?_⟩))))
    · simp [spareB, h1, h2, h3, h4]; omega
    · simpa using h1
    · simpa using h2
    · simpa using h3
    · simpa using h4
    · by_cases h6 : 60 ≤ A
      · exact .inr ⟨by simpa using h6, by simp; omega⟩
      · exact .inl (by simpa using h6)
theorem fmt_eq {A B : Int} (ha : isEl A = true) (hb : isEl B = true) :
    ((fmtOf A).no == (fmtOf B).no && ((fmtOf A).kind == (fmtOf B).kind && ((fmtOf A).digits == (fmtOf B).digits && (fmtOf A).most == (fmtOf B).most))) = (A == B) := by
  by_cases h : A = B
  · subst h; simp
  · rw [(fmt_is ha).1, (fmt_is hb).1, beq_eq_false_iff_ne.2 h, Bool.false_and]

attribute [local go_sem high] eqFormat
set_option maxHeartbeats 1000000 in
set_option maxRecDepth 100000 in
theorem tab_walk (a b : Int) (w : World) : Calls Tryd.prog 4 #[.int .i64 a, .int .i64 b] w fun e w' => e = .returned (.bool true) ∧ Below w.heap.size w w' := by
  go_enter Tryd.func4, Tryd.ntmps4
  simp only [List.append]
  go_wp2_with fail
  generalize wrap64 ((IntKind.u64.wrap a).tmod 130) = A
  generalize wrap64 ((IntKind.u64.wrap b).tmod 130) = B
  refine (element_Of A _).mono ?_
  rintro e w1 ⟨rfl, hb⟩
  have HB1 := Lib.hid hb
  clear hb
  go_wp2_with fail
  have hi := @fmt_is A
  have hj := @fmt_is B
  have hn := @fmt_not A
  have hs := @spare_is A
  have hab := @fmt_eq A B
  have hsp : ∀ W, Calls Tryd.prog 13 #[.int .i64 A] W fun e w' => e = .returned (.bool (spareB A)) ∧ W = w' := element_Spare A
  refine (element_Of B _).mono ?_
  rintro e w2 ⟨rfl, hb⟩
  generalize fmtOf A = F at *
  generalize fmtOf B = G at *
  obtain ⟨fn, fk, fd, fm⟩ := F
  obtain ⟨gn, gk, gd, gm⟩ := G
  simp only at hi hj hab hn hb ⊢
  have hz1 : w1.heap.size < w2.heap.size := Nat.lt_of_lt_of_le (by simp) hb.size
  have hz1' : w1.heap.size < w2.heap.size + 1 := by omega
  have hl1 : w.heap.size ≤ w1.heap.size := HB1.out.size
  obtain ⟨hc2, hf2⟩ := bcell hb
  have HB2 := Lib.hid (below_then (below_alloc HB1.out _) (by simp; omega) hb)
  clear hb
  have HSP := Lib.hid hsp
  clear hsp hl1
  obtain ⟨hn1, hn2, hn3, hn4⟩ : Hid (isEl A = false → fn = 0) ∧ Hid (isEl A = false → fk = 0) ∧ Hid (isEl A = false → fd = 0) ∧ Hid (isEl A = false → fm = 0) := by
    refine ⟨Lib.hid ?_, Lib.hid ?_, Lib.hid ?_, Lib.hid ?_⟩ <;> intro h <;> have := hn h <;> injection this
  have hi2 : isEl A = true → (fn == A) = true ∧ decide (0 < fm) = true ∧ decide (0 ≤ fd) = true ∧ decide (fd ≤ 4) = true := by
    intro h
    obtain ⟨x1, x2, x3, x4⟩ := hi h
    exact ⟨beq_iff_eq.2 x1, decide_eq_true x2, decide_eq_true x3, decide_eq_true x4⟩
  have HI := Lib.hid hi2
  have HAB := Lib.hid hab
  have HS := Lib.hid hs
  have HSC := Lib.hid (spare_cases A)
  clear hi hi2 hj hab hs hn
  generalize isEl A = ia at *
  generalize isEl B = ib at *
  generalize spareB A = sp at *
  have HAW := Lib.hid awake16
  rcases HSC.out with ⟨rfl, rfl⟩ | ⟨rfl, h1, h2, h3⟩ | ⟨rfl, rfl⟩ | ⟨rfl, rfl⟩ | ⟨rfl, rfl⟩ | ⟨rfl, h1, h2, h3, h4, h6⟩
  case inr.inr.inr.inr.inr =>
    clear HS HSC
    cases ia
    · obtain rfl := hn1.out rfl
      obtain rfl := hn2.out rfl
      obtain rfl := hn3.out rfl
      obtain rfl := hn4.out rfl
      clear HI HAB hn1 hn2 hn3 hn4
      rcases h6 with h6 | ⟨h6, h7⟩
      all_goals
        go_wp2_with fail
        refine (HAW.out _).mono ?_
        rintro e w3 ⟨rfl, hb⟩
        obtain ⟨hc3, hf3⟩ := bcell hb
        have hz3 : w1.heap.size < w3.heap.size := Nat.lt_of_lt_of_le (by simp; omega) hb.size
        have HB3 := Lib.hid (below_then (below_alloc HB2.out _) (by have := HB2.out.size; simp; omega) hb)
        clear hb
        go_wp2_with fail
        refine (HSP.out _).mono ?_
        rintro e w' ⟨rfl, rfl⟩
        clear hf2 hf3
        dsimp only
        go_wp2_with fail
        go_ret
        exact ⟨rfl, HB3.out⟩
    · obtain ⟨i1, i2, i3, i4⟩ := HI.out rfl
      clear HI hn1 hn2 hn3 hn4
      cases ib
      · clear HAB
        rcases h6 with h6 | ⟨h6, h7⟩
        all_goals
          go_wp2_with fail
          refine (HAW.out _).mono ?_
          rintro e w3 ⟨rfl, hb⟩
          obtain ⟨hc3, hf3⟩ := bcell hb
          have hz3 : w1.heap.size < w3.heap.size := Nat.lt_of_lt_of_le (by simp; omega) hb.size
          have HB3 := Lib.hid (below_then (below_alloc HB2.out _) (by have := HB2.out.size; simp; omega) hb)
          clear hb
          go_wp2_with fail
          refine (HSP.out _).mono ?_
          rintro e w' ⟨rfl, rfl⟩
          clear hf2 hf3
          dsimp only
          go_wp2_with fail
          go_ret
          exact ⟨rfl, HB3.out⟩
      · have i5 := HAB.out rfl rfl
        clear HAB
        rcases h6 with h6 | ⟨h6, h7⟩
        all_goals
          go_wp2_with fail
          refine (HAW.out _).mono ?_
          rintro e w3 ⟨rfl, hb⟩
          obtain ⟨hc3, hf3⟩ := bcell hb
          have hz3 : w1.heap.size < w3.heap.size := Nat.lt_of_lt_of_le (by simp; omega) hb.size
          have hz4 : w2.heap.size < w3.heap.size := Nat.lt_of_lt_of_le (by simp) hb.size
          have HB3 := Lib.hid (below_then (below_alloc HB2.out _) (by have := HB2.out.size; simp; omega) hb)
          clear hb
          go_wp2_with fail
          refine (HSP.out _).mono ?_
          rintro e w' ⟨rfl, rfl⟩
          clear hf2 hf3
          dsimp only
          go_wp2_with fail
          go_ret
          exact ⟨rfl, HB3.out⟩
  all_goals
    obtain rfl := HS.out rfl
    obtain ⟨i1, i2, i3, i4⟩ := HI.out rfl
    have i5 := HAB.out rfl
    clear HS HSC HI HAB hn1 hn2 hn3 hn4
    cases ib
    · clear i5
      go_wp2_with fail
      refine (HAW.out _).mono ?_
      rintro e w3 ⟨rfl, hb⟩
      obtain ⟨hc3, hf3⟩ := bcell hb
      have hz3 : w1.heap.size < w3.heap.size := Nat.lt_of_lt_of_le (by simp; omega) hb.size
      have HB3 := Lib.hid (below_then (below_alloc HB2.out _) (by have := HB2.out.size; simp; omega) hb)
      clear hb
      go_wp2_with fail
      refine (HSP.out _).mono ?_
      rintro e w' ⟨rfl, rfl⟩
      clear hf2 hf3
      dsimp only
      go_wp2_with fail
      go_ret
      exact ⟨rfl, HB3.out⟩
    · have i6 := i5 rfl
      clear i5
      go_wp2_with fail
      refine (HAW.out _).mono ?_
      rintro e w3 ⟨rfl, hb⟩
      obtain ⟨hc3, hf3⟩ := bcell hb
      have hz3 : w1.heap.size < w3.heap.size := Nat.lt_of_lt_of_le (by simp; omega) hb.size
      have hz4 : w2.heap.size < w3.heap.size := Nat.lt_of_lt_of_le (by simp) hb.size
      have HB3 := Lib.hid (below_then (below_alloc HB2.out _) (by have := HB2.out.size; simp; omega) hb)
      clear hb
      go_wp2_with fail
      refine (HSP.out _).mono ?_
      rintro e w' ⟨rfl, rfl⟩
      clear hf2 hf3
      dsimp only
      go_wp2_with fail
      go_ret
      exact ⟨rfl, HB3.out⟩
/-- the law as the row wants it -/
theorem tab_law (a : Int) (_ : (Lit.int .i64 a).wf = true) (b : Int) (_ : (Lit.int .i64 b).wf = true) (w : World) (_ : Pow w) :
    Calls Tryd.prog 4 #[.int .i64 a, .int .i64 b] w fun e w' => e = .returned (.bool true) ∧ Below w.heap.size w w' := tab_walk a b w
end Go.Proofs.YtonhmaklnkidhaaDoor.G
