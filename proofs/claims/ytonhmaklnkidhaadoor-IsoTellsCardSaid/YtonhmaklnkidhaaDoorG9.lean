/- What the functions of package element and of the verifier do, one contract each: a part of the proof; no conditions of its own (my own text, filled from XG9.lean.tpl). -/
import Derived.Test.YtonhmaklnkidhaaDoorG8
import Derived.Maps.RangeWalk
namespace Go.Proofs.YtonhmaklnkidhaaDoor.G
open Go.RowKit Go.Proofs.YtonhmaklnkidhaaDoorW.PrintWords

/-- a row of bytes that may be appended to: one's own, or one that a conversion has made -/
def BRow (w : World) (B : Nat) (v : Value) (l : List Int) : Prop :=
  (v = .slice none 0 0 ∧ l = []) ∨
  ∃ g cap, v = .slice (some ⟨g, 0, none⟩) l.length cap ∧ B ≤ g ∧ g < w.heap.size ∧ l.length ≤ cap ∧ l.length ≤ 9223372036854775807 ∧
    (∀ j, j < cap → (w.cell? ⟨g, j, none⟩).isSome = true ∧ w.frozen? ⟨g, j, none⟩ = false) ∧ (∀ j (h : j < l.length), w.cell? ⟨g, j, none⟩ = some (.int .u8 l[j]))
theorem BRow.nil_ (w : World) (B : Nat) : BRow w B (.slice none 0 0) [] := .inl ⟨rfl, rfl⟩
theorem BRow.reads {w : World} {B : Nat} {v : Value} {l : List Int} (h : BRow w B v l) : ∃ A c, v = .slice A l.length c ∧ l.length ≤ c ∧ RB w A l := by
  rcases h with ⟨rfl, rfl⟩ | ⟨g, cap, rfl, _, _, hc, hm, _, hcell⟩
  · exact ⟨none, 0, rfl, Nat.le_refl _, rfl, by decide, fun h => absurd h (by simp)⟩
  · refine ⟨_, cap, rfl, hc, Kd.C_of_reads (enc := Value.int .u8) (d := (0 : Int)) (h1 := fun _ => rfl) ⟨rfl, hm, fun _ => ⟨_, rfl, fun j hj => ?_⟩⟩⟩
    rw [add_plain, hcell j hj]
    simp [List.getD_eq_getElem?_getD, hj]
theorem BRow.below {w w1 : World} {B : Nat} {v : Value} {l : List Int} (h : BRow w B v l) (hb : Below w.heap.size w w1) : BRow w1 B v l := by
  rcases h with h | ⟨g, cap, hv, hB, hg, hc, hm, hs, hcell⟩
  · exact .inl h
  · exact .inr ⟨g, cap, hv, hB, Nat.lt_of_lt_of_le hg hb.size, hc, hm, fun j hj => by rw [hb.cell (p := ⟨g, j, none⟩) hg, hb.frozen (p := ⟨g, j, none⟩) hg]; exact hs j hj, fun j hj => by rw [hb.cell (p := ⟨g, j, none⟩) hg]; exact hcell j hj⟩
theorem BRow.other {w w1 : World} {B : Nat} {v : Value} {l : List Int} (h : BRow w B v l) {row : Option Nat} (hg : w.grownBy w1 row) (hne : v.ownBlock = none ∨ v.ownBlock ≠ row) : BRow w1 B v l := by
  rcases h with h | ⟨g, cap, rfl, hB, hgs, hc, hm, hs, hcell⟩
  · exact .inl h
  · have hr : some g ≠ row := by
      rcases hne with h | h
      · simp [Value.ownBlock] at h
      · simpa [Value.ownBlock] using h
    exact .inr ⟨g, cap, rfl, hB, Nat.lt_of_lt_of_le hgs hg.size, hc, hm, fun j hj => by rw [hg.cell_far ⟨g, j, none⟩ hgs hr, hg.frozen_far ⟨g, j, none⟩ hgs hr]; exact hs j hj, fun j hj => by rw [hg.cell_far ⟨g, j, none⟩ hgs hr]; exact hcell j hj⟩
theorem BRow.less {w : World} {B C : Nat} {v : Value} {l : List Int} (h : BRow w B v l) (hC : C ≤ B) : BRow w C v l :=
  h.imp id fun ⟨g, cap, hv, hB, r⟩ => ⟨g, cap, hv, Nat.le_trans hC hB, r⟩
theorem BRow.base_ {w : World} {B : Nat} {v : Value} {l : List Int} (h : BRow w B v l) : ∀ k, v.ownBlock = some k → B ≤ k := by
  rcases h with ⟨rfl, _⟩ | ⟨g, cap, rfl, hB, _⟩ <;> intro k hk
  · simp [Value.ownBlock] at hk
  · have : g = k := by simpa [Value.ownBlock] using hk
    omega
theorem BRow.of_own {w : World} {B : Nat} {v : Value} {l : List Int} (h : w.ownsRow B 5 1 v l.length (nums .u8 l)) : BRow w B v l := by
  rcases h.2 with ⟨rfl, hn⟩ | ⟨g, cap, cur, hv, hB, hh, hn, hm, hs, ht⟩
  · exact .inl ⟨rfl, List.eq_nil_of_length_eq_zero hn⟩
  · have hg : g < w.heap.size := (Array.getElem?_eq_some_iff.1 hh).1
    have hcell : ∀ j, w.cell? ⟨g, j, none⟩ = cur[j]? := fun j => cell_of_row w g j cur _ (0, 0) hh
    refine .inr ⟨g, cap, hv, hB, hg, hn, by simp only [maxLen] at hm; omega, fun j hj => ⟨?_, ?_⟩, fun j hj => ?_⟩
    · rw [hcell, Array.getElem?_eq_getElem (by omega)]; rfl
    · simp [World.frozen?, hh]
    · rw [hcell]
      have h1 : (nums .u8 l)[j]? = some (.int .u8 l[j]) := by simp [nums, hj]
      rw [← ht, List.getElem?_take_of_lt (by omega)] at h1
      simpa using h1
theorem BRow.of_R {w : World} {B : Nat} {v : Value} {l : List Int} (h : OB w B v l) : BRow w B v l := BRow.of_own (Kd.own_of_R h)
/-- '[]byte(s)' -/
theorem conv_run (s : ByteArray) (W : World) : (convert 9 22 (.string s)).run Tryd.prog W = .ok (.slice (some ⟨W.heap.size, 0, none⟩) s.size (grownCap W s.size 0 5)) (Lib.bytesWorld W 5 s) :=
  print_bytes 9 22 5 Tryd.underlying9 Tryd.underlying22 Tryd.underlying5 s W
theorem BRow.conv (W : World) (s : ByteArray) (hs : s.size ≤ 9223372036854775807) : BRow (Lib.bytesWorld W 5 s) W.heap.size (.slice (some ⟨W.heap.size, 0, none⟩) s.size (grownCap W s.size 0 5)) (bytesOf s) := by
  have hge := grownCap_ge W s.size 0 5
  have hsz : (Lib.bytesCells W 5 s).size = grownCap W s.size 0 5 := by
    have : s.data.size = s.size := rfl
    simp [Lib.bytesCells]
    omega
  have hcell : ∀ j, (Lib.bytesWorld W 5 s).cell? ⟨W.heap.size, j, none⟩ = (Lib.bytesCells W 5 s)[j]? := fun j => cell_of_row _ W.heap.size j _ _ _ (Lib.bytesWorld_at_new W 5 s)
  refine .inr ⟨W.heap.size, _, by rw [bytesOf_length], Nat.le_refl _, by rw [Lib.bytesWorld_size]; omega, by rw [bytesOf_length]; exact hge, by rw [bytesOf_length]; exact hs, fun j hj => ⟨?_, ?_⟩, fun j hj => ?_⟩
  · rw [hcell, Array.getElem?_eq_getElem (by omega)]; rfl
  · simp [World.frozen?, Lib.bytesWorld_at_new, hsz]
    omega
  · rw [bytesOf_length] at hj
    rw [Lib.bytesWorld_cell W 5 s j hj]
    have h' : j < s.data.toList.length := by rw [data_length]; exact hj
    simp [bytesOf, List.getD_eq_getElem?_getD, List.getElem?_eq_getElem h']
theorem grown_setCell (w : World) (b i : Nat) (v : Value) : w.grownBy (w.setCell ⟨b, i, none⟩ v) (some b) :=
  ⟨rfl, rfl, rfl, by simp [World.setCell], fun k _ hk => Below.heap_setCell _ _ _ k (fun e => hk (by rw [e]))⟩
theorem grown_setCells (b : Nat) : ∀ (vs : List Value) (o : Nat) (w : World), w.grownBy (w.setCells b o vs) (some b)
  | [], _, w => World.grownBy.refl w _
  | v :: r, o, w => (grown_setCell w b o v).trans (grown_setCells b r (o + 1) _)
theorem some_setCells (b : Nat) : ∀ (vs : List Value) (o : Nat) (w : World) (q : Addr), (w.cell? q).isSome = true → ((w.setCells b o vs).cell? q).isSome = true
  | [], _, _, _, h => h
  | v :: r, o, w, q, h => by
    rw [World.setCells]
    obtain ⟨u, hu⟩ := Option.isSome_iff_exists.mp h
    obtain ⟨u', hu'⟩ := cell?_setCell_some (p := ⟨b, o, none⟩) (x := v) hu
    exact some_setCells b r (o + 1) _ q (by rw [hu']; rfl)
section
variable {ops : Array Oper} {rest : List Oper} {o : Oper} {a : Act} {Q : Exit → Act → World → Prop}
/-- '[]byte(s)', its row under a letter -/
theorem wpList_conv (W : World) (hgd : o.guard = none) (x : Operand) (ho : o.op = .convert 9 22 x) (s : ByteArray) (hx : a.eval x = .string s) (hs : s.size ≤ 9223372036854775807)
    (h : ∀ v w1, BRow w1 W.heap.size v (bytesOf s) → Below W.heap.size W w1 → wpList Tryd.prog ops Q rest (a.put o.dst v) w1) : wpList Tryd.prog ops Q (o :: rest) a W := by
  refine Kd.event_run hgd ?_ (h _ _ (BRow.conv W s hs) (bytes_below (Below.refl _ _) (Nat.le_refl _) _ _))
  simp [execOp, ho, hx, conv_run]
set_option maxRecDepth 100000 in
/-- append(v, xs...) onto such a row -/
theorem wpList_bytes_append (W : World) (hgd : o.guard = none) (s x : Operand) (ho : o.op = .call { callee := .builtin .append, args := #[s, x], argTypes := #[22, 22] })
    (B : Nat) (v : Value) (l : List Int) (hs : a.eval s = v) (HB : BRow W B v l) (A : Option Addr) (c : Nat) (M : List Int) (hx : a.eval x = .slice A M.length c) (hr : RB W A M)
    (hl : l.length + M.length ≤ 140737488355328) (hbase : B ≤ W.heap.size)
    (h : ∀ v1 w1, BRow w1 B v1 (l ++ M) → Below B W w1 → W.grownBy w1 v.ownBlock → (v1.ownBlock = v.ownBlock ∨ ∃ b, v1.ownBlock = some b ∧ W.heap.size ≤ b) → wpList Tryd.prog ops Q rest (a.put o.dst v1) w1) :
    wpList Tryd.prog ops Q (o :: rest) a W := by
  obtain ⟨i0, hi, hz0, hz1, hz2⟩ := info_parts info_u8
  rcases HB with ⟨rfl, rfl⟩ | ⟨g, cap, rfl, hB, hg, hc, hm, hsp, hcell⟩
  · refine Kd.R_append_row (Value.int .u8) 0 (h1 := fun _ => rfl) (w0 := W) B hgd s x 22 5 (.int .u8 0) 1 ho Tryd.underlying22 info_u8 rfl (by decide) (.slice none 0 0) [] M A M.length c (fun _ => True) hs hx (fun _ _ => trivial) (Kd.R_nil _ _ _ _ _) hr (Below.refl _ _) hbase (by simpa using hl) ?_
    intro v1 w1 ho1 hb hgr hat
    exact h v1 w1 (BRow.of_R ho1) hb hgr hat
  · have hgr0 : ∀ k, (Value.slice (some ⟨g, 0, none⟩) l.length cap).ownBlock = some k → B ≤ k := fun k hk => by
      have : g = k := by simpa [Value.ownBlock] using hk
      omega
    rcases A with _ | ad
    · have h0 : M.length = 0 := by
        rcases Nat.eq_zero_or_pos M.length with h0 | h0
        · exact h0
        · obtain ⟨ad, h, _⟩ := hr.2.2 h0
          cases h
      obtain rfl : M = [] := List.eq_nil_of_length_eq_zero h0
      have hrun : (Builtin.append_ #[22, 22] o.type #[.slice (some ⟨g, 0, none⟩) l.length cap, .slice none 0 c]).run Tryd.prog W = .ok (.slice (some ⟨g, 0, none⟩) l.length cap) W := by
        simp [Builtin.append_, run_underlying Tryd.underlying22, sizeOf, typeInfo, hi, Builtin.lenOf, Builtin.firstCells, hc, storeCells]
      refine wpList_plain hgd fun K hK => ?_
      unfold Oper.wp execOp
      simp only [ho, resolve, invoke, builtin, Sem.run_bind, Sem.run_pure, Result.andThen_ok, List.map_toArray, List.map_cons, List.map_nil, hs, hx, List.length_nil, hrun]
      exact hK _ _ (h _ W (by rw [List.append_nil]; exact .inr ⟨g, cap, rfl, hB, hg, hc, hm, hsp, hcell⟩) (Below.refl _ _) (World.grownBy.refl W _) (.inl rfl))
    · have hrd := Kd.reads_of_C (enc := Value.int .u8) (d := (0 : Int)) (h1 := fun _ => rfl) hr
      have hnews : ∀ j u, (nums .u8 M)[j]? = some u → W.cell? (ad.add j) = some u := by
        intro j u hu
        have hj : j < M.length := by
          have := (List.getElem?_eq_some_iff.1 hu).1
          simpa [nums] using this
        obtain ⟨ad', e, hcl⟩ := hrd.2.2 (by omega)
        injection e with e
        subst e
        rw [hcl j hj, ← hu]
        simp [nums, List.getD_eq_getElem?_getD, hj]
      refine wpList_append_arg W hgd s x 22 ho 5 i0 (.int .u8 0) 1 1 Tryd.underlying22 hi hz0 hz1 hz2 rfl (by decide) g 0 l.length cap (nums .u8 l) hs (by simp [nums]) (fun j u hu => ?_) ad M.length c (nums .u8 M) hx (by simp [nums]) hnews (fun u hu => by simp [nums] at hu; obtain ⟨x, _, rfl⟩ := hu; rfl) (fun hroom j hj => ?_) (by simp only [maxLen]; omega) (by omega) (fun hroom => ?_) (fun hfull v1 w1 ho1 hgr => ?_)
      · have hj : j < l.length := by
          have := (List.getElem?_eq_some_iff.1 hu).1
          simpa [nums] using this
        rw [Nat.zero_add, hcell j hj, ← hu]
        simp [nums, hj]
      · have hj' : j < M.length := by simpa [nums] using hj
        have := hsp (0 + l.length * 1 + j) (by omega)
        exact this
      · have hlen : (nums .u8 M).length = M.length := by simp [nums]
        refine h _ _ (.inr ⟨g, cap, by rw [List.length_append], hB, Nat.lt_of_lt_of_le hg (grown_setCells g _ _ W).size, by rw [List.length_append]; exact hroom, by rw [List.length_append]; omega, fun j hj => ⟨some_setCells g _ _ W _ (hsp j hj).1, by rw [World.frozen?_setCells]; exact (hsp j hj).2⟩, fun j hj => ?_⟩) ?_ (grown_setCells g _ _ W) (.inl rfl)
        · rw [List.length_append] at hj
          by_cases hjl : j < l.length
          · rw [World.cell?_setCells_out g _ _ _ _ (fun _ _ => .inl (by show j < 0 + l.length * 1; omega)), hcell j hjl, List.getElem_append_left hjl]
          · obtain ⟨q, rfl⟩ : ∃ q, j = 0 + l.length * 1 + q := ⟨j - l.length, by omega⟩
            rw [World.cell?_setCells_in g _ _ W (fun p hp => (hsp _ (by rw [hlen] at hp; omega)).1) q (by rw [hlen]; omega)]
            have e1 : 0 + l.length * 1 + q - l.length = q := by omega
            simp [nums, List.getElem_append, show ¬ (0 + l.length * 1 + q < l.length) by omega, e1]
        · exact ⟨(grown_setCells g _ _ W).os, (grown_setCells g _ _ W).tape, (grown_setCells g _ _ W).output, (grown_setCells g _ _ W).size, fun k hk => (grown_setCells g _ _ W).block k (by omega) (by intro e; injection e with e; omega)⟩
      · refine h v1 w1 ((BRow.of_own (by rw [List.length_append]; simpa [nums] using ho1)).less hbase) ⟨hgr.os, hgr.tape, hgr.output, hgr.size, fun k hk => hgr.block k (by omega) (by simp)⟩ (hgr.but _) (.inr ?_)
        rcases ho1.2 with ⟨_, h0⟩ | ⟨b, cap', cur, hv, hb, _⟩
        · omega
        · exact ⟨b, by rw [hv]; rfl, hb⟩
end
end Go.Proofs.YtonhmaklnkidhaaDoor.G
