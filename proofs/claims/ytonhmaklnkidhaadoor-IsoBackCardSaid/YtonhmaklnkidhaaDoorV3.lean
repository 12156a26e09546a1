/- What the functions of package element and of the verifier do, one contract each: a part of the proof; no conditions of its own (my own text, filled from XV3.lean.tpl). -/
import Derived.Test.YtonhmaklnkidhaaDoorV2
namespace Go.Proofs.YtonhmaklnkidhaaDoor.G
open Go.RowKit Go.Proofs.YtonhmaklnkidhaaDoorW.PrintWords

/-! ### messages there and back -/
def OkFs (fs : List (Int × List Int)) : Prop := ∀ x ∈ fs, (writeOf x.1 x.2).2 = 0
def bodyOf : List (Int × List Int) → List Int
  | [] => []
  | x :: r => (writeOf x.1 x.2).1 ++ bodyOf r
theorem packGo_ok {acc : List Int} {fs : List (Int × List Int)} (h : (packGo acc fs).2 = 0) : OkFs fs ∧ packGo acc fs = (acc ++ bodyOf fs, 0) ∧ (acc ++ bodyOf fs).length ≤ 4096 := by
  induction fs generalizing acc with
  | nil =>
    unfold packGo at h ⊢
    split at h
    · cases h
    · rename_i hl
      rw [if_neg hl, bodyOf, List.append_nil]
      exact ⟨(fun x hx => by cases hx), rfl, by omega⟩
  | cons x r ih =>
    unfold packGo at h ⊢
    split at h
    · rename_i hw
      exact absurd h hw
    · rename_i hw
      rw [if_neg hw]
      obtain ⟨a, b, c⟩ := ih h
      rw [bodyOf, ← List.append_assoc]
      refine ⟨fun y hy => ?_, b, c⟩
      rcases List.mem_cons.1 hy with rfl | hy
      · simpa using hw
      · exact a y hy
theorem packGo_of {acc : List Int} {fs : List (Int × List Int)} (h : OkFs fs) (hl : (acc ++ bodyOf fs).length ≤ 4096) : packGo acc fs = (acc ++ bodyOf fs, 0) := by
  induction fs generalizing acc with
  | nil =>
    rw [bodyOf, List.append_nil] at hl ⊢
    rw [packGo, if_neg (by omega)]
  | cons x r ih =>
    have hx := h x List.mem_cons_self
    rw [bodyOf, ← List.append_assoc] at hl ⊢
    rw [packGo, if_neg (by rw [hx]; decide)]
    exact ih (fun y hy => h y (List.mem_cons_of_mem _ hy)) hl
theorem packOf_ok {mti : ByteArray} {fs : List (Int × List Int)} (h : (packOf mti fs).2 = 0) : rightB mti 4 4 = true ∧ (mapB (fs.map (·.1))).2 = 0 ∧ OkFs fs ∧
    packOf mti fs = (bytesOf mti ++ ((mapB (fs.map (·.1))).1 ++ bodyOf fs), 0) ∧ (bytesOf mti ++ ((mapB (fs.map (·.1))).1 ++ bodyOf fs)).length ≤ 4096 := by
  unfold packOf at h ⊢
  split at h
  · cases h
  rename_i h1
  rw [if_neg h1]
  split at h
  · cases h
  rename_i h2
  rw [if_neg h2]
  obtain ⟨a, b, c⟩ := packGo_ok h
  rw [List.append_assoc] at b c
  exact ⟨by simpa using h1, by simpa using h2, a, b, c⟩
theorem packOf_of {mti : ByteArray} {fs : List (Int × List Int)} (h1 : rightB mti 4 4 = true) (h2 : (mapB (fs.map (·.1))).2 = 0) (h3 : OkFs fs) (h4 : (bytesOf mti ++ ((mapB (fs.map (·.1))).1 ++ bodyOf fs)).length ≤ 4096) :
    packOf mti fs = (bytesOf mti ++ ((mapB (fs.map (·.1))).1 ++ bodyOf fs), 0) := by
  rw [packOf, h1, if_neg (by decide), h2, if_neg (by decide), packGo_of h3 (by rw [List.append_assoc]; exact h4), List.append_assoc]
theorem each_body (fs : List (Int × List Int)) (rest : List Int) (els : List (Int × List Int)) (h : OkFs fs) : eachOf (fs.map (·.1)) (bodyOf fs ++ rest) els = (rest, els ++ fs, 0) := by
  induction fs generalizing els with
  | nil => rw [List.map_nil, eachOf, bodyOf, List.nil_append, List.append_nil]
  | cons x r ih =>
    have hx := h x List.mem_cons_self
    have hr := readOf_writeOf x.1 x.2 (bodyOf r ++ rest) hx
    have hs : stepOf x.1 (bodyOf (x :: r) ++ rest) els = (bodyOf r ++ rest, els ++ [x], 0) := by
      rw [bodyOf, List.append_assoc, stepOf, hr]
      simp only [if_true]
      rw [Int.toNat_natCast, List.drop_left]
    rw [List.map_cons, eachOf, hs, if_neg (fun h => h rfl), ih _ (fun y hy => h y (List.mem_cons_of_mem _ hy)), List.append_assoc, List.singleton_append]
theorem each_cut (fs : List (Int × List Int)) (k : Nat) (els : List (Int × List Int)) (h : OkFs fs) (hk : k < (bodyOf fs).length) : (eachOf (fs.map (·.1)) ((bodyOf fs).take k) els).2.2 ≠ 0 := by
  induction fs generalizing els k with
  | nil => cases hk
  | cons x r ih =>
    have hx := h x List.mem_cons_self
    rw [bodyOf] at hk ⊢
    rw [List.length_append] at hk
    rcases Nat.lt_or_ge k (writeOf x.1 x.2).1.length with hl | hl
    · have hc := readOf_cut x.1 x.2 k hx hl
      have he : ((writeOf x.1 x.2).1 ++ bodyOf r).take k = (writeOf x.1 x.2).1.take k := by rw [List.take_append_of_le_length (Nat.le_of_lt hl)]
      have hs : (stepOf x.1 ((writeOf x.1 x.2).1.take k) els).2.2 = (readOf x.1 ((writeOf x.1 x.2).1.take k)).2.2 := by rw [stepOf, if_neg hc]
      rw [List.map_cons, eachOf, he, hs, if_pos hc, hs]
      exact hc
    · have he : ((writeOf x.1 x.2).1 ++ bodyOf r).take k = (writeOf x.1 x.2).1 ++ (bodyOf r).take (k - (writeOf x.1 x.2).1.length) := by
        rw [List.take_append, List.take_of_length_le hl]
      have hr := readOf_writeOf x.1 x.2 ((bodyOf r).take (k - (writeOf x.1 x.2).1.length)) hx
      have hs : stepOf x.1 ((writeOf x.1 x.2).1 ++ (bodyOf r).take (k - (writeOf x.1 x.2).1.length)) els = ((bodyOf r).take (k - (writeOf x.1 x.2).1.length), els ++ [x], 0) := by
        rw [stepOf, hr]
        simp only [if_true]
        rw [Int.toNat_natCast, List.drop_left]
      rw [List.map_cons, eachOf, he, hs, if_neg (fun h => h rfl)]
      exact ih _ _ (fun y hy => h y (List.mem_cons_of_mem _ hy)) (by omega)
theorem bytesOf_nums8 (s : ByteArray) : bytesOf s = nums8 s.data.toList := rfl
theorem str_bytes (s : ByteArray) : strOfNums (bytesOf s) = s := by
  rw [bytesOf_nums8, str_nums8]
theorem bytesOf_len (s : ByteArray) : (bytesOf s).length = s.size := by
  rw [bytesOf_nums8, nums8_len]
  rfl
theorem right4 {s : ByteArray} (h : rightB s 4 4 = true) : (bytesOf s).length = 4 := by
  unfold rightB at h
  simp only [Bool.and_eq_true, decide_eq_true_eq] at h
  rw [bytesOf_len]
  omega
/-- a message's bytes, and what stands behind them -/
theorem parse_in (mti : ByteArray) (t : List Int) (h1 : rightB mti 4 4 = true) (hl : (bytesOf mti ++ t).length ≤ 4096) : parseOf (bytesOf mti ++ t) =
    if (mapOf t).2.2 ≠ 0 then (⟨#[]⟩, [], (mapOf t).2.2) else
    if (eachOf (mapOf t).1 (t.drop (mapOf t).2.1.toNat) []).2.2 ≠ 0 then (⟨#[]⟩, [], (eachOf (mapOf t).1 (t.drop (mapOf t).2.1.toNat) []).2.2) else
    if 0 < (eachOf (mapOf t).1 (t.drop (mapOf t).2.1.toNat) []).1.length then (⟨#[]⟩, [], 17) else
    (mti, (eachOf (mapOf t).1 (t.drop (mapOf t).2.1.toNat) []).2.1, 0) := by
  have h4 := right4 h1
  have e1 : (bytesOf mti ++ t).take 4 = bytesOf mti := by rw [← h4, List.take_left]
  have e2 : (bytesOf mti ++ t).drop 4 = t := by rw [← h4, List.drop_left]
  have e3 : ∀ k, (bytesOf mti ++ t).drop (4 + k) = t.drop k := fun k => by rw [← List.drop_drop, e2]
  rw [parseOf, if_neg (by omega), if_neg (by rw [List.length_append]; omega), e1, str_bytes, h1, if_neg (by decide), e2, e3]
theorem parse_pack {mti : ByteArray} {fs : List (Int × List Int)} (h : (packOf mti fs).2 = 0) : parseOf (packOf mti fs).1 = (mti, fs, 0) := by
  obtain ⟨h1, h2, h3, h4, h5⟩ := packOf_ok h
  have hm := mapOf_mapB (fs.map (·.1)) (bodyOf fs) h2
  have he := each_body fs [] [] h3
  rw [List.append_nil, List.nil_append] at he
  rw [h4]
  simp only
  rw [parse_in mti _ h1 h5, hm]
  simp only
  rw [Int.toNat_natCast, List.drop_left, he]
  rfl
theorem parse_more {mti : ByteArray} {fs : List (Int × List Int)} {more : List Int} (h : (packOf mti fs).2 = 0) (hm0 : 0 < more.length) (hl : ((packOf mti fs).1 ++ more).length ≤ 4096) : (parseOf ((packOf mti fs).1 ++ more)).2.2 = 17 := by
  obtain ⟨h1, h2, h3, h4, h5⟩ := packOf_ok h
  rw [h4] at hl ⊢
  simp only at hl ⊢
  rw [List.append_assoc, List.append_assoc] at hl ⊢
  have hm := mapOf_mapB (fs.map (·.1)) (bodyOf fs ++ more) h2
  have he := each_body fs more [] h3
  rw [parse_in mti _ h1 hl, hm]
  simp only
  rw [Int.toNat_natCast, List.drop_left, he, if_neg (by decide), if_neg (fun h => h rfl), if_pos hm0]
theorem parse_cut {mti : ByteArray} {fs : List (Int × List Int)} {k : Nat} (h : (packOf mti fs).2 = 0) (hk : k < (packOf mti fs).1.length) : (parseOf ((packOf mti fs).1.take k)).2.2 ≠ 0 := by
  obtain ⟨h1, h2, h3, h4, h5⟩ := packOf_ok h
  have hb4 := right4 h1
  rw [h4] at hk ⊢
  simp only at hk ⊢
  rcases Nat.lt_or_ge k 4 with h0 | h0
  · rw [parseOf, if_neg (by rw [List.length_take]; omega), if_pos (by rw [List.length_take]; omega)]
    decide
  have e1 : (bytesOf mti ++ ((mapB (fs.map (·.1))).1 ++ bodyOf fs)).take k = bytesOf mti ++ ((mapB (fs.map (·.1))).1 ++ bodyOf fs).take (k - 4) := by
    rw [List.take_append, List.take_of_length_le (by omega), hb4]
  rw [e1, parse_in mti _ h1 (by rw [← e1, List.length_take]; omega)]
  rw [List.length_append, List.length_append] at hk
  rcases Nat.lt_or_ge (k - 4) (mapB (fs.map (·.1))).1.length with hj | hj
  · have e2 : ((mapB (fs.map (·.1))).1 ++ bodyOf fs).take (k - 4) = (mapB (fs.map (·.1))).1.take (k - 4) := by rw [List.take_append_of_le_length (Nat.le_of_lt hj)]
    have := mapOf_cut _ h2 _ hj
    rw [e2, if_pos this]
    exact this
  · have e2 : ((mapB (fs.map (·.1))).1 ++ bodyOf fs).take (k - 4) = (mapB (fs.map (·.1))).1 ++ (bodyOf fs).take (k - 4 - (mapB (fs.map (·.1))).1.length) := by
      rw [List.take_append, List.take_of_length_le hj]
    have hm := mapOf_mapB (fs.map (·.1)) ((bodyOf fs).take (k - 4 - (mapB (fs.map (·.1))).1.length)) h2
    have hc := each_cut fs (k - 4 - (mapB (fs.map (·.1))).1.length) [] h3 (by omega)
    rw [e2, hm]
    simp only
    rw [Int.toNat_natCast, List.drop_left, if_neg (by decide), if_pos hc]
    exact hc
theorem each_ok {nos t : List Int} {els : List (Int × List Int)} (ht : Byt t) (h : (eachOf nos t els).2.2 = 0) : ∃ fs, (eachOf nos t els).2.1 = els ++ fs ∧ fs.map (·.1) = nos ∧ OkFs fs ∧ t = bodyOf fs ++ (eachOf nos t els).1 := by
  induction nos generalizing t els with
  | nil => exact ⟨[], by rw [eachOf, List.append_nil], rfl, (fun x hx => by cases hx), rfl⟩
  | cons no r ih =>
    unfold eachOf at h ⊢
    split at h
    · rename_i hs
      exact absurd h hs
    rename_i hs
    rw [if_neg hs]
    have hs0 : (stepOf no t els).2.2 = 0 := by simpa using hs
    have hr0 : (readOf no t).2.2 = 0 := by
      unfold stepOf at hs0
      split at hs0
      · assumption
      · assumption
    have he : stepOf no t els = (t.drop (readOf no t).2.1.toNat, els ++ [(no, (readOf no t).1)], 0) := by rw [stepOf, if_pos hr0]
    rw [he] at h ⊢
    simp only at h ⊢
    obtain ⟨fs, a, b, c, d⟩ := ih (ht.drop _) h
    have hw := writeOf_readOf no t ht hr0
    refine ⟨(no, (readOf no t).1) :: fs, by rw [a, List.append_assoc, List.singleton_append], by rw [List.map_cons, b], fun y hy => ?_, ?_⟩
    · rcases List.mem_cons.1 hy with rfl | hy
      · simp only
        rw [hw]
      · exact c y hy
    · rw [bodyOf]
      simp only
      rw [hw, List.append_assoc, ← d, List.take_append_drop]
theorem pack_parse {l : List Int} (hl : Byt l) (h : (parseOf l).2.2 = 0) : packOf (parseOf l).1 (parseOf l).2.1 = (l, 0) := by
  unfold parseOf at h ⊢
  split at h
  · cases h
  rename_i h1
  rw [if_neg h1]
  split at h
  · cases h
  rename_i h2
  rw [if_neg h2]
  split at h
  · cases h
  rename_i h3
  rw [if_neg h3]
  split at h
  · rename_i h4
    exact absurd h h4
  rename_i h4
  rw [if_neg h4]
  split at h
  · rename_i h5
    exact absurd h h5
  rename_i h5
  rw [if_neg h5]
  split at h
  · cases h
  rename_i h6
  rw [if_neg h6]
  simp only
  obtain ⟨fs, a, b, c, d⟩ := each_ok (hl.drop _) (by simpa using h5)
  rw [List.nil_append] at a
  have hm := mapB_mapOf (l.drop 4) (hl.drop _) (by simpa using h4)
  have hz : (eachOf (mapOf (l.drop 4)).1 (l.drop (4 + (mapOf (l.drop 4)).2.1.toNat)) []).1 = [] := List.length_eq_zero_iff.1 (by omega)
  rw [hz, List.append_nil] at d
  have hb : bytesOf (strOfNums (l.take 4)) = l.take 4 := by rw [bytesOf_nums8, str_list _ (hl.take 4)]
  have hall : bytesOf (strOfNums (l.take 4)) ++ ((mapB (fs.map (·.1))).1 ++ bodyOf fs) = l := by
    rw [hb, b, hm.2.1, ← d, ← List.drop_drop, List.take_append_drop, List.take_append_drop]
  rw [a, packOf_of (by simpa using h3) (by rw [b]; exact hm.1) c (by rw [hall]; omega), hall]
end Go.Proofs.YtonhmaklnkidhaaDoor.G
