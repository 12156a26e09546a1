/- What the functions of package element and of the verifier do, one contract each: a part of the proof; no conditions of its own (my own text, filled from XV2.lean.tpl). -/
import Derived.Test.YtonhmaklnkidhaaDoorV1
namespace Go.Proofs.YtonhmaklnkidhaaDoor.G
open Go.RowKit Go.Proofs.YtonhmaklnkidhaaDoorW.PrintWords

theorem dec_le (v k : Nat) (h1 : 1 ≤ k) (h : v < 10 ^ k) : (Lib.decDigits v).length ≤ k := by
  rw [Lib.decDigits_length]
  exact nDigits_le k v h1 h
/-! ### elements there and back -/
theorem digit_of (u : Nat) (h : u < 10) : digit ((UInt8.ofNat (48 + u)).toNat : Int) = true ∧ ((UInt8.ofNat (48 + u)).toNat : Int) = 48 + u := by
  have e : (UInt8.ofNat (48 + u)).toNat = 48 + u := by
    rw [UInt8.toNat_ofNat']
    exact Nat.mod_eq_of_lt (by omega)
  rw [e]
  refine ⟨?_, by omega⟩
  unfold digit
  rw [Bool.and_eq_true, decide_eq_true_eq, decide_eq_true_eq]
  omega
theorem dec_num : ∀ u : Nat, numL (Lib.decDigits u) = u ∧ ∀ c ∈ Lib.decDigits u, digit (c.toNat : Int) = true := by
  intro u
  induction u using Nat.strongRecOn with
  | ind u ih =>
    rw [Lib.decDigits]
    split
    · rename_i h
      have := digit_of u h
      refine ⟨?_, fun c hc => ?_⟩
      · show (0 : Int) * 10 + (((UInt8.ofNat (48 + u)).toNat : Int) - 48) = u
        rw [this.2]
        omega
      · rw [List.mem_singleton.1 hc]
        exact this.1
    · rename_i h
      obtain ⟨a, b⟩ := ih (u / 10) (by omega)
      have := digit_of (u % 10) (by omega)
      refine ⟨?_, fun c hc => ?_⟩
      · rw [numL_snoc, a, this.2]
        omega
      · rcases List.mem_append.1 hc with hc | hc
        · exact b c hc
        · rw [List.mem_singleton.1 hc]
          exact this.1
theorem num_zeros (k : Nat) (l : List UInt8) : numL (List.replicate k 48 ++ l) = numL l := by
  unfold numL
  rw [List.foldl_append]
  congr 1
  induction k with
  | zero => rfl
  | succ k ih => rw [List.replicate_succ, List.foldl_cons]; exact ih
theorem padded_num (v D : Nat) : numL (padded v D) = v ∧ ∀ c ∈ padded v D, digit (c.toNat : Int) = true := by
  unfold padded
  refine ⟨by rw [num_zeros, (dec_num v).1], fun c hc => ?_⟩
  rcases List.mem_append.1 hc with hc | hc
  · rw [List.eq_of_mem_replicate hc]
    decide
  · exact (dec_num v).2 c hc
theorem num_inj : ∀ (l m : List UInt8) (a b : Int), l.length = m.length → (∀ c ∈ l, digit (c.toNat : Int) = true) → (∀ c ∈ m, digit (c.toNat : Int) = true) →
    l.foldl (fun v c => v * 10 + ((c.toNat : Int) - 48)) a = m.foldl (fun v c => v * 10 + ((c.toNat : Int) - 48)) b → a = b ∧ l = m
  | [], [], a, b, _, _, _, h => ⟨h, rfl⟩
  | [], d :: m, a, b, hl, _, _, _ => by cases hl
  | c :: l, [], a, b, hl, _, _, _ => by cases hl
  | c :: l, d :: m, a, b, hl, h1, h2, h => by
    rw [List.foldl_cons, List.foldl_cons] at h
    obtain ⟨e, rfl⟩ := num_inj l m _ _ (by simpa using hl) (fun x hx => h1 x (List.mem_cons_of_mem _ hx)) (fun x hx => h2 x (List.mem_cons_of_mem _ hx)) h
    have hc := h1 c List.mem_cons_self
    have hd := h2 d List.mem_cons_self
    unfold digit at hc hd
    simp only [Bool.and_eq_true, decide_eq_true_eq] at hc hd
    have e1 : c.toNat = d.toNat := by omega
    have e2 : c = d := UInt8.toNat_inj.1 e1
    subst e2
    exact ⟨by omega, rfl⟩
theorem str_nums8 (l : List UInt8) : strOfNums (nums8 l) = ⟨l.toArray⟩ := by
  unfold strOfNums nums8
  rw [List.map_map]
  congr 2
  conv => rhs; rw [← List.map_id l]
  refine List.map_congr_left fun c _ => ?_
  show UInt8.ofNat ((c.toNat : Int)).toNat = c
  rw [Int.toNat_natCast, UInt8.ofNat_toNat]
theorem str_list (xs : List Int) (h : Byt xs) : nums8 (strOfNums xs).data.toList = xs := by
  unfold strOfNums nums8
  simp only [List.map_map]
  conv => rhs; rw [← List.map_id xs]
  refine List.map_congr_left fun x hx => ?_
  have := h x hx
  show ((UInt8.ofNat x.toNat).toNat : Int) = x
  rw [UInt8.toNat_ofNat', Nat.mod_eq_of_lt (by omega)]
  omega
theorem str_size (xs : List Int) : (strOfNums xs).size = xs.length := by
  unfold strOfNums
  show (Array.size _) = _
  simp
theorem allB_list (p : Int → Bool) (s : ByteArray) : allB p s = true ↔ ∀ c ∈ s.data.toList, p (c.toNat : Int) = true := by
  unfold allB
  rw [List.all_eq_true]
theorem nums8_byt (l : List UInt8) : Byt (nums8 l) := fun x hx => by
  obtain ⟨c, _, rfl⟩ := List.mem_map.1 hx
  have := c.toNat_lt
  omega
theorem nums8_len (l : List UInt8) : (nums8 l).length = l.length := by unfold nums8; rw [List.length_map]
theorem head_len (no : Int) (n : Nat) (h : longB (fmtOf no) n = true) : (headOf (fmtOf no) n).length = (fmtOf no).digits.toNat := by
  unfold headOf
  have hb := fmt_bounds no
  split
  · rename_i h0
    rcases fmt_digits no with h1 | h1
    · omega
    · refine padded_length _ _ (dec_le _ _ (by omega) ?_)
      have := long_le h
      have e : ((10 ^ (fmtOf no).digits.toNat : Nat) : Int) = 10 ^ (fmtOf no).digits.toNat := by simp
      omega
  · have : (fmtOf no).digits = 0 := by omega
    rw [this]
    rfl
theorem head_number (no : Int) (n : Nat) (h0 : 0 < (fmtOf no).digits) (h : longB (fmtOf no) n = true) : numberOf (strOfNums (nums8 (headOf (fmtOf no) n))) = ((n : Int), 0) := by
  have hl := head_len no n h
  have hb := fmt_bounds no
  have hp := padded_num n (fmtOf no).digits.toNat
  have e : headOf (fmtOf no) n = padded n (fmtOf no).digits.toNat := by unfold headOf; rw [if_pos h0]
  have hr : rightB (strOfNums (nums8 (headOf (fmtOf no) n))) 1 18 = true := by
    unfold rightB
    rw [str_size, nums8_len, hl, Bool.and_eq_true, Bool.and_eq_true, decide_eq_true_eq, decide_eq_true_eq, str_nums8, allB_list]
    refine ⟨⟨by omega, by omega⟩, ?_⟩
    rw [e]
    exact hp.2
  unfold numberOf
  rw [if_pos hr, str_nums8, e]
  show (numL (padded n (fmtOf no).digits.toNat), (0 : Int)) = _
  rw [hp.1]
theorem long_zero {F : Fmt} {n : Int} (h : longB F n = true) (h0 : F.digits = 0) : n = F.most := by
  unfold longB at h
  rw [h0] at h
  simpa using h
theorem writeOf_ok {no : Int} {d : List Int} (h : (writeOf no d).2 = 0) : checkOf no d = 0 ∧ writeOf no d = (nums8 (headOf (fmtOf no) d.length) ++ d, 0) := by
  unfold writeOf at h ⊢
  split at h
  · rename_i hc
    exact absurd h hc
  · rename_i hc
    rw [if_neg hc]
    exact ⟨by simpa using hc, rfl⟩
/-- how long what is written is -/
theorem size_write (no : Int) (d t : List Int) (h : longB (fmtOf no) d.length = true) (ht : (fmtOf no).digits.toNat ≤ t.length) (he : t.take (fmtOf no).digits.toNat = nums8 (headOf (fmtOf no) d.length)) : sizeOf (fmtOf no) t = ((d.length : Int), 0) := by
  have hb := fmt_bounds no
  unfold sizeOf
  split
  · rename_i h0
    rw [long_zero h h0]
  · rename_i h0
    rw [if_neg (by omega), he, head_number no d.length (by omega) h, if_neg (by simp)]
    simp only
    rw [h, if_neg (by decide)]
theorem readOf_writeOf (no : Int) (d rest : List Int) (h : (writeOf no d).2 = 0) : readOf no ((writeOf no d).1 ++ rest) = (d, ((writeOf no d).1.length : Int), 0) := by
  obtain ⟨hc, hw⟩ := writeOf_ok h
  obtain ⟨h1, h2, h3⟩ := check_zero hc
  have hb := fmt_bounds no
  have hl := head_len no d.length h2
  rw [hw]
  simp only
  obtain ⟨H, hH⟩ : ∃ H, H = nums8 (headOf (fmtOf no) d.length) := ⟨_, rfl⟩
  have hHl : H.length = (fmtOf no).digits.toNat := by rw [hH, nums8_len, hl]
  have hs := size_write no d (H ++ d ++ rest) h2 (by rw [List.length_append, List.length_append]; omega) (by rw [List.append_assoc, ← hHl, List.take_left, hH])
  rw [← hH]
  have hn : ((fmtOf no).digits + (d.length : Int)).toNat = (H ++ d).length := by rw [List.length_append]; omega
  have hcut : ((H ++ d ++ rest).take ((fmtOf no).digits + (d.length : Int)).toNat).drop (fmtOf no).digits.toNat = d := by rw [hn, List.take_left, ← hHl, List.drop_left]
  have hro : rightOf (fmtOf no) d = 0 := by unfold rightOf; rw [h3]; rfl
  have hlt : ¬ (((H ++ d ++ rest).length : Nat) : Int) < (fmtOf no).digits + (d.length : Int) := by rw [List.length_append, List.length_append]; omega
  rw [readOf, h1, if_neg (by decide), hs]
  simp only
  rw [if_neg (by decide), if_neg hlt, hcut, hro, if_neg (by decide), List.length_append]
  congr 2
  omega
theorem readOf_cut (no : Int) (d : List Int) (k : Nat) (h : (writeOf no d).2 = 0) (hk : k < (writeOf no d).1.length) : (readOf no ((writeOf no d).1.take k)).2.2 ≠ 0 := by
  obtain ⟨hc, hw⟩ := writeOf_ok h
  obtain ⟨h1, h2, h3⟩ := check_zero hc
  have hb := fmt_bounds no
  have hl := head_len no d.length h2
  rw [hw] at hk ⊢
  simp only at hk ⊢
  obtain ⟨H, hH⟩ : ∃ H, H = nums8 (headOf (fmtOf no) d.length) := ⟨_, rfl⟩
  have hHl : H.length = (fmtOf no).digits.toNat := by rw [hH, nums8_len, hl]
  rw [← hH] at hk ⊢
  have hkl : ((H ++ d).take k).length = k := by rw [List.length_take]; omega
  rw [List.length_append] at hk
  rcases Nat.lt_or_ge k (fmtOf no).digits.toNat with hD | hD
  · have hs : sizeOf (fmtOf no) ((H ++ d).take k) = (0, 3) := by
      rw [sizeOf, if_neg (by omega), if_pos (by omega)]
    rw [readOf, h1, if_neg (by decide), hs]
    simp only
    rw [if_pos (by decide)]
    decide
  · have hs := size_write no d ((H ++ d).take k) h2 (by omega) (by rw [List.take_take, Nat.min_eq_left hD, ← hHl, List.take_left, hH])
    rw [readOf, h1, if_neg (by decide), hs]
    simp only
    rw [if_neg (by decide), if_pos (by omega)]
    decide
theorem sizeOf_ok {no : Int} {t : List Int} (h : (sizeOf (fmtOf no) t).2 = 0) : ((fmtOf no).digits = 0 ∧ (sizeOf (fmtOf no) t).1 = (fmtOf no).most) ∨
    (0 < (fmtOf no).digits ∧ (fmtOf no).digits.toNat ≤ t.length ∧ rightB (strOfNums (t.take (fmtOf no).digits.toNat)) 1 18 = true ∧ numL (strOfNums (t.take (fmtOf no).digits.toNat)).data.toList = (sizeOf (fmtOf no) t).1 ∧ longB (fmtOf no) (sizeOf (fmtOf no) t).1 = true) := by
  have hb := fmt_bounds no
  unfold sizeOf at h ⊢
  split at h
  · rename_i h0
    rw [if_pos h0]
    exact Or.inl ⟨h0, rfl⟩
  rename_i h0
  rw [if_neg h0]
  split at h
  · cases h
  rename_i h1
  rw [if_neg h1]
  split at h
  · rename_i h2
    exact absurd h h2
  rename_i h2
  rw [if_neg h2]
  split at h
  · cases h
  rename_i h3
  rw [if_neg h3]
  refine Or.inr ⟨by omega, by omega, ?_, ?_, by simpa using h3⟩
  · unfold numberOf at h2
    split at h2
    · assumption
    · simp at h2
  · unfold numberOf at h2 ⊢
    split at h2
    · rename_i hr
      rw [if_pos hr]
    · simp at h2
theorem writeOf_readOf (no : Int) (t : List Int) (ht : Byt t) (h : (readOf no t).2.2 = 0) : writeOf no (readOf no t).1 = (t.take (readOf no t).2.1.toNat, 0) := by
  have hb := fmt_bounds no
  have hsb := size_bounds no t
  unfold readOf at h ⊢
  split at h
  · cases h
  rename_i h1
  rw [if_neg h1]
  split at h
  · rename_i h2
    exact absurd h h2
  rename_i h2
  rw [if_neg h2]
  split at h
  · cases h
  rename_i h3
  rw [if_neg h3]
  split at h
  · rename_i h4
    exact absurd h h4
  rename_i h4
  rw [if_neg h4]
  simp only
  have h2' : (sizeOf (fmtOf no) t).2 = 0 := by simpa using h2
  obtain ⟨n, hn⟩ : ∃ n : Nat, (sizeOf (fmtOf no) t).1 = n := ⟨_, (Int.toNat_of_nonneg hsb.1).symm⟩
  have hok := sizeOf_ok h2'
  rw [hn] at h3 h4 hok ⊢
  obtain ⟨d, hd⟩ : ∃ d, d = (t.take ((fmtOf no).digits + (n : Int)).toNat).drop (fmtOf no).digits.toNat := ⟨_, rfl⟩
  rw [← hd] at h4 ⊢
  have hdl : d.length = n := by
    rw [hd, List.length_drop, List.length_take]
    omega
  have hlong : longB (fmtOf no) n = true := by
    rcases hok with ⟨_, e⟩ | ⟨_, _, _, _, e⟩
    · unfold longB
      rw [e]
      simp
    · exact e
  have hkind : kindB (fmtOf no).kind (fmtOf no).most (strOfNums d) = true := by
    unfold rightOf at h4
    split at h4
    · assumption
    · exact absurd h4 (by decide)
  have hc : checkOf no d = 0 := by
    rw [checkOf, if_neg h1, hdl, hlong, if_neg (by decide), if_pos hkind]
  have hsplit : t.take ((fmtOf no).digits + (n : Int)).toNat = t.take (fmtOf no).digits.toNat ++ d := by
    conv => lhs; rw [← List.take_append_drop (fmtOf no).digits.toNat (t.take ((fmtOf no).digits + (n : Int)).toNat)]
    rw [List.take_take, Nat.min_eq_left (by omega), ← hd]
  rw [writeOf, hc, if_neg (by decide), hdl, hsplit]
  congr 2
  rcases hok with ⟨h0, _⟩ | ⟨h0, hl, hr, hv, _⟩
  · rw [h0]
    unfold headOf
    rw [h0]
    rfl
  · have e : headOf (fmtOf no) n = padded n (fmtOf no).digits.toNat := by unfold headOf; rw [if_pos h0]
    have hpl := head_len no n hlong
    rw [e] at hpl ⊢
    have hp := padded_num n (fmtOf no).digits.toNat
    unfold rightB at hr
    rw [Bool.and_eq_true, allB_list] at hr
    have hsz : (strOfNums (t.take (fmtOf no).digits.toNat)).data.toList.length = (fmtOf no).digits.toNat := by
      have := str_size (t.take (fmtOf no).digits.toNat)
      rw [List.length_take] at this
      show (strOfNums (t.take (fmtOf no).digits.toNat)).data.size = _
      have e2 : (strOfNums (t.take (fmtOf no).digits.toNat)).data.size = (strOfNums (t.take (fmtOf no).digits.toNat)).size := rfl
      rw [e2, this]
      omega
    have := num_inj (padded n (fmtOf no).digits.toNat) (strOfNums (t.take (fmtOf no).digits.toNat)).data.toList 0 0 (by rw [hpl, hsz]) hp.2 hr.2 (by
      have a := hp.1
      unfold numL at a hv
      rw [a, hv])
    rw [this.2, str_list _ (ht.take _)]
end Go.Proofs.YtonhmaklnkidhaaDoor.G
