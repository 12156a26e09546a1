/- What the functions of package element and of the verifier do, one contract each: a part of the proof; no conditions of its own (my own text, filled from XV1.lean.tpl). -/
import Derived.Test.YtonhmaklnkidhaaDoorU15
namespace Go.Proofs.YtonhmaklnkidhaaDoor.G
open Go.RowKit Go.Proofs.YtonhmaklnkidhaaDoorW.PrintWords

/-- numbers that are bytes -/
def Byt (l : List Int) : Prop := ∀ x ∈ l, 0 ≤ x ∧ x ≤ 255
theorem Byt.at {l : List Int} (h : Byt l) (q : Nat) : 0 ≤ l.getD q 0 ∧ l.getD q 0 ≤ 255 := by
  rw [List.getD_eq_getElem?_getD]
  rcases Nat.lt_or_ge q l.length with hq | hq
  · rw [List.getElem?_eq_getElem hq]
    exact h _ (List.getElem_mem hq)
  · rw [List.getElem?_eq_none hq]
    exact ⟨by decide, by decide⟩
theorem Byt.take {l : List Int} (h : Byt l) (n : Nat) : Byt (l.take n) := fun x hx => h x (List.mem_of_mem_take hx)
theorem Byt.drop {l : List Int} (h : Byt l) (n : Nat) : Byt (l.drop n) := fun x hx => h x (List.mem_of_mem_drop hx)
theorem Byt.app {l r : List Int} (h : Byt l) (g : Byt r) : Byt (l ++ r) := fun x hx => by
  rcases List.mem_append.1 hx with hx | hx
  · exact h x hx
  · exact g x hx
set_option maxRecDepth 100000 in
theorem or_bit_dec : ∀ x < 256, ∀ r < 8, (decide (0 ≤ Go.bits .or .u8 ((x : Nat) : Int) (2 ^ (7 - r) % 256)) && decide (Go.bits .or .u8 ((x : Nat) : Int) (2 ^ (7 - r) % 256) ≤ 255)) = true ∧ ∀ s < 8, bitAt (Go.bits .or .u8 ((x : Nat) : Int) (2 ^ (7 - r) % 256)) s = (decide (r = s) || bitAt ((x : Nat) : Int) s) := by decide +kernel
theorem or_bit (x : Int) (h0 : 0 ≤ x) (h1 : x ≤ 255) (r : Nat) (hr : r < 8) : (0 ≤ Go.bits .or .u8 x (2 ^ (7 - r) % 256) ∧ Go.bits .or .u8 x (2 ^ (7 - r) % 256) ≤ 255) ∧ ∀ s < 8, bitAt (Go.bits .or .u8 x (2 ^ (7 - r) % 256)) s = (decide (r = s) || bitAt x s) := by
  obtain ⟨m, rfl⟩ := Int.eq_ofNat_of_zero_le h0
  obtain ⟨a, b⟩ := or_bit_dec m (by omega) r hr
  simp only [Bool.and_eq_true, decide_eq_true_eq] at a
  exact ⟨a, b⟩
/-- a byte out of its bits -/
def ofBits (p : Nat → Bool) : Int := (if p 0 then 128 else 0) + (if p 1 then 64 else 0) + (if p 2 then 32 else 0) + (if p 3 then 16 else 0) + (if p 4 then 8 else 0) + (if p 5 then 4 else 0) + (if p 6 then 2 else 0) + (if p 7 then 1 else 0)
theorem of_bits_dec : ∀ x < 256, ofBits (bitAt ((x : Nat) : Int)) = ((x : Nat) : Int) := by decide +kernel
theorem byte_ext {x y : Int} (hx : 0 ≤ x ∧ x ≤ 255) (hy : 0 ≤ y ∧ y ≤ 255) (h : ∀ s < 8, bitAt x s = bitAt y s) : x = y := by
  obtain ⟨m, rfl⟩ := Int.eq_ofNat_of_zero_le hx.1
  obtain ⟨n, rfl⟩ := Int.eq_ofNat_of_zero_le hy.1
  rw [← of_bits_dec m (by omega), ← of_bits_dec n (by omega)]
  unfold ofBits
  rw [h 0 (by decide), h 1 (by decide), h 2 (by decide), h 3 (by decide), h 4 (by decide), h 5 (by decide), h 6 (by decide), h 7 (by decide)]
theorem Byt.set {l : List Int} (h : Byt l) (q : Nat) {x : Int} (hx : 0 ≤ x ∧ x ≤ 255) : Byt (l.set q x) := fun y hy => by
  rcases List.mem_or_eq_of_mem_set hy with hy | rfl
  · exact h y hy
  · exact hx
theorem setN_byt {l : List Int} (h : Byt l) (n : Int) : Byt (setN l n) := h.set _ (or_bit _ (h.at _).1 (h.at _).2 _ (Nat.mod_lt _ (by decide))).1
theorem setN_has {l : List Int} (h : Byt l) (n m : Int) (h1 : 1 ≤ n) (h2 : n ≤ 8 * l.length) (m1 : 1 ≤ m) : hasN (setN l n) m = (decide (n = m) || hasN l m) := by
  unfold hasN setN setAt
  obtain ⟨a, ha⟩ : ∃ a : Nat, n = a + 1 := ⟨(n - 1).toNat, by omega⟩
  obtain ⟨b, hb⟩ : ∃ b : Nat, m = b + 1 := ⟨(m - 1).toNat, by omega⟩
  subst ha
  subst hb
  have ea : ((a : Int) + 1 - 1).toNat = a := by omega
  have eb : ((b : Int) + 1 - 1).toNat = b := by omega
  rw [ea, eb]
  have hq : a / 8 < l.length := by omega
  rw [List.getD_eq_getElem?_getD (l := l.set _ _), List.getElem?_set]
  by_cases hab : a / 8 = b / 8
  · rw [if_pos hab, if_pos hq, Option.getD_some, (or_bit _ (h.at _).1 (h.at _).2 _ (Nat.mod_lt _ (by decide))).2 _ (Nat.mod_lt _ (by decide)), hab]
    congr 1
    rw [decide_eq_decide]
    omega
  · rw [if_neg hab, ← List.getD_eq_getElem?_getD]
    have : ¬ ((a : Int) + 1 = b + 1) := by omega
    rw [decide_eq_false this, Bool.false_or]
theorem fold_has (xs : List Int) (hx : Byt xs) (l : List Int) (hl : ∀ n ∈ l, 1 ≤ n ∧ n ≤ 8 * (xs.length : Int)) : Byt (l.foldl setN xs) ∧ ∀ m, 1 ≤ m → hasN (l.foldl setN xs) m = (decide (m ∈ l) || hasN xs m) := by
  induction l generalizing xs with
  | nil => exact ⟨hx, fun m _ => by simp⟩
  | cons n l ih =>
    have hn := hl n (List.mem_cons_self)
    obtain ⟨a, b⟩ := ih (setN xs n) (setN_byt hx n) (fun k hk => by rw [setN_len]; exact hl k (List.mem_cons_of_mem _ hk))
    refine ⟨a, fun m hm => ?_⟩
    rw [List.foldl_cons, b m hm, setN_has hx n m hn.1 hn.2 hm, ← Bool.or_assoc]
    congr 1
    rw [← Bool.decide_or, decide_eq_decide, List.mem_cons, eq_comm (a := n), Or.comm]
theorem rep_has (k : Nat) (m : Int) : hasN (List.replicate k 0) m = false := by
  have e : (List.replicate k (0 : Int)).getD ((m - 1).toNat / 8) 0 = 0 := by
    rw [List.getD_eq_getElem?_getD, List.getElem?_replicate]
    split <;> rfl
  have h : ∀ s < 8, bitAt 0 s = false := by decide +kernel
  unfold hasN
  rw [e]
  exact h _ (Nat.mod_lt _ (by decide))
theorem rep_byt (k : Nat) : Byt (List.replicate k 0) := fun x hx => by
  rw [List.eq_of_mem_replicate hx]
  exact ⟨by decide, by decide⟩

/-! ### lists in order -/
theorem sorted_ext : ∀ (a b : List Int), a.Pairwise (· < ·) → b.Pairwise (· < ·) → (∀ x, x ∈ a ↔ x ∈ b) → a = b
  | [], [], _, _, _ => rfl
  | [], y :: b, _, _, h => absurd ((h y).2 List.mem_cons_self) List.not_mem_nil
  | x :: a, [], _, _, h => absurd ((h x).1 List.mem_cons_self) List.not_mem_nil
  | x :: a, y :: b, ha, hb, h => by
    rw [List.pairwise_cons] at ha hb
    have hxy : x = y := by
      have h1 := (h x).1 List.mem_cons_self
      have h2 := (h y).2 List.mem_cons_self
      rcases List.mem_cons.1 h1 with h1 | h1
      · exact h1
      · rcases List.mem_cons.1 h2 with h2 | h2
        · exact h2.symm
        · have := hb.1 x h1
          have := ha.1 y h2
          omega
    subst hxy
    rw [sorted_ext a b ha.2 hb.2 fun z => ?_]
    have hz := h z
    constructor
    · intro hm
      rcases List.mem_cons.1 (hz.1 (List.mem_cons_of_mem _ hm)) with rfl | hm'
      · exact absurd (ha.1 _ hm) (Int.lt_irrefl _)
      · exact hm'
    · intro hm
      rcases List.mem_cons.1 (hz.2 (List.mem_cons_of_mem _ hm)) with rfl | hm'
      · exact absurd (hb.1 _ hm) (Int.lt_irrefl _)
      · exact hm'
theorem which_sorted (p : Int → Bool) (a : Int) (k : Nat) : (whichL p a k).Pairwise (· < ·) := by
  unfold whichL
  refine List.Pairwise.filter _ (List.Pairwise.map _ (fun x y (h : x < y) => ?_) List.pairwise_lt_range)
  show a + (x : Int) < a + (y : Int)
  omega
theorem which_mem (p : Int → Bool) (a : Int) (k : Nat) (x : Int) : x ∈ whichL p a k ↔ (a ≤ x ∧ x < a + k) ∧ p x = true := by
  unfold whichL
  rw [List.mem_filter, List.mem_map]
  constructor
  · rintro ⟨⟨j, hj, rfl⟩, hp⟩
    have := List.mem_range.1 hj
    exact ⟨⟨by omega, by omega⟩, hp⟩
  · rintro ⟨⟨h1, h2⟩, hp⟩
    exact ⟨⟨(x - a).toNat, List.mem_range.2 (by omega), by omega⟩, hp⟩
/-- what is in order, and may be -/
theorem lastOk_some {was : Int} {l : List Int} {x : Int} (h : lastOk was l = some x) : l.Pairwise (· < ·) ∧ (∀ n ∈ l, was < n ∧ n ≤ 128 ∧ n ≠ 65 ∧ n ≤ x) ∧ (x = was ∨ x ∈ l) := by
  induction l generalizing was with
  | nil =>
    have : was = x := by simpa [lastOk] using h
    exact ⟨List.Pairwise.nil, (fun n hn => by cases hn), Or.inl this.symm⟩
  | cons n l ih =>
    rw [lastOk] at h
    split at h
    · cases h
    · rename_i hc
      obtain ⟨a, b, c⟩ := ih h
      have hx : n ≤ x := by
        rcases c with rfl | c
        · exact Int.le_refl _
        · exact Int.le_of_lt (b x c).1
      refine ⟨List.pairwise_cons.2 ⟨fun k hk => (b k hk).1, a⟩, fun k hk => ?_, Or.inr ?_⟩
      · rcases List.mem_cons.1 hk with rfl | hk
        · exact ⟨by omega, by omega, by omega, hx⟩
        · have := b k hk
          exact ⟨by omega, this.2.1, this.2.2.1, this.2.2.2⟩
      · rcases c with rfl | c
        · exact List.mem_cons_self
        · exact List.mem_cons_of_mem _ c
theorem lastOk_of {was : Int} {l : List Int} (hs : l.Pairwise (· < ·)) (hl : ∀ n ∈ l, was < n ∧ n ≤ 128 ∧ n ≠ 65) : ∃ x, lastOk was l = some x := by
  induction l generalizing was with
  | nil => exact ⟨was, rfl⟩
  | cons n l ih =>
    rw [List.pairwise_cons] at hs
    have hn := hl n List.mem_cons_self
    obtain ⟨x, hx⟩ := ih (was := n) hs.2 fun k hk => ⟨hs.1 k hk, (hl k (List.mem_cons_of_mem _ hk)).2⟩
    exact ⟨x, by rw [lastOk, if_neg (by omega), hx]⟩

/-! ### a map there and back -/
/-- the map of some numbers: where its bits are -/
theorem mapB_some {l : List Int} {x : Int} (h : lastOk 1 l = some x) : mapB l = (l.foldl setN (if 64 < x then setN (List.replicate 16 0) 1 else List.replicate 8 0), 0) := by
  rw [mapB, h]
theorem mapB_small {l : List Int} {x : Int} (h : lastOk 1 l = some x) (hx : x ≤ 64) : (mapB l).2 = 0 ∧ (mapB l).1.length = 8 ∧ Byt (mapB l).1 ∧ ∀ m, 1 ≤ m → hasN (mapB l).1 m = decide (m ∈ l) := by
  obtain ⟨hs, hl, _⟩ := lastOk_some h
  rw [mapB_some h, if_neg (by omega)]
  obtain ⟨a, b⟩ := fold_has (List.replicate 8 0) (rep_byt 8) l fun n hn => by
    have := hl n hn
    rw [List.length_replicate]
    omega
  exact ⟨rfl, by rw [foldl_setN_len, List.length_replicate], a, fun m hm => by rw [b m hm, rep_has, Bool.or_false]⟩
theorem mapB_big {l : List Int} {x : Int} (h : lastOk 1 l = some x) (hx : 64 < x) : (mapB l).2 = 0 ∧ (mapB l).1.length = 16 ∧ Byt (mapB l).1 ∧ ∀ m, 1 ≤ m → hasN (mapB l).1 m = (decide (m ∈ l) || decide (1 = m)) := by
  obtain ⟨hs, hl, _⟩ := lastOk_some h
  rw [mapB_some h, if_pos hx]
  obtain ⟨a, b⟩ := fold_has (setN (List.replicate 16 0) 1) (setN_byt (rep_byt 16) 1) l fun n hn => by
    have := hl n hn
    rw [setN_len, List.length_replicate]
    omega
  exact ⟨rfl, by rw [foldl_setN_len, setN_len, List.length_replicate], a, fun m hm => by
    rw [b m hm, setN_has (rep_byt 16) 1 m (by decide) (by rw [List.length_replicate]; decide) hm, rep_has, Bool.or_false]⟩
theorem hasN_take (l : List Int) (k : Nat) (m : Int) (hm : (m - 1).toNat / 8 < k) : hasN (l.take k) m = hasN l m := by
  unfold hasN
  rw [List.getD_eq_getElem?_getD, List.getElem?_take_of_lt hm, ← List.getD_eq_getElem?_getD]
theorem mapB_zero {l : List Int} (h : (mapB l).2 = 0) : ∃ x, lastOk 1 l = some x := by
  unfold mapB at h
  split at h
  · cases h
  · rename_i x hx
    exact ⟨x, hx⟩
theorem bool_eq_iff' {a b : Bool} : (a = true ↔ b = true) → a = b := by
  cases a <;> cases b <;> simp
/-- what is written is read -/
theorem mapOf_mapB (l rest : List Int) (h : (mapB l).2 = 0) : mapOf ((mapB l).1 ++ rest) = (l, ((mapB l).1.length : Int), 0) := by
  obtain ⟨x, hx⟩ := mapB_zero h
  obtain ⟨hs, hl, hm⟩ := lastOk_some hx
  rcases Int.lt_or_le 64 x with h64 | h64
  · obtain ⟨_, b, c, d⟩ := mapB_big hx h64
    have t16 : ((mapB l).1 ++ rest).take 16 = (mapB l).1 := by rw [← b]; exact List.take_left
    have t8 : hasN (((mapB l).1 ++ rest).take 8) 1 = true := by
      rw [hasN_take _ 8 1 (by decide), ← hasN_take _ 16 1 (by decide), t16, d 1 (by decide)]
      simp
    have h65 : hasN (mapB l).1 65 = false := by
      rw [d 65 (by decide)]
      have : ¬ (65 : Int) ∈ l := fun hh => (hl 65 hh).2.2.1 rfl
      simp [this]
    have hxl : x ∈ l := by
      rcases hm with hm | hm
      · omega
      · exact hm
    have hxw : x ∈ whichL (hasN (mapB l).1) 66 63 := by
      have := hl x hxl
      rw [which_mem, d x (by omega)]
      exact ⟨⟨by omega, by omega⟩, by simp [hxl]⟩
    have hne : ¬ (whichL (hasN (mapB l).1) 66 63).length = 0 := fun hh => by
      rw [List.length_eq_zero_iff.1 hh] at hxw
      cases hxw
    have hlen : 16 ≤ ((mapB l).1 ++ rest).length := by rw [List.length_append, b]; omega
    rw [mapOf, if_neg (by omega), t8, if_neg (by decide), if_neg (by omega), t16, h65, if_neg (by decide), if_neg hne, b]
    congr 1
    refine sorted_ext _ _ (which_sorted _ _ _) hs fun m => ?_
    rw [which_mem]
    constructor
    · rintro ⟨⟨h1, h2⟩, hh⟩
      rw [d m (by omega)] at hh
      have : ¬ (1 : Int) = m := by omega
      simpa [this] using hh
    · intro hh
      have := hl m hh
      refine ⟨⟨by omega, by omega⟩, ?_⟩
      rw [d m (by omega)]
      simp [hh]
  · obtain ⟨_, b, c, d⟩ := mapB_small hx h64
    have t8 : ((mapB l).1 ++ rest).take 8 = (mapB l).1 := by rw [← b]; exact List.take_left
    have h1 : hasN (mapB l).1 1 = false := by
      rw [d 1 (by decide)]
      have : ¬ (1 : Int) ∈ l := fun hh => absurd (hl 1 hh).1 (by decide)
      simp [this]
    have hlen : 8 ≤ ((mapB l).1 ++ rest).length := by rw [List.length_append, b]; omega
    rw [mapOf, if_neg (by omega), t8, h1, if_pos rfl, b]
    congr 1
    refine sorted_ext _ _ (which_sorted _ _ _) hs fun m => ?_
    rw [which_mem]
    constructor
    · rintro ⟨⟨h1, h2⟩, hh⟩
      rw [d m (by omega)] at hh
      simpa using hh
    · intro hh
      have := hl m hh
      refine ⟨⟨by omega, by omega⟩, ?_⟩
      rw [d m (by omega)]
      simp [hh]
/-- a map that is cut is none -/
theorem mapOf_cut (l : List Int) (h : (mapB l).2 = 0) (k : Nat) (hk : k < (mapB l).1.length) : (mapOf ((mapB l).1.take k)).2.2 ≠ 0 := by
  obtain ⟨x, hx⟩ := mapB_zero h
  have hlen : ((mapB l).1.take k).length = k := by rw [List.length_take]; omega
  rcases Nat.lt_or_ge k 8 with h8 | h8
  · rw [mapOf, if_pos (by omega)]
    exact (by decide : (3 : Int) ≠ 0)
  · rcases Int.lt_or_le 64 x with h64 | h64
    · obtain ⟨_, b, c, d⟩ := mapB_big hx h64
      have t8 : hasN (((mapB l).1.take k).take 8) 1 = true := by
        have hk0 : ((1 : Int) - 1).toNat / 8 < k := Nat.lt_of_lt_of_le (by decide : ((1 : Int) - 1).toNat / 8 < 8) h8
        rw [hasN_take _ 8 1 (by decide), hasN_take _ k 1 hk0, d 1 (by decide)]
        simp
      rw [mapOf, if_neg (by omega), t8, if_neg (by decide), if_pos (by omega)]
      exact (by decide : (3 : Int) ≠ 0)
    · obtain ⟨_, b, _⟩ := mapB_small hx h64
      omega
theorem bytes_ext {a b : List Int} (ha : Byt a) (hb : Byt b) (hl : a.length = b.length) (h : ∀ m : Int, 1 ≤ m → m ≤ 8 * (a.length : Int) → hasN a m = hasN b m) : a = b := by
  refine List.ext_getElem? fun q => ?_
  rcases Nat.lt_or_ge q a.length with hq | hq
  · rw [List.getElem?_eq_getElem hq, List.getElem?_eq_getElem (by omega : q < b.length)]
    congr 1
    refine byte_ext (ha _ (List.getElem_mem hq)) (hb _ (List.getElem_mem _)) fun s hs => ?_
    have := h ((8 * q + s : Nat) + 1) (by omega) (by omega)
    unfold hasN at this
    have e : (((8 * q + s : Nat) : Int) + 1 - 1).toNat = 8 * q + s := by omega
    have e1 : (8 * q + s) / 8 = q := by omega
    have e2 : (8 * q + s) % 8 = s := by omega
    rw [e, e1, e2, List.getD_eq_getElem?_getD, List.getD_eq_getElem?_getD, List.getElem?_eq_getElem hq, List.getElem?_eq_getElem (by omega : q < b.length)] at this
    exact this
  · rw [List.getElem?_eq_none hq, List.getElem?_eq_none (by omega)]
/-- what is read is written -/
theorem mapB_mapOf (t : List Int) (ht : Byt t) (h : (mapOf t).2.2 = 0) : (mapB (mapOf t).1).2 = 0 ∧ (mapB (mapOf t).1).1 = t.take (mapOf t).2.1.toNat ∧ (mapOf t).2.1.toNat ≤ t.length := by
  unfold mapOf at h ⊢
  split at h
  · cases h
  rename_i h8
  rw [if_neg h8]
  split at h
  · rename_i hb
    rw [if_pos hb]
    show (mapB (whichL (hasN (t.take 8)) 2 63)).2 = 0 ∧ (mapB (whichL (hasN (t.take 8)) 2 63)).1 = t.take 8 ∧ 8 ≤ t.length
    have hw := which_mem (hasN (t.take 8)) 2 63
    obtain ⟨x, hx⟩ := lastOk_of (was := 1) (which_sorted (hasN (t.take 8)) 2 63) fun n hn => by
      have := (hw n).1 hn
      omega
    have hx64 : x ≤ 64 := by
      rcases (lastOk_some hx).2.2 with rfl | hm
      · decide
      · have := (hw x).1 hm
        omega
    obtain ⟨a, b, c, d⟩ := mapB_small hx hx64
    refine ⟨a, bytes_ext c (ht.take 8) (by rw [b, List.length_take]; omega) fun m h1 h2 => ?_, by omega⟩
    rw [d m h1]
    rw [b] at h2
    refine bool_eq_iff' ?_
    rw [decide_eq_true_eq, hw]
    constructor
    · exact fun hh => hh.2
    · intro hh
      refine ⟨⟨?_, by omega⟩, hh⟩
      rcases Int.lt_or_le m 2 with hm | hm
      · have : m = 1 := by omega
        subst this
        rw [hb] at hh
        cases hh
      · exact hm
  rename_i hb
  rw [if_neg hb]
  split at h
  · cases h
  rename_i h16
  rw [if_neg h16]
  split at h
  · cases h
  rename_i h65
  rw [if_neg h65]
  split at h
  · cases h
  rename_i hw0
  rw [if_neg hw0]
  show (mapB (whichL (hasN (t.take 16)) 2 127)).2 = 0 ∧ (mapB (whichL (hasN (t.take 16)) 2 127)).1 = t.take 16 ∧ 16 ≤ t.length
  have hb' : hasN (t.take 16) 1 = true := by
    rw [hasN_take _ 16 1 (by decide), ← hasN_take _ 8 1 (by decide)]
    simpa using hb
  have h65' : hasN (t.take 16) 65 = false := by simpa using h65
  have hw := which_mem (hasN (t.take 16)) 2 127
  obtain ⟨x, hx⟩ := lastOk_of (was := 1) (which_sorted (hasN (t.take 16)) 2 127) fun n hn => by
    have := (hw n).1 hn
    refine ⟨by omega, by omega, fun hh => ?_⟩
    rw [hh, h65'] at this
    cases this.2
  have hx64 : 64 < x := by
    obtain ⟨y, hy⟩ := List.exists_mem_of_length_pos (Nat.pos_of_ne_zero hw0)
    have hy' := (which_mem _ _ _ _).1 hy
    have := ((lastOk_some hx).2.1 y ((hw y).2 ⟨⟨by omega, by omega⟩, hy'.2⟩)).2.2.2
    omega
  obtain ⟨a, b, c, d⟩ := mapB_big hx hx64
  refine ⟨a, bytes_ext c (ht.take 16) (by rw [b, List.length_take]; omega) fun m h1 h2 => ?_, by omega⟩
  rw [d m h1]
  rw [b] at h2
  refine bool_eq_iff' ?_
  rw [Bool.or_eq_true, decide_eq_true_eq, decide_eq_true_eq, hw]
  constructor
  · rintro (hh | rfl)
    · exact hh.2
    · exact hb'
  · intro hh
    rcases Int.lt_or_le m 2 with hm | hm
    · exact Or.inr (by omega)
    · exact Or.inl ⟨⟨hm, by omega⟩, hh⟩
end Go.Proofs.YtonhmaklnkidhaaDoor.G
