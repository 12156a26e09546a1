/- What the functions of package element and of the verifier do, one contract each: a part of the proof; no conditions of its own (my own text, filled from XMV.lean.tpl). -/
import Derived.Test.YtonhmaklnkidhaaDoorU15
import Derived.Deep.SlicePairs
import Derived.OpenShut
import Derived.ChangeArms
namespace Go.Proofs.YtonhmaklnkidhaaDoor.G
open Go.RowKit Go.Proofs.YtonhmaklnkidhaaDoorW.PrintWords

/-- numbers that are bytes -/
def Byt (l : List Int) : Prop := ∀ x ∈ l, 0 ≤ x ∧ x ≤ 255
theorem Byt.at {l : List Int} (h : Byt l) (q : Nat) : 0 ≤ l.getD q 0 ∧ l.getD q 0 ≤ 255 := by
  rw [List.getD_eq_getElem?_getD]
  rcases Nat.lt_or_ge q l.length with hq | hq
  · rw [List.getElem?_eq_getElem hq]
    exact h _ (List.getElem_mem hq)
  · rw [List.getElem?_eq_none hq]
    exact ⟨by decide, by decide⟩
theorem Byt.take {l : List Int} (h : Byt l) (n : Nat) : Byt (l.take n) := fun x hx => h x (List.mem_of_mem_take hx)
theorem Byt.drop {l : List Int} (h : Byt l) (n : Nat) : Byt (l.drop n) := fun x hx => h x (List.mem_of_mem_drop hx)
theorem Byt.app {l r : List Int} (h : Byt l) (g : Byt r) : Byt (l ++ r) := fun x hx => by
  rcases List.mem_append.1 hx with hx | hx
  · exact h x hx
  · exact g x hx
set_option maxRecDepth 100000 in
theorem or_bit_dec : ∀ x < 256, ∀ r < 8, (decide (0 ≤ Go.bits .or .u8 ((x : Nat) : Int) (2 ^ (7 - r) % 256)) && decide (Go.bits .or .u8 ((x : Nat) : Int) (2 ^ (7 - r) % 256) ≤ 255)) = true ∧ ∀ s < 8, bitAt (Go.bits .or .u8 ((x : Nat) : Int) (2 ^ (7 - r) % 256)) s = (decide (r = s) || bitAt ((x : Nat) : Int) s) := by decide +kernel
theorem or_bit (x : Int) (h0 : 0 ≤ x) (h1 : x ≤ 255) (r : Nat) (hr : r < 8) : (0 ≤ Go.bits .or .u8 x (2 ^ (7 - r) % 256) ∧ Go.bits .or .u8 x (2 ^ (7 - r) % 256) ≤ 255) ∧ ∀ s < 8, bitAt (Go.bits .or .u8 x (2 ^ (7 - r) % 256)) s = (decide (r = s) || bitAt x s) := by
  obtain ⟨m, rfl⟩ := Int.eq_ofNat_of_zero_le h0
  obtain ⟨a, b⟩ := or_bit_dec m (by omega) r hr
  simp only [Bool.and_eq_true, decide_eq_true_eq] at a
  exact ⟨a, b⟩
/-- a byte out of its bits -/
def ofBits (p : Nat → Bool) : Int := (if p 0 then 128 else 0) + (if p 1 then 64 else 0) + (if p 2 then 32 else 0) + (if p 3 then 16 else 0) + (if p 4 then 8 else 0) + (if p 5 then 4 else 0) + (if p 6 then 2 else 0) + (if p 7 then 1 else 0)
theorem of_bits_dec : ∀ x < 256, ofBits (bitAt ((x : Nat) : Int)) = ((x : Nat) : Int) := by decide +kernel
theorem byte_ext {x y : Int} (hx : 0 ≤ x ∧ x ≤ 255) (hy : 0 ≤ y ∧ y ≤ 255) (h : ∀ s < 8, bitAt x s = bitAt y s) : x = y := by
  obtain ⟨m, rfl⟩ := Int.eq_ofNat_of_zero_le hx.1
  obtain ⟨n, rfl⟩ := Int.eq_ofNat_of_zero_le hy.1
  rw [← of_bits_dec m (by omega), ← of_bits_dec n (by omega)]
  unfold ofBits
  rw [h 0 (by decide), h 1 (by decide), h 2 (by decide), h 3 (by decide), h 4 (by decide), h 5 (by decide), h 6 (by decide), h 7 (by decide)]
theorem Byt.set {l : List Int} (h : Byt l) (q : Nat) {x : Int} (hx : 0 ≤ x ∧ x ≤ 255) : Byt (l.set q x) := fun y hy => by
  rcases List.mem_or_eq_of_mem_set hy with hy | rfl
  · exact h y hy
  · exact hx
theorem setN_byt {l : List Int} (h : Byt l) (n : Int) : Byt (setN l n) := h.set _ (or_bit _ (h.at _).1 (h.at _).2 _ (Nat.mod_lt _ (by decide))).1
theorem setN_has {l : List Int} (h : Byt l) (n m : Int) (h1 : 1 ≤ n) (h2 : n ≤ 8 * l.length) (m1 : 1 ≤ m) : hasN (setN l n) m = (decide (n = m) || hasN l m) := by
  unfold hasN setN setAt
  obtain ⟨a, ha⟩ : ∃ a : Nat, n = a + 1 := ⟨(n - 1).toNat, by omega⟩
  obtain ⟨b, hb⟩ : ∃ b : Nat, m = b + 1 := ⟨(m - 1).toNat, by omega⟩
  subst ha
  subst hb
  have ea : ((a : Int) + 1 - 1).toNat = a := by omega
  have eb : ((b : Int) + 1 - 1).toNat = b := by omega
  rw [ea, eb]
  have hq : a / 8 < l.length := by omega
  rw [List.getD_eq_getElem?_getD (l := l.set _ _), List.getElem?_set]
  by_cases hab : a / 8 = b / 8
  · rw [if_pos hab, if_pos hq, Option.getD_some, (or_bit _ (h.at _).1 (h.at _).2 _ (Nat.mod_lt _ (by decide))).2 _ (Nat.mod_lt _ (by decide)), hab]
    congr 1
    rw [decide_eq_decide]
    omega
  · rw [if_neg hab, ← List.getD_eq_getElem?_getD]
    have : ¬ ((a : Int) + 1 = b + 1) := by omega
    rw [decide_eq_false this, Bool.false_or]
theorem fold_has (xs : List Int) (hx : Byt xs) (l : List Int) (hl : ∀ n ∈ l, 1 ≤ n ∧ n ≤ 8 * (xs.length : Int)) : Byt (l.foldl setN xs) ∧ ∀ m, 1 ≤ m → hasN (l.foldl setN xs) m = (decide (m ∈ l) || hasN xs m) := by
  induction l generalizing xs with
  | nil => exact ⟨hx, fun m _ => by simp⟩
  | cons n l ih =>
    have hn := hl n (List.mem_cons_self)
    obtain ⟨a, b⟩ := ih (setN xs n) (setN_byt hx n) (fun k hk => by rw [setN_len]; exact hl k (List.mem_cons_of_mem _ hk))
    refine ⟨a, fun m hm => ?_⟩
    rw [List.foldl_cons, b m hm, setN_has hx n m hn.1 hn.2 hm, ← Bool.or_assoc]
    congr 1
    rw [← Bool.decide_or, decide_eq_decide, List.mem_cons, eq_comm (a := n), Or.comm]
theorem rep_has (k : Nat) (m : Int) : hasN (List.replicate k 0) m = false := by
  have e : (List.replicate k (0 : Int)).getD ((m - 1).toNat / 8) 0 = 0 := by
    rw [List.getD_eq_getElem?_getD, List.getElem?_replicate]
    split <;> rfl
  have h : ∀ s < 8, bitAt 0 s = false := by decide +kernel
  unfold hasN
  rw [e]
  exact h _ (Nat.mod_lt _ (by decide))
theorem rep_byt (k : Nat) : Byt (List.replicate k 0) := fun x hx => by
  rw [List.eq_of_mem_replicate hx]
  exact ⟨by decide, by decide⟩

/-! ### lists in order -/
theorem sorted_ext : ∀ (a b : List Int), a.Pairwise (· < ·) → b.Pairwise (· < ·) → (∀ x, x ∈ a ↔ x ∈ b) → a = b
  | [], [], _, _, _ => rfl
  | [], y :: b, _, _, h => absurd ((h y).2 List.mem_cons_self) List.not_mem_nil
  | x :: a, [], _, _, h => absurd ((h x).1 List.mem_cons_self) List.not_mem_nil
  | x :: a, y :: b, ha, hb, h => by
    rw [List.pairwise_cons] at ha hb
    have hxy : x = y := by
      have h1 := (h x).1 List.mem_cons_self
      have h2 := (h y).2 List.mem_cons_self
      rcases List.mem_cons.1 h1 with h1 | h1
      · exact h1
      · rcases List.mem_cons.1 h2 with h2 | h2
        · exact h2.symm
        · have := hb.1 x h1
          have := ha.1 y h2
          omega
    subst hxy
    rw [sorted_ext a b ha.2 hb.2 fun z => ?_]
    have hz := h z
    constructor
    · intro hm
      rcases List.mem_cons.1 (hz.1 (List.mem_cons_of_mem _ hm)) with rfl | hm'
      · exact absurd (ha.1 _ hm) (Int.lt_irrefl _)
      · exact hm'
    · intro hm
      rcases List.mem_cons.1 (hz.2 (List.mem_cons_of_mem _ hm)) with rfl | hm'
      · exact absurd (hb.1 _ hm) (Int.lt_irrefl _)
      · exact hm'
theorem which_sorted (p : Int → Bool) (a : Int) (k : Nat) : (whichL p a k).Pairwise (· < ·) := by
  unfold whichL
  refine List.Pairwise.filter _ (List.Pairwise.map _ (fun x y (h : x < y) => ?_) List.pairwise_lt_range)
  show a + (x : Int) < a + (y : Int)
  omega
theorem which_mem (p : Int → Bool) (a : Int) (k : Nat) (x : Int) : x ∈ whichL p a k ↔ (a ≤ x ∧ x < a + k) ∧ p x = true := by
  unfold whichL
  rw [List.mem_filter, List.mem_map]
  constructor
  · rintro ⟨⟨j, hj, rfl⟩, hp⟩
    have := List.mem_range.1 hj
    exact ⟨⟨by omega, by omega⟩, hp⟩
  · rintro ⟨⟨h1, h2⟩, hp⟩
    exact ⟨⟨(x - a).toNat, List.mem_range.2 (by omega), by omega⟩, hp⟩
/-- what is in order, and may be -/
theorem lastOk_some {was : Int} {l : List Int} {x : Int} (h : lastOk was l = some x) : l.Pairwise (· < ·) ∧ (∀ n ∈ l, was < n ∧ n ≤ 128 ∧ n ≠ 65 ∧ n ≤ x) ∧ (x = was ∨ x ∈ l) := by
  induction l generalizing was with
  | nil =>
    have : was = x := by simpa [lastOk] using h
    exact ⟨List.Pairwise.nil, (fun n hn => by cases hn), Or.inl this.symm⟩
  | cons n l ih =>
    rw [lastOk] at h
    split at h
    · cases h
    · rename_i hc
      obtain ⟨a, b, c⟩ := ih h
      have hx : n ≤ x := by
        rcases c with rfl | c
        · exact Int.le_refl _
        · exact Int.le_of_lt (b x c).1
      refine ⟨List.pairwise_cons.2 ⟨fun k hk => (b k hk).1, a⟩, fun k hk => ?_, Or.inr ?_⟩
      · rcases List.mem_cons.1 hk with rfl | hk
        · exact ⟨by omega, by omega, by omega, hx⟩
        · have := b k hk
          exact ⟨by omega, this.2.1, this.2.2.1, this.2.2.2⟩
      · rcases c with rfl | c
        · exact List.mem_cons_self
        · exact List.mem_cons_of_mem _ c
theorem lastOk_of {was : Int} {l : List Int} (hs : l.Pairwise (· < ·)) (hl : ∀ n ∈ l, was < n ∧ n ≤ 128 ∧ n ≠ 65) : ∃ x, lastOk was l = some x := by
  induction l generalizing was with
  | nil => exact ⟨was, rfl⟩
  | cons n l ih =>
    rw [List.pairwise_cons] at hs
    have hn := hl n List.mem_cons_self
    obtain ⟨x, hx⟩ := ih (was := n) hs.2 fun k hk => ⟨hs.1 k hk, (hl k (List.mem_cons_of_mem _ hk)).2⟩
    exact ⟨x, by rw [lastOk, if_neg (by omega), hx]⟩

/-! ### a map there and back -/
/-- the map of some numbers: where its bits are -/
theorem mapB_some {l : List Int} {x : Int} (h : lastOk 1 l = some x) : mapB l = (l.foldl setN (if 64 < x then setN (List.replicate 16 0) 1 else List.replicate 8 0), 0) := by
  rw [mapB, h]
theorem mapB_small {l : List Int} {x : Int} (h : lastOk 1 l = some x) (hx : x ≤ 64) : (mapB l).2 = 0 ∧ (mapB l).1.length = 8 ∧ Byt (mapB l).1 ∧ ∀ m, 1 ≤ m → hasN (mapB l).1 m = decide (m ∈ l) := by
  obtain ⟨hs, hl, _⟩ := lastOk_some h
  rw [mapB_some h, if_neg (by omega)]
  obtain ⟨a, b⟩ := fold_has (List.replicate 8 0) (rep_byt 8) l fun n hn => by
    have := hl n hn
    rw [List.length_replicate]
    omega
  exact ⟨rfl, by rw [foldl_setN_len, List.length_replicate], a, fun m hm => by rw [b m hm, rep_has, Bool.or_false]⟩
theorem mapB_big {l : List Int} {x : Int} (h : lastOk 1 l = some x) (hx : 64 < x) : (mapB l).2 = 0 ∧ (mapB l).1.length = 16 ∧ Byt (mapB l).1 ∧ ∀ m, 1 ≤ m → hasN (mapB l).1 m = (decide (m ∈ l) || decide (1 = m)) := by
  obtain ⟨hs, hl, _⟩ := lastOk_some h
  rw [mapB_some h, if_pos hx]
  obtain ⟨a, b⟩ := fold_has (setN (List.replicate 16 0) 1) (setN_byt (rep_byt 16) 1) l fun n hn => by
    have := hl n hn
    rw [setN_len, List.length_replicate]
    omega
  exact ⟨rfl, by rw [foldl_setN_len, setN_len, List.length_replicate], a, fun m hm => by
    rw [b m hm, setN_has (rep_byt 16) 1 m (by decide) (by rw [List.length_replicate]; decide) hm, rep_has, Bool.or_false]⟩
theorem hasN_take (l : List Int) (k : Nat) (m : Int) (hm : (m - 1).toNat / 8 < k) : hasN (l.take k) m = hasN l m := by
  unfold hasN
  rw [List.getD_eq_getElem?_getD, List.getElem?_take_of_lt hm, ← List.getD_eq_getElem?_getD]
theorem mapB_zero {l : List Int} (h : (mapB l).2 = 0) : ∃ x, lastOk 1 l = some x := by
  unfold mapB at h
  split at h
  · cases h
  · rename_i x hx
    exact ⟨x, hx⟩
theorem bool_eq_iff' {a b : Bool} : (a = true ↔ b = true) → a = b := by
  cases a <;> cases b <;> simp
/-- what is written is read -/
theorem mapOf_mapB (l rest : List Int) (h : (mapB l).2 = 0) : mapOf ((mapB l).1 ++ rest) = (l, ((mapB l).1.length : Int), 0) := by
  obtain ⟨x, hx⟩ := mapB_zero h
  obtain ⟨hs, hl, hm⟩ := lastOk_some hx
  rcases Int.lt_or_le 64 x with h64 | h64
  · obtain ⟨_, b, c, d⟩ := mapB_big hx h64
    have t16 : ((mapB l).1 ++ rest).take 16 = (mapB l).1 := by rw [← b]; exact List.take_left
    have t8 : hasN (((mapB l).1 ++ rest).take 8) 1 = true := by
      rw [hasN_take _ 8 1 (by decide), ← hasN_take _ 16 1 (by decide), t16, d 1 (by decide)]
      simp
    have h65 : hasN (mapB l).1 65 = false := by
      rw [d 65 (by decide)]
      have : ¬ (65 : Int) ∈ l := fun hh => (hl 65 hh).2.2.1 rfl
      simp [this]
    have hxl : x ∈ l := by
      rcases hm with hm | hm
      · omega
      · exact hm
    have hxw : x ∈ whichL (hasN (mapB l).1) 66 63 := by
      have := hl x hxl
      rw [which_mem, d x (by omega)]
      exact ⟨⟨by omega, by omega⟩, by simp [hxl]⟩
    have hne : ¬ (whichL (hasN (mapB l).1) 66 63).length = 0 := fun hh => by
      rw [List.length_eq_zero_iff.1 hh] at hxw
      cases hxw
    have hlen : 16 ≤ ((mapB l).1 ++ rest).length := by rw [List.length_append, b]; omega
    rw [mapOf, if_neg (by omega), t8, if_neg (by decide), if_neg (by omega), t16, h65, if_neg (by decide), if_neg hne, b]
    congr 1
    refine sorted_ext _ _ (which_sorted _ _ _) hs fun m => ?_
    rw [which_mem]
    constructor
    · rintro ⟨⟨h1, h2⟩, hh⟩
      rw [d m (by omega)] at hh
      have : ¬ (1 : Int) = m := by omega
      simpa [this] using hh
    · intro hh
      have := hl m hh
      refine ⟨⟨by omega, by omega⟩, ?_⟩
      rw [d m (by omega)]
      simp [hh]
  · obtain ⟨_, b, c, d⟩ := mapB_small hx h64
    have t8 : ((mapB l).1 ++ rest).take 8 = (mapB l).1 := by rw [← b]; exact List.take_left
    have h1 : hasN (mapB l).1 1 = false := by
      rw [d 1 (by decide)]
      have : ¬ (1 : Int) ∈ l := fun hh => absurd (hl 1 hh).1 (by decide)
      simp [this]
    have hlen : 8 ≤ ((mapB l).1 ++ rest).length := by rw [List.length_append, b]; omega
    rw [mapOf, if_neg (by omega), t8, h1, if_pos rfl, b]
    congr 1
    refine sorted_ext _ _ (which_sorted _ _ _) hs fun m => ?_
    rw [which_mem]
    constructor
    · rintro ⟨⟨h1, h2⟩, hh⟩
      rw [d m (by omega)] at hh
      simpa using hh
    · intro hh
      have := hl m hh
      refine ⟨⟨by omega, by omega⟩, ?_⟩
      rw [d m (by omega)]
      simp [hh]
/-- a map that is cut is none -/
theorem mapOf_cut (l : List Int) (h : (mapB l).2 = 0) (k : Nat) (hk : k < (mapB l).1.length) : (mapOf ((mapB l).1.take k)).2.2 ≠ 0 := by
  obtain ⟨x, hx⟩ := mapB_zero h
  have hlen : ((mapB l).1.take k).length = k := by rw [List.length_take]; omega
  rcases Nat.lt_or_ge k 8 with h8 | h8
  · rw [mapOf, if_pos (by omega)]
    exact (by decide : (3 : Int) ≠ 0)
  · rcases Int.lt_or_le 64 x with h64 | h64
    · obtain ⟨_, b, c, d⟩ := mapB_big hx h64
      have t8 : hasN (((mapB l).1.take k).take 8) 1 = true := by
        have hk0 : ((1 : Int) - 1).toNat / 8 < k := Nat.lt_of_lt_of_le (by decide : ((1 : Int) - 1).toNat / 8 < 8) h8
        rw [hasN_take _ 8 1 (by decide), hasN_take _ k 1 hk0, d 1 (by decide)]
        simp
      rw [mapOf, if_neg (by omega), t8, if_neg (by decide), if_pos (by omega)]
      exact (by decide : (3 : Int) ≠ 0)
    · obtain ⟨_, b, _⟩ := mapB_small hx h64
      omega
theorem bytes_ext {a b : List Int} (ha : Byt a) (hb : Byt b) (hl : a.length = b.length) (h : ∀ m : Int, 1 ≤ m → m ≤ 8 * (a.length : Int) → hasN a m = hasN b m) : a = b := by
  refine List.ext_getElem? fun q => ?_
  rcases Nat.lt_or_ge q a.length with hq | hq
  · rw [List.getElem?_eq_getElem hq, List.getElem?_eq_getElem (by omega : q < b.length)]
    congr 1
    refine byte_ext (ha _ (List.getElem_mem hq)) (hb _ (List.getElem_mem _)) fun s hs => ?_
    have := h ((8 * q + s : Nat) + 1) (by omega) (by omega)
    unfold hasN at this
    have e : (((8 * q + s : Nat) : Int) + 1 - 1).toNat = 8 * q + s := by omega
    have e1 : (8 * q + s) / 8 = q := by omega
    have e2 : (8 * q + s) % 8 = s := by omega
    rw [e, e1, e2, List.getD_eq_getElem?_getD, List.getD_eq_getElem?_getD, List.getElem?_eq_getElem hq, List.getElem?_eq_getElem (by omega : q < b.length)] at this
    exact this
  · rw [List.getElem?_eq_none hq, List.getElem?_eq_none (by omega)]
/-- what is read is written -/
theorem mapB_mapOf (t : List Int) (ht : Byt t) (h : (mapOf t).2.2 = 0) : (mapB (mapOf t).1).2 = 0 ∧ (mapB (mapOf t).1).1 = t.take (mapOf t).2.1.toNat ∧ (mapOf t).2.1.toNat ≤ t.length := by
  unfold mapOf at h ⊢
  split at h
  · cases h
  rename_i h8
  rw [if_neg h8]
  split at h
  · rename_i hb
    rw [if_pos hb]
    show (mapB (whichL (hasN (t.take 8)) 2 63)).2 = 0 ∧ (mapB (whichL (hasN (t.take 8)) 2 63)).1 = t.take 8 ∧ 8 ≤ t.length
    have hw := which_mem (hasN (t.take 8)) 2 63
    obtain ⟨x, hx⟩ := lastOk_of (was := 1) (which_sorted (hasN (t.take 8)) 2 63) fun n hn => by
      have := (hw n).1 hn
      omega
    have hx64 : x ≤ 64 := by
      rcases (lastOk_some hx).2.2 with rfl | hm
      · decide
      · have := (hw x).1 hm
        omega
    obtain ⟨a, b, c, d⟩ := mapB_small hx hx64
    refine ⟨a, bytes_ext c (ht.take 8) (by rw [b, List.length_take]; omega) fun m h1 h2 => ?_, by omega⟩
    rw [d m h1]
    rw [b] at h2
    refine bool_eq_iff' ?_
    rw [decide_eq_true_eq, hw]
    constructor
    · exact fun hh => hh.2
    · intro hh
      refine ⟨⟨?_, by omega⟩, hh⟩
      rcases Int.lt_or_le m 2 with hm | hm
      · have : m = 1 := by omega
        subst this
        rw [hb] at hh
        cases hh
      · exact hm
  rename_i hb
  rw [if_neg hb]
  split at h
  · cases h
  rename_i h16
  rw [if_neg h16]
  split at h
  · cases h
  rename_i h65
  rw [if_neg h65]
  split at h
  · cases h
  rename_i hw0
  rw [if_neg hw0]
  show (mapB (whichL (hasN (t.take 16)) 2 127)).2 = 0 ∧ (mapB (whichL (hasN (t.take 16)) 2 127)).1 = t.take 16 ∧ 16 ≤ t.length
  have hb' : hasN (t.take 16) 1 = true := by
    rw [hasN_take _ 16 1 (by decide), ← hasN_take _ 8 1 (by decide)]
    simpa using hb
  have h65' : hasN (t.take 16) 65 = false := by simpa using h65
  have hw := which_mem (hasN (t.take 16)) 2 127
  obtain ⟨x, hx⟩ := lastOk_of (was := 1) (which_sorted (hasN (t.take 16)) 2 127) fun n hn => by
    have := (hw n).1 hn
    refine ⟨by omega, by omega, fun hh => ?_⟩
    rw [hh, h65'] at this
    cases this.2
  have hx64 : 64 < x := by
    obtain ⟨y, hy⟩ := List.exists_mem_of_length_pos (Nat.pos_of_ne_zero hw0)
    have hy' := (which_mem _ _ _ _).1 hy
    have := ((lastOk_some hx).2.1 y ((hw y).2 ⟨⟨by omega, by omega⟩, hy'.2⟩)).2.2.2
    omega
  obtain ⟨a, b, c, d⟩ := mapB_big hx hx64
  refine ⟨a, bytes_ext c (ht.take 16) (by rw [b, List.length_take]; omega) fun m h1 h2 => ?_, by omega⟩
  rw [d m h1]
  rw [b] at h2
  refine bool_eq_iff' ?_
  rw [Bool.or_eq_true, decide_eq_true_eq, decide_eq_true_eq, hw]
  constructor
  · rintro (hh | rfl)
    · exact hh.2
    · exact hb'
  · intro hh
    rcases Int.lt_or_le m 2 with hm | hm
    · exact Or.inr (by omega)
    · exact Or.inl ⟨⟨hm, by omega⟩, hh⟩
end Go.Proofs.YtonhmaklnkidhaaDoor.G

namespace Go.Proofs.YtonhmaklnkidhaaDoor.G
open Go.RowKit Go.Proofs.YtonhmaklnkidhaaDoorW.PrintWords

theorem dec_le (v k : Nat) (h1 : 1 ≤ k) (h : v < 10 ^ k) : (Lib.decDigits v).length ≤ k := by
  rw [Lib.decDigits_length]
  exact nDigits_le k v h1 h
/-! ### elements there and back -/
theorem digit_of (u : Nat) (h : u < 10) : digit ((UInt8.ofNat (48 + u)).toNat : Int) = true ∧ ((UInt8.ofNat (48 + u)).toNat : Int) = 48 + u := by
  have e : (UInt8.ofNat (48 + u)).toNat = 48 + u := by
    rw [UInt8.toNat_ofNat']
    exact Nat.mod_eq_of_lt (by omega)
  rw [e]
  refine ⟨?_, by omega⟩
  unfold digit
  rw [Bool.and_eq_true, decide_eq_true_eq, decide_eq_true_eq]
  omega
theorem dec_num : ∀ u : Nat, numL (Lib.decDigits u) = u ∧ ∀ c ∈ Lib.decDigits u, digit (c.toNat : Int) = true := by
  intro u
  induction u using Nat.strongRecOn with
  | ind u ih =>
    rw [Lib.decDigits]
    split
    · rename_i h
      have := digit_of u h
      refine ⟨?_, fun c hc => ?_⟩
      · show (0 : Int) * 10 + (((UInt8.ofNat (48 + u)).toNat : Int) - 48) = u
        rw [this.2]
        omega
      · rw [List.mem_singleton.1 hc]
        exact this.1
    · rename_i h
      obtain ⟨a, b⟩ := ih (u / 10) (by omega)
      have := digit_of (u % 10) (by omega)
      refine ⟨?_, fun c hc => ?_⟩
      · rw [numL_snoc, a, this.2]
        omega
      · rcases List.mem_append.1 hc with hc | hc
        · exact b c hc
        · rw [List.mem_singleton.1 hc]
          exact this.1
theorem num_zeros (k : Nat) (l : List UInt8) : numL (List.replicate k 48 ++ l) = numL l := by
  unfold numL
  rw [List.foldl_append]
  congr 1
  induction k with
  | zero => rfl
  | succ k ih => rw [List.replicate_succ, List.foldl_cons]; exact ih
theorem padded_num (v D : Nat) : numL (padded v D) = v ∧ ∀ c ∈ padded v D, digit (c.toNat : Int) = true := by
  unfold padded
  refine ⟨by rw [num_zeros, (dec_num v).1], fun c hc => ?_⟩
  rcases List.mem_append.1 hc with hc | hc
  · rw [List.eq_of_mem_replicate hc]
    decide
  · exact (dec_num v).2 c hc
theorem num_inj : ∀ (l m : List UInt8) (a b : Int), l.length = m.length → (∀ c ∈ l, digit (c.toNat : Int) = true) → (∀ c ∈ m, digit (c.toNat : Int) = true) →
    l.foldl (fun v c => v * 10 + ((c.toNat : Int) - 48)) a = m.foldl (fun v c => v * 10 + ((c.toNat : Int) - 48)) b → a = b ∧ l = m
  | [], [], a, b, _, _, _, h => ⟨h, rfl⟩
  | [], d :: m, a, b, hl, _, _, _ => by cases hl
  | c :: l, [], a, b, hl, _, _, _ => by cases hl
  | c :: l, d :: m, a, b, hl, h1, h2, h => by
    rw [List.foldl_cons, List.foldl_cons] at h
    obtain ⟨e, rfl⟩ := num_inj l m _ _ (by simpa using hl) (fun x hx => h1 x (List.mem_cons_of_mem _ hx)) (fun x hx => h2 x (List.mem_cons_of_mem _ hx)) h
    have hc := h1 c List.mem_cons_self
    have hd := h2 d List.mem_cons_self
    unfold digit at hc hd
    simp only [Bool.and_eq_true, decide_eq_true_eq] at hc hd
    have e1 : c.toNat = d.toNat := by omega
    have e2 : c = d := UInt8.toNat_inj.1 e1
    subst e2
    exact ⟨by omega, rfl⟩
theorem str_nums8 (l : List UInt8) : strOfNums (nums8 l) = ⟨l.toArray⟩ := by
  unfold strOfNums nums8
  rw [List.map_map]
  congr 2
  conv => rhs; rw [← List.map_id l]
  refine List.map_congr_left fun c _ => ?_
  show UInt8.ofNat ((c.toNat : Int)).toNat = c
  rw [Int.toNat_natCast, UInt8.ofNat_toNat]
theorem str_list (xs : List Int) (h : Byt xs) : nums8 (strOfNums xs).data.toList = xs := by
  unfold strOfNums nums8
  simp only [List.map_map]
  conv => rhs; rw [← List.map_id xs]
  refine List.map_congr_left fun x hx => ?_
  have := h x hx
  show ((UInt8.ofNat x.toNat).toNat : Int) = x
  rw [UInt8.toNat_ofNat', Nat.mod_eq_of_lt (by omega)]
  omega
theorem str_size (xs : List Int) : (strOfNums xs).size = xs.length := by
  unfold strOfNums
  show (Array.size _) = _
  simp
theorem allB_list (p : Int → Bool) (s : ByteArray) : allB p s = true ↔ ∀ c ∈ s.data.toList, p (c.toNat : Int) = true := by
  unfold allB
  rw [List.all_eq_true]
theorem nums8_byt (l : List UInt8) : Byt (nums8 l) := fun x hx => by
  obtain ⟨c, _, rfl⟩ := List.mem_map.1 hx
  have := c.toNat_lt
  omega
theorem nums8_len (l : List UInt8) : (nums8 l).length = l.length := by unfold nums8; rw [List.length_map]
theorem head_len (no : Int) (n : Nat) (h : longB (fmtOf no) n = true) : (headOf (fmtOf no) n).length = (fmtOf no).digits.toNat := by
  unfold headOf
  have hb := fmt_bounds no
  split
  · rename_i h0
    rcases fmt_digits no with h1 | h1
    · omega
    · refine padded_length _ _ (dec_le _ _ (by omega) ?_)
      have := long_le h
      have e : ((10 ^ (fmtOf no).digits.toNat : Nat) : Int) = 10 ^ (fmtOf no).digits.toNat := by simp
      omega
  · have : (fmtOf no).digits = 0 := by omega
    rw [this]
    rfl
theorem head_number (no : Int) (n : Nat) (h0 : 0 < (fmtOf no).digits) (h : longB (fmtOf no) n = true) : numberOf (strOfNums (nums8 (headOf (fmtOf no) n))) = ((n : Int), 0) := by
  have hl := head_len no n h
  have hb := fmt_bounds no
  have hp := padded_num n (fmtOf no).digits.toNat
  have e : headOf (fmtOf no) n = padded n (fmtOf no).digits.toNat := by unfold headOf; rw [if_pos h0]
  have hr : rightB (strOfNums (nums8 (headOf (fmtOf no) n))) 1 18 = true := by
    unfold rightB
    rw [str_size, nums8_len, hl, Bool.and_eq_true, Bool.and_eq_true, decide_eq_true_eq, decide_eq_true_eq, str_nums8, allB_list]
    refine ⟨⟨by omega, by omega⟩, ?_⟩
    rw [e]
    exact hp.2
  unfold numberOf
  rw [if_pos hr, str_nums8, e]
  show (numL (padded n (fmtOf no).digits.toNat), (0 : Int)) = _
  rw [hp.1]
theorem long_zero {F : Fmt} {n : Int} (h : longB F n = true) (h0 : F.digits = 0) : n = F.most := by
  unfold longB at h
  rw [h0] at h
  simpa using h
theorem writeOf_ok {no : Int} {d : List Int} (h : (writeOf no d).2 = 0) : checkOf no d = 0 ∧ writeOf no d = (nums8 (headOf (fmtOf no) d.length) ++ d, 0) := by
  unfold writeOf at h ⊢
  split at h
  · rename_i hc
    exact absurd h hc
  · rename_i hc
    rw [if_neg hc]
    exact ⟨by simpa using hc, rfl⟩
/-- how long what is written is -/
theorem size_write (no : Int) (d t : List Int) (h : longB (fmtOf no) d.length = true) (ht : (fmtOf no).digits.toNat ≤ t.length) (he : t.take (fmtOf no).digits.toNat = nums8 (headOf (fmtOf no) d.length)) : sizeOf (fmtOf no) t = ((d.length : Int), 0) := by
  have hb := fmt_bounds no
  unfold sizeOf
  split
  · rename_i h0
    rw [long_zero h h0]
  · rename_i h0
    rw [if_neg (by omega), he, head_number no d.length (by omega) h, if_neg (by simp)]
    simp only
    rw [h, if_neg (by decide)]
theorem readOf_writeOf (no : Int) (d rest : List Int) (h : (writeOf no d).2 = 0) : readOf no ((writeOf no d).1 ++ rest) = (d, ((writeOf no d).1.length : Int), 0) := by
  obtain ⟨hc, hw⟩ := writeOf_ok h
  obtain ⟨h1, h2, h3⟩ := check_zero hc
  have hb := fmt_bounds no
  have hl := head_len no d.length h2
  rw [hw]
  simp only
  obtain ⟨H, hH⟩ : ∃ H, H = nums8 (headOf (fmtOf no) d.length) := ⟨_, rfl⟩
  have hHl : H.length = (fmtOf no).digits.toNat := by rw [hH, nums8_len, hl]
  have hs := size_write no d (H ++ d ++ rest) h2 (by rw [List.length_append, List.length_append]; omega) (by rw [List.append_assoc, ← hHl, List.take_left, hH])
  rw [← hH]
  have hn : ((fmtOf no).digits + (d.length : Int)).toNat = (H ++ d).length := by rw [List.length_append]; omega
  have hcut : ((H ++ d ++ rest).take ((fmtOf no).digits + (d.length : Int)).toNat).drop (fmtOf no).digits.toNat = d := by rw [hn, List.take_left, ← hHl, List.drop_left]
  have hro : rightOf (fmtOf no) d = 0 := by unfold rightOf; rw [h3]; rfl
  have hlt : ¬ (((H ++ d ++ rest).length : Nat) : Int) < (fmtOf no).digits + (d.length : Int) := by rw [List.length_append, List.length_append]; omega
  rw [readOf, h1, if_neg (by decide), hs]
  simp only
  rw [if_neg (by decide), if_neg hlt, hcut, hro, if_neg (by decide), List.length_append]
  congr 2
  omega
theorem readOf_cut (no : Int) (d : List Int) (k : Nat) (h : (writeOf no d).2 = 0) (hk : k < (writeOf no d).1.length) : (readOf no ((writeOf no d).1.take k)).2.2 ≠ 0 := by
  obtain ⟨hc, hw⟩ := writeOf_ok h
  obtain ⟨h1, h2, h3⟩ := check_zero hc
  have hb := fmt_bounds no
  have hl := head_len no d.length h2
  rw [hw] at hk ⊢
  simp only at hk ⊢
  obtain ⟨H, hH⟩ : ∃ H, H = nums8 (headOf (fmtOf no) d.length) := ⟨_, rfl⟩
  have hHl : H.length = (fmtOf no).digits.toNat := by rw [hH, nums8_len, hl]
  rw [← hH] at hk ⊢
  have hkl : ((H ++ d).take k).length = k := by rw [List.length_take]; omega
  rw [List.length_append] at hk
  rcases Nat.lt_or_ge k (fmtOf no).digits.toNat with hD | hD
  · have hs : sizeOf (fmtOf no) ((H ++ d).take k) = (0, 3) := by
      rw [sizeOf, if_neg (by omega), if_pos (by omega)]
    rw [readOf, h1, if_neg (by decide), hs]
    simp only
    rw [if_pos (by decide)]
    decide
  · have hs := size_write no d ((H ++ d).take k) h2 (by omega) (by rw [List.take_take, Nat.min_eq_left hD, ← hHl, List.take_left, hH])
    rw [readOf, h1, if_neg (by decide), hs]
    simp only
    rw [if_neg (by decide), if_pos (by omega)]
    decide
theorem sizeOf_ok {no : Int} {t : List Int} (h : (sizeOf (fmtOf no) t).2 = 0) : ((fmtOf no).digits = 0 ∧ (sizeOf (fmtOf no) t).1 = (fmtOf no).most) ∨
    (0 < (fmtOf no).digits ∧ (fmtOf no).digits.toNat ≤ t.length ∧ rightB (strOfNums (t.take (fmtOf no).digits.toNat)) 1 18 = true ∧ numL (strOfNums (t.take (fmtOf no).digits.toNat)).data.toList = (sizeOf (fmtOf no) t).1 ∧ longB (fmtOf no) (sizeOf (fmtOf no) t).1 = true) := by
  have hb := fmt_bounds no
  unfold sizeOf at h ⊢
  split at h
  · rename_i h0
    rw [if_pos h0]
    exact Or.inl ⟨h0, rfl⟩
  rename_i h0
  rw [if_neg h0]
  split at h
  · cases h
  rename_i h1
  rw [if_neg h1]
  split at h
  · rename_i h2
    exact absurd h h2
  rename_i h2
  rw [if_neg h2]
  split at h
  · cases h
  rename_i h3
  rw [if_neg h3]
  refine Or.inr ⟨by omega, by omega, ?_, ?_, by simpa using h3⟩
  · unfold numberOf at h2
    split at h2
    · assumption
    · simp at h2
  · unfold numberOf at h2 ⊢
    split at h2
    · rename_i hr
      rw [if_pos hr]
    · simp at h2
theorem writeOf_readOf (no : Int) (t : List Int) (ht : Byt t) (h : (readOf no t).2.2 = 0) : writeOf no (readOf no t).1 = (t.take (readOf no t).2.1.toNat, 0) := by
  have hb := fmt_bounds no
  have hsb := size_bounds no t
  unfold readOf at h ⊢
  split at h
  · cases h
  rename_i h1
  rw [if_neg h1]
  split at h
  · rename_i h2
    exact absurd h h2
  rename_i h2
  rw [if_neg h2]
  split at h
  · cases h
  rename_i h3
  rw [if_neg h3]
  split at h
  · rename_i h4
    exact absurd h h4
  rename_i h4
  rw [if_neg h4]
  simp only
  have h2' : (sizeOf (fmtOf no) t).2 = 0 := by simpa using h2
  obtain ⟨n, hn⟩ : ∃ n : Nat, (sizeOf (fmtOf no) t).1 = n := ⟨_, (Int.toNat_of_nonneg hsb.1).symm⟩
  have hok := sizeOf_ok h2'
  rw [hn] at h3 h4 hok ⊢
  obtain ⟨d, hd⟩ : ∃ d, d = (t.take ((fmtOf no).digits + (n : Int)).toNat).drop (fmtOf no).digits.toNat := ⟨_, rfl⟩
  rw [← hd] at h4 ⊢
  have hdl : d.length = n := by
    rw [hd, List.length_drop, List.length_take]
    omega
  have hlong : longB (fmtOf no) n = true := by
    rcases hok with ⟨_, e⟩ | ⟨_, _, _, _, e⟩
    · unfold longB
      rw [e]
      simp
    · exact e
  have hkind : kindB (fmtOf no).kind (fmtOf no).most (strOfNums d) = true := by
    unfold rightOf at h4
    split at h4
    · assumption
    · exact absurd h4 (by decide)
  have hc : checkOf no d = 0 := by
    rw [checkOf, if_neg h1, hdl, hlong, if_neg (by decide), if_pos hkind]
  have hsplit : t.take ((fmtOf no).digits + (n : Int)).toNat = t.take (fmtOf no).digits.toNat ++ d := by
    conv => lhs; rw [← List.take_append_drop (fmtOf no).digits.toNat (t.take ((fmtOf no).digits + (n : Int)).toNat)]
    rw [List.take_take, Nat.min_eq_left (by omega), ← hd]
  rw [writeOf, hc, if_neg (by decide), hdl, hsplit]
  congr 2
  rcases hok with ⟨h0, _⟩ | ⟨h0, hl, hr, hv, _⟩
  · rw [h0]
    unfold headOf
    rw [h0]
    rfl
  · have e : headOf (fmtOf no) n = padded n (fmtOf no).digits.toNat := by unfold headOf; rw [if_pos h0]
    have hpl := head_len no n hlong
    rw [e] at hpl ⊢
    have hp := padded_num n (fmtOf no).digits.toNat
    unfold rightB at hr
    rw [Bool.and_eq_true, allB_list] at hr
    have hsz : (strOfNums (t.take (fmtOf no).digits.toNat)).data.toList.length = (fmtOf no).digits.toNat := by
      have := str_size (t.take (fmtOf no).digits.toNat)
      rw [List.length_take] at this
      show (strOfNums (t.take (fmtOf no).digits.toNat)).data.size = _
      have e2 : (strOfNums (t.take (fmtOf no).digits.toNat)).data.size = (strOfNums (t.take (fmtOf no).digits.toNat)).size := rfl
      rw [e2, this]
      omega
    have := num_inj (padded n (fmtOf no).digits.toNat) (strOfNums (t.take (fmtOf no).digits.toNat)).data.toList 0 0 (by rw [hpl, hsz]) hp.2 hr.2 (by
      have a := hp.1
      unfold numL at a hv
      rw [a, hv])
    rw [this.2, str_list _ (ht.take _)]
end Go.Proofs.YtonhmaklnkidhaaDoor.G

namespace Go.Proofs.YtonhmaklnkidhaaDoor.G
open Go.RowKit Go.Proofs.YtonhmaklnkidhaaDoorW.PrintWords

/-! ### messages there and back -/
def OkFs (fs : List (Int × List Int)) : Prop := ∀ x ∈ fs, (writeOf x.1 x.2).2 = 0
def bodyOf : List (Int × List Int) → List Int
  | [] => []
  | x :: r => (writeOf x.1 x.2).1 ++ bodyOf r
theorem packGo_ok {acc : List Int} {fs : List (Int × List Int)} (h : (packGo acc fs).2 = 0) : OkFs fs ∧ packGo acc fs = (acc ++ bodyOf fs, 0) ∧ (acc ++ bodyOf fs).length ≤ 4096 := by
  induction fs generalizing acc with
  | nil =>
    unfold packGo at h ⊢
    split at h
    · cases h
    · rename_i hl
      rw [if_neg hl, bodyOf, List.append_nil]
      exact ⟨(fun x hx => by cases hx), rfl, by omega⟩
  | cons x r ih =>
    unfold packGo at h ⊢
    split at h
    · rename_i hw
      exact absurd h hw
    · rename_i hw
      rw [if_neg hw]
      obtain ⟨a, b, c⟩ := ih h
      rw [bodyOf, ← List.append_assoc]
      refine ⟨fun y hy => ?_, b, c⟩
      rcases List.mem_cons.1 hy with rfl | hy
      · simpa using hw
      · exact a y hy
theorem packGo_of {acc : List Int} {fs : List (Int × List Int)} (h : OkFs fs) (hl : (acc ++ bodyOf fs).length ≤ 4096) : packGo acc fs = (acc ++ bodyOf fs, 0) := by
  induction fs generalizing acc with
  | nil =>
    rw [bodyOf, List.append_nil] at hl ⊢
    rw [packGo, if_neg (by omega)]
  | cons x r ih =>
    have hx := h x List.mem_cons_self
    rw [bodyOf, ← List.append_assoc] at hl ⊢
    rw [packGo, if_neg (by rw [hx]; decide)]
    exact ih (fun y hy => h y (List.mem_cons_of_mem _ hy)) hl
theorem packOf_ok {mti : ByteArray} {fs : List (Int × List Int)} (h : (packOf mti fs).2 = 0) : rightB mti 4 4 = true ∧ (mapB (fs.map (·.1))).2 = 0 ∧ OkFs fs ∧
    packOf mti fs = (bytesOf mti ++ ((mapB (fs.map (·.1))).1 ++ bodyOf fs), 0) ∧ (bytesOf mti ++ ((mapB (fs.map (·.1))).1 ++ bodyOf fs)).length ≤ 4096 := by
  unfold packOf at h ⊢
  split at h
  · cases h
  rename_i h1
  rw [if_neg h1]
  split at h
  · cases h
  rename_i h2
  rw [if_neg h2]
  obtain ⟨a, b, c⟩ := packGo_ok h
  rw [List.append_assoc] at b c
  exact ⟨by simpa using h1, by simpa using h2, a, b, c⟩
theorem packOf_of {mti : ByteArray} {fs : List (Int × List Int)} (h1 : rightB mti 4 4 = true) (h2 : (mapB (fs.map (·.1))).2 = 0) (h3 : OkFs fs) (h4 : (bytesOf mti ++ ((mapB (fs.map (·.1))).1 ++ bodyOf fs)).length ≤ 4096) :
    packOf mti fs = (bytesOf mti ++ ((mapB (fs.map (·.1))).1 ++ bodyOf fs), 0) := by
  rw [packOf, h1, if_neg (by decide), h2, if_neg (by decide), packGo_of h3 (by rw [List.append_assoc]; exact h4), List.append_assoc]
theorem each_body (fs : List (Int × List Int)) (rest : List Int) (els : List (Int × List Int)) (h : OkFs fs) : eachOf (fs.map (·.1)) (bodyOf fs ++ rest) els = (rest, els ++ fs, 0) := by
  induction fs generalizing els with
  | nil => rw [List.map_nil, eachOf, bodyOf, List.nil_append, List.append_nil]
  | cons x r ih =>
    have hx := h x List.mem_cons_self
    have hr := readOf_writeOf x.1 x.2 (bodyOf r ++ rest) hx
    have hs : stepOf x.1 (bodyOf (x :: r) ++ rest) els = (bodyOf r ++ rest, els ++ [x], 0) := by
      rw [bodyOf, List.append_assoc, stepOf, hr]
      simp only [if_true]
      rw [Int.toNat_natCast, List.drop_left]
    rw [List.map_cons, eachOf, hs, if_neg (fun h => h rfl), ih _ (fun y hy => h y (List.mem_cons_of_mem _ hy)), List.append_assoc, List.singleton_append]
theorem each_cut (fs : List (Int × List Int)) (k : Nat) (els : List (Int × List Int)) (h : OkFs fs) (hk : k < (bodyOf fs).length) : (eachOf (fs.map (·.1)) ((bodyOf fs).take k) els).2.2 ≠ 0 := by
  induction fs generalizing els k with
  | nil => cases hk
  | cons x r ih =>
    have hx := h x List.mem_cons_self
    rw [bodyOf] at hk ⊢
    rw [List.length_append] at hk
    rcases Nat.lt_or_ge k (writeOf x.1 x.2).1.length with hl | hl
    · have hc := readOf_cut x.1 x.2 k hx hl
      have he : ((writeOf x.1 x.2).1 ++ bodyOf r).take k = (writeOf x.1 x.2).1.take k := by rw [List.take_append_of_le_length (Nat.le_of_lt hl)]
      have hs : (stepOf x.1 ((writeOf x.1 x.2).1.take k) els).2.2 = (readOf x.1 ((writeOf x.1 x.2).1.take k)).2.2 := by rw [stepOf, if_neg hc]
      rw [List.map_cons, eachOf, he, hs, if_pos hc, hs]
      exact hc
    · have he : ((writeOf x.1 x.2).1 ++ bodyOf r).take k = (writeOf x.1 x.2).1 ++ (bodyOf r).take (k - (writeOf x.1 x.2).1.length) := by
        rw [List.take_append, List.take_of_length_le hl]
      have hr := readOf_writeOf x.1 x.2 ((bodyOf r).take (k - (writeOf x.1 x.2).1.length)) hx
      have hs : stepOf x.1 ((writeOf x.1 x.2).1 ++ (bodyOf r).take (k - (writeOf x.1 x.2).1.length)) els = ((bodyOf r).take (k - (writeOf x.1 x.2).1.length), els ++ [x], 0) := by
        rw [stepOf, hr]
        simp only [if_true]
        rw [Int.toNat_natCast, List.drop_left]
      rw [List.map_cons, eachOf, he, hs, if_neg (fun h => h rfl)]
      exact ih _ _ (fun y hy => h y (List.mem_cons_of_mem _ hy)) (by omega)
theorem bytesOf_nums8 (s : ByteArray) : bytesOf s = nums8 s.data.toList := rfl
theorem str_bytes (s : ByteArray) : strOfNums (bytesOf s) = s := by
  rw [bytesOf_nums8, str_nums8]
theorem bytesOf_len (s : ByteArray) : (bytesOf s).length = s.size := by
  rw [bytesOf_nums8, nums8_len]
  rfl
theorem right4 {s : ByteArray} (h : rightB s 4 4 = true) : (bytesOf s).length = 4 := by
  unfold rightB at h
  simp only [Bool.and_eq_true, decide_eq_true_eq] at h
  rw [bytesOf_len]
  omega
/-- a message's bytes, and what stands behind them -/
theorem parse_in (mti : ByteArray) (t : List Int) (h1 : rightB mti 4 4 = true) (hl : (bytesOf mti ++ t).length ≤ 4096) : parseOf (bytesOf mti ++ t) =
    if (mapOf t).2.2 ≠ 0 then (⟨#[]⟩, [], (mapOf t).2.2) else
    if (eachOf (mapOf t).1 (t.drop (mapOf t).2.1.toNat) []).2.2 ≠ 0 then (⟨#[]⟩, [], (eachOf (mapOf t).1 (t.drop (mapOf t).2.1.toNat) []).2.2) else
    if 0 < (eachOf (mapOf t).1 (t.drop (mapOf t).2.1.toNat) []).1.length then (⟨#[]⟩, [], 17) else
    (mti, (eachOf (mapOf t).1 (t.drop (mapOf t).2.1.toNat) []).2.1, 0) := by
  have h4 := right4 h1
  have e1 : (bytesOf mti ++ t).take 4 = bytesOf mti := by rw [← h4, List.take_left]
  have e2 : (bytesOf mti ++ t).drop 4 = t := by rw [← h4, List.drop_left]
  have e3 : ∀ k, (bytesOf mti ++ t).drop (4 + k) = t.drop k := fun k => by rw [← List.drop_drop, e2]
  rw [parseOf, if_neg (by omega), if_neg (by rw [List.length_append]; omega), e1, str_bytes, h1, if_neg (by decide), e2, e3]
theorem parse_pack {mti : ByteArray} {fs : List (Int × List Int)} (h : (packOf mti fs).2 = 0) : parseOf (packOf mti fs).1 = (mti, fs, 0) := by
  obtain ⟨h1, h2, h3, h4, h5⟩ := packOf_ok h
  have hm := mapOf_mapB (fs.map (·.1)) (bodyOf fs) h2
  have he := each_body fs [] [] h3
  rw [List.append_nil, List.nil_append] at he
  rw [h4]
  simp only
  rw [parse_in mti _ h1 h5, hm]
  simp only
  rw [Int.toNat_natCast, List.drop_left, he]
  rfl
theorem parse_more {mti : ByteArray} {fs : List (Int × List Int)} {more : List Int} (h : (packOf mti fs).2 = 0) (hm0 : 0 < more.length) (hl : ((packOf mti fs).1 ++ more).length ≤ 4096) : (parseOf ((packOf mti fs).1 ++ more)).2.2 = 17 := by
  obtain ⟨h1, h2, h3, h4, h5⟩ := packOf_ok h
  rw [h4] at hl ⊢
  simp only at hl ⊢
  rw [List.append_assoc, List.append_assoc] at hl ⊢
  have hm := mapOf_mapB (fs.map (·.1)) (bodyOf fs ++ more) h2
  have he := each_body fs more [] h3
  rw [parse_in mti _ h1 hl, hm]
  simp only
  rw [Int.toNat_natCast, List.drop_left, he, if_neg (by decide), if_neg (fun h => h rfl), if_pos hm0]
theorem parse_cut {mti : ByteArray} {fs : List (Int × List Int)} {k : Nat} (h : (packOf mti fs).2 = 0) (hk : k < (packOf mti fs).1.length) : (parseOf ((packOf mti fs).1.take k)).2.2 ≠ 0 := by
  obtain ⟨h1, h2, h3, h4, h5⟩ := packOf_ok h
  have hb4 := right4 h1
  rw [h4] at hk ⊢
  simp only at hk ⊢
  rcases Nat.lt_or_ge k 4 with h0 | h0
  · rw [parseOf, if_neg (by rw [List.length_take]; omega), if_pos (by rw [List.length_take]; omega)]
    decide
  have e1 : (bytesOf mti ++ ((mapB (fs.map (·.1))).1 ++ bodyOf fs)).take k = bytesOf mti ++ ((mapB (fs.map (·.1))).1 ++ bodyOf fs).take (k - 4) := by
    rw [List.take_append, List.take_of_length_le (by omega), hb4]
  rw [e1, parse_in mti _ h1 (by rw [← e1, List.length_take]; omega)]
  rw [List.length_append, List.length_append] at hk
  rcases Nat.lt_or_ge (k - 4) (mapB (fs.map (·.1))).1.length with hj | hj
  · have e2 : ((mapB (fs.map (·.1))).1 ++ bodyOf fs).take (k - 4) = (mapB (fs.map (·.1))).1.take (k - 4) := by rw [List.take_append_of_le_length (Nat.le_of_lt hj)]
    have := mapOf_cut _ h2 _ hj
    rw [e2, if_pos this]
    exact this
  · have e2 : ((mapB (fs.map (·.1))).1 ++ bodyOf fs).take (k - 4) = (mapB (fs.map (·.1))).1 ++ (bodyOf fs).take (k - 4 - (mapB (fs.map (·.1))).1.length) := by
      rw [List.take_append, List.take_of_length_le hj]
    have hm := mapOf_mapB (fs.map (·.1)) ((bodyOf fs).take (k - 4 - (mapB (fs.map (·.1))).1.length)) h2
    have hc := each_cut fs (k - 4 - (mapB (fs.map (·.1))).1.length) [] h3 (by omega)
    rw [e2, hm]
    simp only
    rw [Int.toNat_natCast, List.drop_left, if_neg (by decide), if_pos hc]
    exact hc
theorem each_ok {nos t : List Int} {els : List (Int × List Int)} (ht : Byt t) (h : (eachOf nos t els).2.2 = 0) : ∃ fs, (eachOf nos t els).2.1 = els ++ fs ∧ fs.map (·.1) = nos ∧ OkFs fs ∧ t = bodyOf fs ++ (eachOf nos t els).1 := by
  induction nos generalizing t els with
  | nil => exact ⟨[], by rw [eachOf, List.append_nil], rfl, (fun x hx => by cases hx), rfl⟩
  | cons no r ih =>
    unfold eachOf at h ⊢
    split at h
    · rename_i hs
      exact absurd h hs
    rename_i hs
    rw [if_neg hs]
    have hs0 : (stepOf no t els).2.2 = 0 := by simpa using hs
    have hr0 : (readOf no t).2.2 = 0 := by
      unfold stepOf at hs0
      split at hs0
      · assumption
      · assumption
    have he : stepOf no t els = (t.drop (readOf no t).2.1.toNat, els ++ [(no, (readOf no t).1)], 0) := by rw [stepOf, if_pos hr0]
    rw [he] at h ⊢
    simp only at h ⊢
    obtain ⟨fs, a, b, c, d⟩ := ih (ht.drop _) h
    have hw := writeOf_readOf no t ht hr0
    refine ⟨(no, (readOf no t).1) :: fs, by rw [a, List.append_assoc, List.singleton_append], by rw [List.map_cons, b], fun y hy => ?_, ?_⟩
    · rcases List.mem_cons.1 hy with rfl | hy
      · simp only
        rw [hw]
      · exact c y hy
    · rw [bodyOf]
      simp only
      rw [hw, List.append_assoc, ← d, List.take_append_drop]
theorem pack_parse {l : List Int} (hl : Byt l) (h : (parseOf l).2.2 = 0) : packOf (parseOf l).1 (parseOf l).2.1 = (l, 0) := by
  unfold parseOf at h ⊢
  split at h
  · cases h
  rename_i h1
  rw [if_neg h1]
  split at h
  · cases h
  rename_i h2
  rw [if_neg h2]
  split at h
  · cases h
  rename_i h3
  rw [if_neg h3]
  split at h
  · rename_i h4
    exact absurd h h4
  rename_i h4
  rw [if_neg h4]
  split at h
  · rename_i h5
    exact absurd h h5
  rename_i h5
  rw [if_neg h5]
  split at h
  · cases h
  rename_i h6
  rw [if_neg h6]
  simp only
  obtain ⟨fs, a, b, c, d⟩ := each_ok (hl.drop _) (by simpa using h5)
  rw [List.nil_append] at a
  have hm := mapB_mapOf (l.drop 4) (hl.drop _) (by simpa using h4)
  have hz : (eachOf (mapOf (l.drop 4)).1 (l.drop (4 + (mapOf (l.drop 4)).2.1.toNat)) []).1 = [] := List.length_eq_zero_iff.1 (by omega)
  rw [hz, List.append_nil] at d
  have hb : bytesOf (strOfNums (l.take 4)) = l.take 4 := by rw [bytesOf_nums8, str_list _ (hl.take 4)]
  have hall : bytesOf (strOfNums (l.take 4)) ++ ((mapB (fs.map (·.1))).1 ++ bodyOf fs) = l := by
    rw [hb, b, hm.2.1, ← d, ← List.drop_drop, List.take_append_drop, List.take_append_drop]
  rw [a, packOf_of (by simpa using h3) (by rw [b]; exact hm.1) c (by rw [hall]; omega), hall]
end Go.Proofs.YtonhmaklnkidhaaDoor.G

namespace Go.Proofs.YtonhmaklnkidhaaDoor.G
open Go.ChangeShapes Go.WideShapes Go.RowKit Go.Proofs.YtonhmaklnkidhaaDoorW.PrintWords

/-! ### arguments that come in -/
theorem byt_of {l : List Int} (h : ∀ x ∈ l, (Lit.int .u8 x).wf = true) : Byt l := fun x hx => by
  have h2 : IntKind.u8.min ≤ x ∧ x ≤ IntKind.u8.max := by simpa [Lit.wf] using h x hx
  exact h2
section
variable {H : Type} {enc : TypeId × Value → H} {w : World} {base : Nat} {sp : Nat → Bool} {held : Bool}
/-- bytes -/
theorem open_bytes {fuel : Nat} {v : Value} {x : DataW H × List MemPlace} (h : DataW.trod enc Tryd.prog w base sp held fuel 22 [v] = some x) :
    ∃ A c l, v = .slice A l.length c ∧ RB w A l ∧ l.length ≤ c ∧ Byt l ∧ l.length ≤ maxLen := by
  rcases open_ints Tryd.underlying22 Tryd.underlying5 (by kernel_rfl) h with ⟨hcs, _⟩ | ⟨a, len, cap, zs, hcs, _, hl, hm, hz, _, hcell, hwz⟩
  · obtain rfl : v = .slice none 0 0 := by simpa using hcs
    exact ⟨none, 0, [], rfl, Kd.C_nil _ _, Nat.le_refl _, (fun x hx => by cases hx), Nat.zero_le _⟩
  · obtain rfl : v = .slice (some a) len cap := by simpa using hcs
    have hle : len ≤ zs.length := by
      rw [hz]
      split
      · exact hl
      · exact Nat.le_refl _
    have e : (zs.take len).length = len := by rw [List.length_take]; omega
    have hm' : len ≤ maxLen := Nat.le_trans hl hm
    refine ⟨some a, cap, zs.take len, by rw [e], Kd.C_of_reads (d := (0 : Int)) (h1 := fun _ => rfl) ?_, by rw [e]; exact hl, byt_of fun y hy => hwz y (List.mem_of_mem_take hy), by rw [e]; exact hm'⟩
    refine ⟨rfl, by rw [e]; simpa [maxLen] using hm', fun _ => ⟨a, rfl, fun j hj => ?_⟩⟩
    rw [e] at hj
    rw [hcell j (by omega)]
    simp [List.getD, List.getElem?_take, hj]
set_option maxRecDepth 100000 in
/-- elements -/
theorem open_els {fuel : Nat} {v : Value} {x : DataW H × List MemPlace} (h : DataW.trod enc Tryd.prog w base sp held fuel 44 [v] = some x) :
    ∃ A c fs, v = .slice A (fs : List (Int × List Int)).length c ∧ Kd.C kE w A fs.length fs ∧ fs.length ≤ c ∧ ∀ y ∈ fs, (Lit.int .i64 y.1).wf = true ∧ Byt y.2 ∧ y.2.length ≤ maxLen := by
  rcases Deep.open_slice_pairs Tryd.underlying44 Tryd.underlying26 (by kernel_rfl) rfl rfl (by kernel_rfl) (by kernel_rfl) h with ⟨hcs, _⟩ | ⟨a, len, cap, m, n, V0, V1, D0, D1, P0, P1, hcs, _, hl, hm, hmm, _, hx⟩
  · obtain rfl : v = .slice none 0 0 := by simpa using hcs
    exact ⟨none, 0, [], rfl, Kd.C_nil _ _, Nat.le_refl _, (fun x hx => by cases hx)⟩
  · obtain rfl : v = .slice (some a) len cap := by simpa using hcs
    have hlm : len ≤ m := by
      rw [hmm]
      split
      · exact hl
      · exact Nat.le_refl _
    have each : ∀ i, i < len → ∃ q : Int × List Int, (∃ B c, V0 i = .int .i64 q.1 ∧ V1 i = .slice B q.2.length c ∧ RB w B q.2 ∧ q.2.length ≤ c) ∧ (Lit.int .i64 q.1).wf = true ∧ Byt q.2 ∧ q.2.length ≤ maxLen := by
      intro i hi
      obtain ⟨_, _, h2, h3⟩ := hx i (by omega)
      obtain ⟨k, hk, _, hw⟩ := DataW.trod_int Tryd.underlying3 h2
      obtain ⟨B, c, l, hb, hr, hc, hy, hmx⟩ := open_bytes h3
      exact ⟨(k, l), ⟨B, c, by simpa using hk, hb, hr, hc⟩, hw, hy, hmx⟩
    obtain ⟨q, hq⟩ := Deep.choose_lt each
    have e : ((List.range len).map q).length = len := by simp
    have hm' : len ≤ maxLen := Nat.le_trans hl hm
    refine ⟨some a, cap, (List.range len).map q, by rw [e], ?_, by rw [e]; exact hl, fun y hy => ?_⟩
    · refine ⟨rfl, by rw [e]; simpa [maxLen] using hm', fun _ => ⟨a, rfl, fun j p hj => ?_⟩⟩
      obtain ⟨hj1, hj2⟩ := List.getElem?_eq_some_iff.1 hj
      rw [e] at hj1
      rw [List.getElem_map, List.getElem_range] at hj2
      subst hj2
      obtain ⟨⟨B, c, g0, g1, g2, g3⟩, _⟩ := hq j hj1
      obtain ⟨c0, c1, _, _⟩ := hx j (by omega)
      rw [g0] at c0
      rw [g1] at c1
      refine ⟨[.int .i64 (q j).1, .slice B (q j).2.length c], rfl, ⟨[.int .i64 (q j).1], [.slice B (q j).2.length c], rfl, rfl, ⟨B, c, rfl, g3, g2⟩⟩, fun i u hi => ?_⟩
      have hsz : kE.sz = 2 := rfl
      rw [hsz]
      match i, hi with
      | 0, hi =>
        have : Value.int .i64 (q j).1 = u := by simpa using hi
        rw [← this]
        exact c0
      | 1, hi =>
        have : Value.slice B (q j).2.length c = u := by simpa using hi
        rw [← this]
        exact c1
      | i + 2, hi => simp at hi
    · obtain ⟨i, hi, rfl⟩ := List.mem_map.1 hy
      obtain ⟨_, h1, h2, h3⟩ := hq i (List.mem_range.1 hi)
      exact ⟨h1, h2, h3⟩
set_option maxRecDepth 100000 in
/-- a message -/
theorem open_iso {v : Value} {d : DataW H} {ps : List MemPlace} (hv : Value.okWide Tryd.prog w .any base 46 v) {b0 : Nat} (h : DataW.Trod enc Tryd.prog w b0 sp held 46 v d ps) :
    ∃ s A c fs, v = .agg #[.string s, .slice A (fs : List (Int × List Int)).length c] ∧ Kd.C kE w A fs.length fs ∧ fs.length ≤ c ∧ s.size ≤ maxLen ∧ ∀ y ∈ fs, (Lit.int .i64 y.1).wf = true ∧ Byt y.2 ∧ y.2.length ≤ maxLen := by
  obtain ⟨cs, rfl, hcs⟩ := okWide_struct Tryd.underlying46 hv
  obtain ⟨fuel, hf⟩ := h
  obtain ⟨xs, n, _, _, hl, hxl, hg⟩ := DataW.trod_struct Tryd.underlying46 hf
  have c2 : Tryd.prog.cellsOf 46 = 2 := by kernel_rfl
  rw [c2] at hcs
  match cs, hcs with
  | ⟨[v0, v1]⟩, _ =>
    match xs, hxl with
    | [y0, y1], _ =>
      have g0 := hg 0 _ rfl
      have g1 := hg 1 _ rfl
      have cS : Tryd.prog.cellsOf 9 = 1 := by kernel_rfl
      have cE : Tryd.prog.cellsOf 44 = 1 := by kernel_rfl
      simp [Value.cells, cS, cE] at g0 g1
      obtain ⟨s, hs, _, hsz⟩ := DataW.trod_string Tryd.underlying9 g0
      obtain ⟨A, c, fs, hb, hr, hc, hy⟩ := open_els g1
      exact ⟨s, A, c, fs, by simp at hs; rw [hs, hb], hr, hc, hsz, hy⟩
end
end Go.Proofs.YtonhmaklnkidhaaDoor.G

namespace Go.Proofs.YtonhmaklnkidhaaDoor.G
open Go.RowKit Go.Proofs.YtonhmaklnkidhaaDoorW.PrintWords

/-! ### the verifier's helpers, of like things -/
set_option maxHeartbeats 800000 in
set_option maxRecDepth 100000 in
theorem help_Bytes (A B : Option Addr) (c c' : Nat) (l : List Int) (w : World) (ha : RB w A l) (hb : RB w B l) :
    Calls Tryd.prog 24 #[.slice A l.length c, .slice B l.length c'] w fun e w' => e = .returned (.bool true) ∧ w = w' := by
  have s1 := RB.string ha c
  have s2 := RB.string hb c'
  clear ha hb
  go_enter Tryd.func24, Tryd.ntmps24
  go_wp2_with fail
  go_ret
  exact ⟨by simp, rfl⟩
set_option maxHeartbeats 1600000 in
set_option maxRecDepth 100000 in
theorem help_Element (n : Int) (A B : Option Addr) (c c' : Nat) (l : List Int) (w : World) (ha : RB w A l) (hb : RB w B l) :
    Calls Tryd.prog 45 #[.agg #[.int .i64 n, .slice A l.length c], .agg #[.int .i64 n, .slice B l.length c']] w fun e w' => e = .returned (.bool true) ∧ Below w.heap.size w w' := by
  have HA := Lib.hid ha
  have HB := Lib.hid hb
  have b1 : (n == n) = true := by simp
  clear ha hb
  have H1 := Lib.hid (below_alloc (below_alloc (Below.refl w.heap.size w) (.cells #[.int .i64 n, .slice A l.length c] 26)) (.cells #[.int .i64 n, .slice B l.length c'] 26))
  go_enter Tryd.func45, Tryd.ntmps45
  go_wp2_with fail
  refine (help_Bytes A B c c' l _ (RB.below HA.out H1.out) (RB.below HB.out H1.out)).mono ?_
  rintro e w1 ⟨rfl, rfl⟩
  dsimp only
  go_wp2_with fail
  go_ret
  exact ⟨rfl, H1.out⟩
set_option maxHeartbeats 3200000 in
set_option maxRecDepth 100000 in
theorem help_Same (A B : Option Addr) (c c' : Nat) (fs : List (Int × List Int)) (w : World) (ha : Kd.C kE w A fs.length fs) (hb : Kd.C kE w B fs.length fs) :
    Calls Tryd.prog 44 #[.slice A fs.length c, .slice B fs.length c', .func (.func 45) #[] #[]] w fun e w' => e = .returned (.bool true) ∧ Below w.heap.size w w' := by
  have eg : ∀ args w, (callFunc 45 args).run Tryd.prog w = .ok (.enter 45 args) w := enters_of Tryd.func45 (by kernel_rfl) rfl
  have hmax : fs.length ≤ 9223372036854775807 := Kd.C_max ha
  have HA := Lib.hid ha
  have HB := Lib.hid hb
  have b1 : ((fs.length : Int) != (fs.length : Int)) = false := by simp
  clear ha hb
  go_enter Tryd.func44, Tryd.ntmps44
  go_wp2_with fail
  go_loopw [7] (fun v7 wr => ∃ k : Nat, k ≤ fs.length ∧ v7 = .int .i64 k ∧ Hid (Below w.heap.size w wr)) (fun v _ => fs.length - (intOf v).toNat)
  case atStart => exact ⟨0, Nat.zero_le _, rfl, Lib.hid (Below.refl _ _)⟩
  case round =>
    obtain ⟨k, hk, rfl, hbel⟩ := hrel
    obtain ⟨wo, rfl⟩ : ∃ wo : World, wo = wr := ⟨_, rfl⟩
    by_cases hlt : k < fs.length
    · obtain ⟨ad, B0, c0, rfl, x0, x1, _, x3⟩ := kE_at (Kd.C_below HA.out hbel.out) k hlt
      obtain ⟨bd, B1, c1, rfl, y0, y1, _, y3⟩ := kE_at (Kd.C_below HB.out hbel.out) k hlt
      generalize fs[k].1 = no at x0 y0
      generalize fs[k].2 = l at x1 x3 y1 y3
      have X3 := Lib.hid x3
      have Y3 := Lib.hid y3
      clear x3 y3
      go_wp2_with fail
      go_region_held3 (fun w' => (w'.cell? (ad.add (k * 2)) = some (.int .i64 no) ∧ w'.cell? ⟨(ad.add (k * 2)).block, (ad.add (k * 2)).off + 1, none⟩ = some (.slice B0 l.length c0)) ∧ (w'.cell? (bd.add (k * 2)) = some (.int .i64 no) ∧ w'.cell? ⟨(bd.add (k * 2)).block, (bd.add (k * 2)).off + 1, none⟩ = some (.slice B1 l.length c1)) ∧ Below wo.heap.size wo w')
          (first
            | ((try dsimp only); first | assumption | (go_split_ands; exact ⟨⟨by assumption, by assumption⟩, ⟨by assumption, by assumption⟩, by assumption⟩))
            | (exact ⟨⟨by go_simp, by go_simp⟩, ⟨by go_simp, by go_simp⟩, below_drew (Below.refl _ _)⟩)
            | (go_split_ands; (try dsimp only); exact ⟨⟨(hb.cell (World.block_lt_of_cell? _ _ (by assumption))).trans (by assumption), (hb.cell (World.block_lt_of_cell? _ _ (by assumption))).trans (by assumption)⟩, ⟨(hb.cell (World.block_lt_of_cell? _ _ (by assumption))).trans (by assumption), (hb.cell (World.block_lt_of_cell? _ _ (by assumption))).trans (by assumption)⟩, below_then (by assumption) (below_size (by assumption)) hb⟩))
          (first
            | (go_at_call 45; with_reducible refine (help_Element no B0 B1 c0 c1 l _ (RB.below X3.out (by go_split_ands; assumption)) (RB.below Y3.out (by go_split_ands; assumption))).mono ?_; rintro e w' ⟨rfl, hb⟩))
      all_goals
        go_split_ands
        go_wp2_with fail
        exact ⟨⟨k + 1, hlt, rfl, Lib.hid (below_then hbel.out hbel.out.size (by assumption))⟩, by simp [intOf]; omega⟩
    · obtain rfl : k = fs.length := by omega
      go_wp2_with fail
      go_ret
      exact ⟨rfl, hbel.out⟩
set_option maxHeartbeats 3200000 in
set_option maxRecDepth 100000 in
theorem help_Iso (s : ByteArray) (A B : Option Addr) (c c' : Nat) (fs : List (Int × List Int)) (w : World) (ha : Kd.C kE w A fs.length fs) (hb : Kd.C kE w B fs.length fs) :
    Calls Tryd.prog 23 #[.agg #[.string s, .slice A fs.length c], .agg #[.string s, .slice B fs.length c']] w fun e w' => e = .returned (.bool true) ∧ Below w.heap.size w w' := by
  have HA := Lib.hid ha
  have HB := Lib.hid hb
  clear ha hb
  have H1 := Lib.hid (below_alloc (below_alloc (Below.refl w.heap.size w) (.cells #[.string s, .slice A fs.length c] 46)) (.cells #[.string s, .slice B fs.length c'] 46))
  go_enter Tryd.func23, Tryd.ntmps23
  go_wp2_with fail
  refine (help_Same A B c c' fs _ (Kd.C_below HA.out H1.out) (Kd.C_below HB.out H1.out)).mono ?_
  rintro e w1 ⟨rfl, hb1⟩
  have HB1 := Lib.hid (below_step H1.out hb1)
  clear hb1
  dsimp only
  go_wp2_with fail
  go_ret
  exact ⟨rfl, HB1.out⟩
end Go.Proofs.YtonhmaklnkidhaaDoor.G

namespace Go.Proofs.YtonhmaklnkidhaaDoor.G
open Go.RowKit Go.Proofs.YtonhmaklnkidhaaDoorW.PrintWords

theorem each_len (nos rest : List Int) (els : List (Int × List Int)) : (eachOf nos rest els).2.1.length ≤ els.length + nos.length := by
  induction nos generalizing rest els with
  | nil => exact Nat.le_refl _
  | cons no r ih =>
    have hs := stepOf_len no rest els
    rw [eachOf]
    split
    · rw [List.length_cons]; omega
    · have := ih (stepOf no rest els).1 (stepOf no rest els).2.1
      rw [List.length_cons]
      omega
theorem parse_bounds (l : List Int) : (parseOf l).1.size ≤ 4 ∧ (parseOf l).2.1.length ≤ 127 := by
  have hm := mapOf_bounds (l.drop 4)
  have he := each_len (mapOf (l.drop 4)).1 (l.drop (4 + (mapOf (l.drop 4)).2.1.toNat)) []
  have e0 : (⟨#[]⟩ : ByteArray).size = 0 := rfl
  unfold parseOf
  split
  · exact ⟨Nat.zero_le 4, by simp⟩
  split
  · exact ⟨Nat.zero_le 4, by simp⟩
  split
  · exact ⟨Nat.zero_le 4, by simp⟩
  split
  · exact ⟨Nat.zero_le 4, by simp⟩
  split
  · exact ⟨Nat.zero_le 4, by simp⟩
  split
  · exact ⟨Nat.zero_le 4, by simp⟩
  refine ⟨?_, ?_⟩
  · simp only
    rw [str_size, List.length_take]
    omega
  · simp only at he ⊢
    simp only [List.length_nil] at he
    omega
theorem pack_bounds {mti : ByteArray} {fs : List (Int × List Int)} (h : (packOf mti fs).2 = 0) : 4 ≤ (packOf mti fs).1.length ∧ (packOf mti fs).1.length ≤ 4096 := by
  obtain ⟨h1, _, _, h4, h5⟩ := packOf_ok h
  rw [h4]
  refine ⟨?_, h5⟩
  simp only
  rw [List.length_append, right4 h1]
  omega
set_option maxHeartbeats 6400000 in
set_option maxRecDepth 100000 in
theorem back_law (w : World) (mti : ByteArray) (A : Option Addr) (c : Nat) (fs : List (Int × List Int)) (hC : Kd.C kE w A fs.length fs) (_ : fs.length ≤ c) (hmti : mti.size ≤ maxLen) (_ : ∀ y ∈ fs, (Lit.int .i64 y.1).wf = true ∧ Byt y.2 ∧ y.2.length ≤ maxLen)
    (Ab : Option Addr) (cb : Nat) (b : List Int) (hb : RB w Ab b) (hbc : b.length ≤ cb) (hbB : Byt b) (_ : b.length ≤ maxLen)
    (Am : Option Addr) (cm : Nat) (more : List Int) (hm : RB w Am more) (hmc : more.length ≤ cm) (_ : Byt more) (_ : more.length ≤ maxLen) (cut : Int) (_ : (Lit.int .i64 cut).wf = true) (P : Pow w) :
    Calls Tryd.prog 7 #[.agg #[.string mti, .slice A fs.length c], .slice Ab b.length cb, .slice Am more.length cm, .int .i64 cut] w fun e w' => e = .returned (.bool true) ∧ Below w.heap.size w w' := by
  have hmx : mti.size ≤ 9223372036854775807 := by simpa [maxLen] using hmti
  have H0 := Lib.hid (below_alloc (Below.refl w.heap.size w) (.cells #[.string mti, .slice A fs.length c] 46))
  have HC := Lib.hid hC
  have HB := Lib.hid hb
  have HM := Lib.hid hm
  have HPw := Lib.hid P
  clear hC hb hm P hmti
  by_cases g : 4096 < b.length ∨ 60 < fs.length ∨ 50 < more.length
  · have g' : (decide ((4096 : Int) < (b.length : Int)) = true) ∨ (decide ((4096 : Int) < (b.length : Int)) = false ∧ decide ((60 : Int) < (fs.length : Int)) = true) ∨ (decide ((4096 : Int) < (b.length : Int)) = false ∧ decide ((60 : Int) < (fs.length : Int)) = false ∧ decide ((50 : Int) < (more.length : Int)) = true) := by
      simp only [decide_eq_true_eq, decide_eq_false_iff_not]
      omega
    clear g
    rcases g' with b1 | ⟨b1, b2⟩ | ⟨b1, b2, b3⟩
    all_goals
      go_enter Tryd.func7, Tryd.ntmps7
      go_wp2_with fail
      refine (awake17 _).mono ?_
      rintro e w2 ⟨rfl, hb2⟩
      have HB2 := Lib.hid (below_step H0.out hb2)
      clear hb2
      dsimp only
      go_wp2_with fail
      go_ret
      exact ⟨rfl, HB2.out⟩
  have b1 : decide ((4096 : Int) < (b.length : Int)) = false := decide_eq_false (by omega)
  have b2 : decide ((60 : Int) < (fs.length : Int)) = false := decide_eq_false (by omega)
  have b3 : decide ((50 : Int) < (more.length : Int)) = false := decide_eq_false (by omega)
  have L1 : b.length ≤ 4096 := by omega
  have L2 : fs.length ≤ 60 := by omega
  have L3 : more.length ≤ 50 := by omega
  clear g
  go_enter Tryd.func7, Tryd.ntmps7
  go_wp2_with fail
  refine (iso_Pack mti A c fs _ hmx (Kd.C_below HC.out H0.out) (by omega) (fun x hx h => HPw.out.on H0.out)).mono ?_
  rintro e w1 ⟨v1, rfl, hv1, hb1⟩
  have q0 : w1.cell? ⟨w.heap.size, 0, none⟩ = some (.string mti) := by rw [(bcell hb1).1 _ _ (by simp)]; go_simp
  have q1 : w1.cell? ⟨w.heap.size, 1, none⟩ = some (.slice A fs.length c) := by rw [(bcell hb1).1 _ _ (by simp)]; go_simp
  have HB1 := Lib.hid (below_step H0.out hb1)
  have hz1 : w.heap.size < w1.heap.size := Nat.lt_of_lt_of_le (by simp) hb1.size
  have hpk := @pack_bounds mti fs
  have hpp := @parse_pack mti fs
  have hpm := @parse_more mti fs more
  have hpc := @parse_cut mti fs
  generalize packOf mti fs = X at hv1 hpk hpp hpm hpc
  obtain ⟨x, er⟩ := X
  simp only at hpk hpp hpm hpc
  obtain ⟨A1, c1, hv, hc1', hr1'⟩ := hv1.reads
  have hc1 : x.length ≤ c1 := hc1'
  have hr1 : RB w1 A1 x := hr1'
  subst hv
  clear hc1' hr1'
  have HR1 := Lib.hid hr1
  clear hb1 hv1 hr1
  dsimp only
  by_cases he : er ≠ 0
  · have b4 : (er == 0) = false := by simpa using he
    clear he hpk hpp hpm hpc HR1 q0 q1 hc1
    go_wp2_with fail
    refine (awake17 _).mono ?_
    rintro e w4 ⟨rfl, hb4⟩
    have HBT := Lib.hid (below_step HB1.out hb4)
    clear hb4 HB1
    dsimp only
    go_wp2_with fail
    refine (iso_Parse Ab cb b _ (RB.below HB.out HBT.out) hbc (by omega)).mono ?_
    rintro e w5 ⟨v5, rfl, hr5, hb5⟩
    have HB5 := Lib.hid (below_step HBT.out hb5)
    have hpb := parse_bounds b
    have hpk5 := @pack_parse b hbB
    generalize parseOf b = Y at hr5 hpb hpk5
    obtain ⟨m5, f5, e5⟩ := Y
    simp only at hpb hpk5
    obtain ⟨A5, c5, hv5', _, hC5'⟩ := Kd.R_reads hr5
    have hv5 : v5 = .slice A5 f5.length c5 := hv5'
    have hC5 : Kd.C kE w5 A5 f5.length f5 := hC5'
    subst hv5
    have HC5 := Lib.hid hC5
    clear hr5 hb5 hC5 hC5' hv5'
    dsimp only
    by_cases h5 : e5 ≠ 0
    · have b8 : (e5 != 0) = true := bne_iff_ne.2 h5
      clear h5 hpk5
      go_wp2_with fail
      refine (awake17 _).mono ?_
      rintro e w6 ⟨rfl, hb6⟩
      have HB6 := Lib.hid (below_step (below_alloc HB5.out _) hb6)
      clear hb6
      dsimp only
      go_wp2_with fail
      go_ret
      exact ⟨rfl, HB6.out⟩
    have h50 : e5 = 0 := by simpa using h5
    subst h50
    have HPK := Lib.hid (hpk5 rfl)
    clear h5 hpk5
    go_wp2_with fail
    refine (iso_Pack m5 A5 c5 f5 _ (by omega) (Kd.C_alloc HC5.out _) (by omega) (fun x hx h => HPw.out.on (below_alloc HB5.out _))).mono ?_
    rintro e w6 ⟨v6, rfl, hv6, hb6⟩
    rw [HPK.out] at hv6 ⊢
    obtain ⟨A6, c6, hv6', _, hr6⟩ := hv6.reads
    subst hv6'
    have HR6 := Lib.hid hr6
    have HB6 := Lib.hid (below_step (below_alloc HB5.out _) hb6)
    clear hb6 hv6 hr6 HPK HC5
    dsimp only
    go_wp2_with fail
    refine (awake17 _).mono ?_
    rintro e w7 ⟨rfl, hb7⟩
    have HR7 := Lib.hid (RB.below HR6.out hb7)
    have HB7 := Lib.hid (below_step HB6.out hb7)
    clear hb7
    dsimp only
    go_wp2_with fail
    refine (help_Bytes A6 Ab c6 cb b _ HR7.out (RB.below HB.out HB7.out)).mono ?_
    rintro e w8 ⟨rfl, rfl⟩
    dsimp only
    go_wp2_with fail
    go_ret
    exact ⟨rfl, HB7.out⟩
  have he0 : er = 0 := by simpa using he
  subst he0
  have hpk' := hpk rfl
  have b4 : ((x.length : Int) == 0) = false := by rw [beq_eq_false_iff_ne]; omega
  have HPP := Lib.hid (hpp rfl)
  have HPM := Lib.hid (hpm rfl)
  have HPC := Lib.hid (fun k (hk : k < x.length) => hpc (k := k) rfl hk)
  clear he hpk hpp hpm hpc
  go_wp2_with fail
  refine (awake17 _).mono ?_
  rintro e w2 ⟨rfl, hb2⟩
  have q0' := (hb2.cell (p := ⟨w.heap.size, 0, none⟩) hz1).trans q0
  have q1' := (hb2.cell (p := ⟨w.heap.size, 1, none⟩) hz1).trans q1
  have hz2 : w.heap.size < w2.heap.size := Nat.lt_of_lt_of_le hz1 hb2.size
  have HB2 := Lib.hid (below_step HB1.out hb2)
  have HR2 := Lib.hid (RB.below HR1.out hb2)
  clear hb2 q0 q1 HR1
  dsimp only
  go_wp2_with fail
  refine (iso_Parse A1 c1 x _ HR2.out hc1 (by omega)).mono ?_
  rintro e w3 ⟨v3, rfl, hr3, hb3⟩
  have q0 := (hb3.cell (p := ⟨w.heap.size, 0, none⟩) hz2).trans q0'
  have q1 := (hb3.cell (p := ⟨w.heap.size, 1, none⟩) hz2).trans q1'
  have hz3 : w.heap.size < w3.heap.size := Nat.lt_of_lt_of_le hz2 hb3.size
  have HB3 := Lib.hid (below_step HB2.out hb3)
  have HR3 := Lib.hid (RB.below HR2.out hb3)
  rw [HPP.out] at hr3 ⊢
  obtain ⟨A3, c3, hv3, _, hC3⟩ := Kd.R_reads hr3
  have HC3 := Lib.hid hC3
  subst hv3
  clear hb3 q0' q1' hr3 hC3 HPP HR2 HB2 hz1 hz2
  have HX3 := Lib.hid (RB.below HM.out HB3.out)
  dsimp only
  go_wp2_with (first
    | ((with_reducible refine gate_dst (N := 62) rfl ?_); refine Kd.R_append_row (Value.int .u8) 0 (h1 := fun _ => rfl) (w0 := w3.alloc (.cells #[.string mti, .slice A3 fs.length c3] 46)) (w3.alloc (.cells #[.string mti, .slice A3 fs.length c3] 46)).heap.size rfl (.const (.slice none 0 0)) (.tmp 61) 22 5 (.int .u8 0) 1 rfl Tryd.underlying22 info_u8 rfl (by decide) (.slice none 0 0) [] x A1 x.length c1 (fun _ => True) rfl rfl (fun _ _ => trivial) (Kd.R_nil _ _ _ _ _) (Kd.C_alloc HR3.out _) (Below.refl _ _) (Nat.le_refl _) (by simp; omega) ?_; intro v8 w8 ho8 hb8 hg8 hat8; rw [List.nil_append] at ho8; have HO8 := Lib.hid ho8; have HB8 := Lib.hid hb8; clear ho8 hb8 hg8 hat8)
    | ((with_reducible refine gate_dst (N := 64) rfl ?_); refine Kd.R_append_row (Value.int .u8) 0 (h1 := fun _ => rfl) (w0 := w3.alloc (.cells #[.string mti, .slice A3 fs.length c3] 46)) (w3.alloc (.cells #[.string mti, .slice A3 fs.length c3] 46)).heap.size rfl (.tmp 62) (.tmp 63) 22 5 (.int .u8 0) 1 rfl Tryd.underlying22 info_u8 rfl (by decide) _ x more Am more.length cm (fun _ => True) rfl rfl (fun _ _ => trivial) HO8.out (RB.below (Kd.C_alloc HX3.out _) HB8.out) HB8.out HB8.out.size (by omega) ?_; intro v9 w9 ho9 hb9 hg9 hat9; obtain ⟨A9, c9, hv9, hc9, hr9⟩ := Kd.R_reads ho9; subst hv9; have HR9 := Lib.hid hr9; have HW9 := Lib.hid hb9; clear ho9 hb9 hg9 hat9 hr9 HO8 HB8))
  have hI := iso_Parse A9 c9 (x ++ more) w9 HR9.out hc9 (by rw [List.length_append]; omega)
  rw [List.length_append] at hI
  refine hI.mono ?_
  clear hI
  rintro e w10 ⟨v10, rfl, hr10, hb10⟩
  have HW10 := Lib.hid (below_step HW9.out hb10)
  generalize parseOf (x ++ more) = Y at hr10 HPM
  obtain ⟨m10, f10, g⟩ := Y
  obtain ⟨A10, c10, hv10', _, _⟩ := Kd.R_reads hr10
  have hv10 : v10 = .slice A10 f10.length c10 := hv10'
  subst hv10
  clear hv10' hr10 hb10 HR9 hc9 HW9
  obtain ⟨k, hk⟩ : ∃ k : Nat, (IntKind.u64.wrap cut).tmod (x.length : Int) = k ∧ k < x.length := by
    have h0 : 0 ≤ IntKind.u64.wrap cut := by rw [IntKind.wrap_u64]; omega
    obtain ⟨m, hm⟩ := Int.eq_ofNat_of_zero_le h0
    refine ⟨m % x.length, ?_, Nat.mod_lt _ (by omega)⟩
    rw [hm]
    exact (Int.ofNat_tmod m x.length).symm
  obtain ⟨e1, hk⟩ := hk
  have e0 : IntKind.u64.wrap (x.length : Int) = x.length := by rw [IntKind.wrap_u64]; omega
  have e3 : IntKind.u64.wrap (k : Int) = k := by rw [IntKind.wrap_u64]; omega
  have e2 : IntKind.i64.wrap (k : Int) = k := by rw [IntKind.wrap_i64]; omega
  obtain ⟨hcut, hcr, hcl⟩ := cut_take A1 c1 x (k : Int) (by omega) (by omega) hc1
  rw [Int.toNat_natCast] at hcut hcr hcl
  have HPCk := Lib.hid (HPC.out k hk)
  have hxl : (x.take k).length ≤ 4096 := by rw [List.length_take]; omega
  have HR10 := Lib.hid (hcr _ (RB.below (Kd.C_alloc HR3.out (.cells #[.string mti, .slice A3 fs.length c3] 46)) HW10.out))
  generalize x.take k = x4 at hcut hcl HPCk hxl HR10
  clear hcr HPC
  dsimp only
  go_wp2_with fail
  refine (iso_Parse A1 c1 x4 _ (Kd.C_alloc HR10.out _) hcl (by omega)).mono ?_
  rintro e w12 ⟨v12, rfl, hr12, hb12⟩
  have HW12 := Lib.hid (below_step (below_alloc HW10.out _) hb12)
  generalize parseOf x4 = Z at hr12 HPCk
  obtain ⟨m12, f12, h⟩ := Z
  obtain ⟨A12, c12, hv12', _, _⟩ := Kd.R_reads hr12
  have hv12 : v12 = .slice A12 f12.length c12 := hv12'
  subst hv12
  have hne : h ≠ 0 := HPCk.out
  have b7 : (h == 0) = false := by simpa using hne
  clear hv12' hr12 hb12 hne HPCk HR10 hcl hcut hxl HW10
  have HW3 := Lib.hid (below_alloc (Below.refl w3.heap.size w3) (.cells #[.string mti, .slice A3 fs.length c3] 46))
  have r0 : w12.cell? ⟨w3.heap.size, 0, none⟩ = some (.string mti) := (HW12.out.cell (p := ⟨w3.heap.size, 0, none⟩) (by simp)).trans (by rw [World.cell?_alloc_new]; rfl)
  have r1 : w12.cell? ⟨w3.heap.size, 1, none⟩ = some (.slice A3 fs.length c3) := (HW12.out.cell (p := ⟨w3.heap.size, 1, none⟩) (by simp)).trans (by rw [World.cell?_alloc_new]; rfl)
  have HW3b := Lib.hid (below_step HW3.out HW12.out)
  have p0 : w12.cell? ⟨w.heap.size, 0, none⟩ = some (.string mti) := (HW3b.out.cell (p := ⟨w.heap.size, 0, none⟩) hz3).trans q0
  have p1 : w12.cell? ⟨w.heap.size, 1, none⟩ = some (.slice A fs.length c) := (HW3b.out.cell (p := ⟨w.heap.size, 1, none⟩) hz3).trans q1
  have hz4 : w3.heap.size < w12.heap.size := Nat.lt_of_lt_of_le (by simp) HW12.out.size
  have hz5 : w.heap.size < w12.heap.size := by omega
  clear q0 q1 HW12 HW3
  have hE0 : IntKind.i64.wrap ((x.length : Int) + (more.length : Int)) = (x.length : Int) + (more.length : Int) := by rw [IntKind.wrap_i64]; omega
  obtain ⟨E, hE, hE1⟩ : ∃ E : Int, IntKind.i64.wrap ((x.length : Int) + (more.length : Int)) = E ∧ E = (x.length : Int) + (more.length : Int) := ⟨_, hE0, rfl⟩
  have D : decide (0 < more.length) = false ∨ (decide (0 < more.length) = true ∧ (g != 17) = false) ∨ (decide (0 < more.length) = true ∧ (g != 17) = true ∧ decide ((4096 : Int) < E) = true) := by
    by_cases h0 : 0 < more.length
    · by_cases h1 : g = 17
      · exact Or.inr (Or.inl ⟨decide_eq_true h0, by simpa using h1⟩)
      · refine Or.inr (Or.inr ⟨decide_eq_true h0, bne_iff_ne.2 h1, decide_eq_true ?_⟩)
        by_cases h2 : (x ++ more).length ≤ 4096
        · exact absurd (HPM.out h0 h2) h1
        · rw [List.length_append] at h2
          omega
    · exact Or.inl (decide_eq_false h0)
  have HE1 := Lib.hid hE1
  have b9 : decide ((4096 : Int) < E) = decide ((4096 : Int) < E) := rfl
  clear hE0 hE1 HPM b9
  rcases D with d1 | ⟨d1, d2⟩ | ⟨d1, d2, d3⟩
  all_goals
    dsimp only
    go_wp2_with fail
    refine (help_Iso mti A3 A c3 c fs _ (Kd.C_alloc (Kd.C_below HC3.out HW3b.out) _) (Kd.C_alloc (Kd.C_below HC.out (below_step HB3.out HW3b.out)) _)).mono ?_
    rintro e w14 ⟨rfl, hb14⟩
    have HBT := Lib.hid (below_step (below_alloc (below_step HB3.out HW3b.out) _) hb14)
    clear hb14 p0 p1 r0 r1 HW3b HB3 HC3
    dsimp only
    go_wp2_with fail
    refine (iso_Parse Ab cb b _ (RB.below HB.out HBT.out) hbc (by omega)).mono ?_
    rintro e w5 ⟨v5, rfl, hr5, hb5⟩
    have HB5 := Lib.hid (below_step HBT.out hb5)
    have hpb := parse_bounds b
    have hpk5 := @pack_parse b hbB
    generalize parseOf b = Y at hr5 hpb hpk5
    obtain ⟨m5, f5, e5⟩ := Y
    simp only at hpb hpk5
    obtain ⟨A5, c5, hv5', _, hC5'⟩ := Kd.R_reads hr5
    have hv5 : v5 = .slice A5 f5.length c5 := hv5'
    have hC5 : Kd.C kE w5 A5 f5.length f5 := hC5'
    subst hv5
    have HC5 := Lib.hid hC5
    clear hr5 hb5 hC5 hC5' hv5'
    dsimp only
    by_cases h5 : e5 ≠ 0
    · have b8 : (e5 != 0) = true := bne_iff_ne.2 h5
      clear h5 hpk5
      go_wp2_with fail
      refine (awake17 _).mono ?_
      rintro e w6 ⟨rfl, hb6⟩
      have HB6 := Lib.hid (below_step (below_alloc HB5.out _) hb6)
      clear hb6
      dsimp only
      go_wp2_with fail
      go_ret
      exact ⟨rfl, HB6.out⟩
    have h50 : e5 = 0 := by simpa using h5
    subst h50
    have HPK := Lib.hid (hpk5 rfl)
    clear h5 hpk5
    go_wp2_with fail
    refine (iso_Pack m5 A5 c5 f5 _ (by omega) (Kd.C_alloc HC5.out _) (by omega) (fun x hx h => HPw.out.on (below_alloc HB5.out _))).mono ?_
    rintro e w6 ⟨v6, rfl, hv6, hb6⟩
    rw [HPK.out] at hv6 ⊢
    obtain ⟨A6, c6, hv6', _, hr6⟩ := hv6.reads
    subst hv6'
    have HR6 := Lib.hid hr6
    have HB6 := Lib.hid (below_step (below_alloc HB5.out _) hb6)
    clear hb6 hv6 hr6 HPK HC5
    dsimp only
    go_wp2_with fail
    refine (awake17 _).mono ?_
    rintro e w7 ⟨rfl, hb7⟩
    have HR7 := Lib.hid (RB.below HR6.out hb7)
    have HB7 := Lib.hid (below_step HB6.out hb7)
    clear hb7
    dsimp only
    go_wp2_with fail
    refine (help_Bytes A6 Ab c6 cb b _ HR7.out (RB.below HB.out HB7.out)).mono ?_
    rintro e w8 ⟨rfl, rfl⟩
    dsimp only
    go_wp2_with fail
    go_ret
    exact ⟨rfl, HB7.out⟩
end Go.Proofs.YtonhmaklnkidhaaDoor.G
