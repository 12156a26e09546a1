/- What the functions of package element and of the verifier do, one contract each: a part of the proof; no conditions of its own (my own text, filled from XG4.lean.tpl). -/
import Derived.Test.YtonhmaklnkidhaaDoorG3
namespace Go.Proofs.YtonhmaklnkidhaaDoor.G
open Go.RowKit Go.Proofs.YtonhmaklnkidhaaDoorW.PrintWords

def numL (l : List UInt8) : Int := l.foldl (fun v c => v * 10 + ((c.toNat : Int) - 48)) 0
theorem numL_snoc (l : List UInt8) (c : UInt8) : numL (l ++ [c]) = numL l * 10 + ((c.toNat : Int) - 48) := by simp [numL]
theorem numL_go (l : List UInt8) (h : ∀ c ∈ l, digit (c.toNat : Int) = true) : ∀ a : Int, 0 ≤ a → 0 ≤ l.foldl (fun v c => v * 10 + ((c.toNat : Int) - 48)) a ∧ l.foldl (fun v c => v * 10 + ((c.toNat : Int) - 48)) a < (a + 1) * 10 ^ l.length := by
  induction l with
  | nil => intro a ha; exact ⟨ha, by simp; omega⟩
  | cons c l ih =>
    intro a ha
    have hc := h c (by simp)
    simp only [digit, Bool.and_eq_true, decide_eq_true_eq] at hc
    obtain ⟨h0, h1⟩ := ih (fun x hx => h x (by simp [hx])) (a * 10 + ((c.toNat : Int) - 48)) (by omega)
    refine ⟨h0, Int.lt_of_lt_of_le h1 ?_⟩
    rw [List.length_cons, Int.pow_succ, Int.mul_comm (10 ^ l.length) 10, ← Int.mul_assoc]
    exact Int.mul_le_mul_of_nonneg_right (by omega) (Int.le_of_lt (Int.pow_pos (by decide)))
theorem numL_bound (l : List UInt8) (h : ∀ c ∈ l, digit (c.toNat : Int) = true) : 0 ≤ numL l ∧ numL l < 10 ^ l.length := by
  have := numL_go l h 0 (Int.le_refl _)
  unfold numL
  simpa using this
theorem pow_le (n : Nat) (h : n ≤ 18) : (10 : Int) ^ n ≤ 1000000000000000000 := by
  have : (10 : Int) ^ n ≤ 10 ^ 18 := by exact_mod_cast Nat.pow_le_pow_right (by decide) h
  simpa using this
theorem take_snoc (s : ByteArray) (k : Nat) (h : k < s.size) : s.data.toList.take (k + 1) = s.data.toList.take k ++ [s[k]] := by
  rw [List.take_succ_eq_append_getElem (by simpa using h)]; rfl
theorem allB_at {p : Int → Bool} {s : ByteArray} (h : allB p s = true) (k : Nat) (hk : k < s.size) : p (s[k].toNat : Int) = true := by
  unfold allB at h
  rw [List.all_eq_true] at h
  exact h _ (by simp [ByteArray.getElem_eq_getElem_data])
def rightB (s : ByteArray) (lo hi : Int) : Bool := decide (lo ≤ s.size) && decide ((s.size : Int) ≤ hi) && allB digit s
theorem right_f (s : ByteArray) (lo hi : Int) (h : s.size ≤ 9223372036854775807) : digits_Right.f s lo hi = some (rightB s lo hi) := by rw [digits_Right.f, if_pos h]; rfl

/-- the number of digits, and why not -/
def numberOf (s : ByteArray) : Int × Int := if rightB s 1 18 = true then (numL s.data.toList, 0) else (0, 5)
set_option maxHeartbeats 800000 in
set_option maxRecDepth 100000 in
theorem digits_Number (s : ByteArray) (hs : s.size ≤ 9223372036854775807) (w : World) :
    Calls Tryd.prog 50 #[.string s] w fun e w' => e = .returned (.tuple #[.int .u64 (numberOf s).1, .int .i64 (numberOf s).2]) ∧ Drawn0 w w' := by
  by_cases hr : rightB s 1 18 = true
  · have hn : Hid (numberOf s = (numL s.data.toList, 0)) := Lib.hid (by rw [numberOf, if_pos hr])
    have hall : allB digit s = true := by unfold rightB at hr; simp at hr; exact hr.2
    have h18 : s.size ≤ 18 := by unfold rightB at hr; simp at hr; omega
    have HA := Lib.hid hall
    have HR := Lib.hid hr
    clear hall hr
    go_enter Tryd.func50, Tryd.ntmps50
    go_wp2_with (go_at_call 33; refine (digits_Right.calls s 1 18 true _ (by rw [right_f s _ _ hs, HR.out])).mono ?_; rintro e w' ⟨rfl, nd, rfl⟩)
    go_loop [4, 5, 11] (fun v _ i => ∃ k : Nat, k ≤ s.size ∧ i = .int .i64 k ∧ v = .int .u64 (numL (s.data.toList.take k))) (fun _ _ i => s.size - (intOf i).toNat)
    case atStart => exact ⟨0, Nat.zero_le _, rfl, rfl⟩
    case round =>
      obtain ⟨k, hk, rfl, rfl⟩ := hrel
      have hb := numL_bound (s.data.toList.take k) (fun c hc => by
        obtain ⟨j, hj, rfl⟩ := List.getElem_of_mem hc
        rw [List.getElem_take]
        exact allB_at HA.out j (by simp at hj; omega))
      have hp := pow_le (s.data.toList.take k).length (by rw [List.length_take]; omega)
      by_cases hlt : k < s.size
      · have hd := allB_at HA.out k hlt
        simp only [digit, Bool.and_eq_true, decide_eq_true_eq] at hd
        have hsn : Hid (numL (s.data.toList.take (k + 1)) = numL (s.data.toList.take k) * 10 + ((s[k].toNat : Int) - 48)) := Lib.hid (by rw [take_snoc s k hlt, numL_snoc])
        have hb1 : 0 ≤ numL (s.data.toList.take k) ∧ numL (s.data.toList.take k) < 1000000000000000000 := ⟨hb.1, Int.lt_of_lt_of_le hb.2 hp⟩
        obtain ⟨hb1, hb2⟩ := hb1
        obtain ⟨hd1, hd2⟩ := hd
        clear hb hp
        go_wp2
        go_round
        case rel => exact ⟨k + 1, by omega, by go_num, by rw [hsn.out]⟩
        case measure => simp [intOf]; omega
      · have e : Hid (numL (s.data.toList.take k) = numL s.data.toList) := Lib.hid (by rw [List.take_of_length_le (by simp; omega)])
        clear hb hp
        go_wp2
        go_ret2
        exact ⟨by rw [hn.out, ← e.out]; rfl, ⟨nd, rfl⟩⟩
  · have hn : Hid (numberOf s = (0, 5)) := Lib.hid (by rw [numberOf, if_neg hr])
    have HR := Lib.hid (Bool.eq_false_iff.2 hr)
    clear hr
    go_enter Tryd.func50, Tryd.ntmps50
    go_wp2_with (go_at_call 33; refine (digits_Right.calls s 1 18 false _ (by rw [right_f s _ _ hs, HR.out])).mono ?_; rintro e w' ⟨rfl, nd, rfl⟩)
    go_ret2
    exact ⟨by rw [hn.out]; rfl, ⟨nd, rfl⟩⟩
end Go.Proofs.YtonhmaklnkidhaaDoor.G
