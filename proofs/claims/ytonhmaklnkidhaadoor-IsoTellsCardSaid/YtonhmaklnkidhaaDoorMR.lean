/- What the functions of package element and of the verifier do, one contract each: a part of the proof; no conditions of its own (my own text, filled from XMR.lean.tpl). -/
import Derived.Test.YtonhmaklnkidhaaDoorMV
import Derived.Test.YtonhmaklnkidhaaDoorU14

import Derived.Test.YtonhmaklnkidhaaDoorD1
import Derived.Test.YtonhmaklnkidhaaDoorWLast


namespace Go.Proofs.YtonhmaklnkidhaaDoor.G
open Go.RowKit Go.Proofs.YtonhmaklnkidhaaDoorW.PrintWords

/-! ### the document's own answers, one by one -/
theorem right_bad {s : ByteArray} (lo hi : Int) (j : Nat) (hj : j < s.size) (h : digit (s[j].toNat : Int) = false) : rightB s lo hi = false := by
  unfold rightB
  rw [allB_false j hj h, Bool.and_false]
theorem right_good {s : ByteArray} (lo hi : Int) (h : ∀ j (hj : j < s.size), digit (s[j].toNat : Int) = true) : rightB s lo hi = (decide (lo ≤ s.size) && decide ((s.size : Int) ≤ hi)) := by
  unfold rightB
  rw [allB_true h, Bool.and_true]
set_option maxHeartbeats 800000 in
set_option maxRecDepth 100000 in
theorem ref_Right (s : ByteArray) (lo hi : Int) (hs : s.size ≤ 9223372036854775807) (w : World) :
    Calls Tryd.prog 37 #[.string s, .int .i64 lo, .int .i64 hi] w fun e w' => e = .returned (.bool (rightB s lo hi)) ∧ w = w' := by
  go_enter Tryd.func37, Tryd.ntmps37
  go_wp2_with fail
  go_loop [7] (fun v => ∃ k : Nat, k ≤ s.size ∧ v = .int .i64 k ∧ Hid (∀ j (hj : j < s.size), j < k → digit (s[j].toNat : Int) = true)) (fun v => s.size - (intOf v).toNat)
  case atStart => exact ⟨0, Nat.zero_le _, rfl, Lib.hid fun j _ h => absurd h (by omega)⟩
  case round =>
    obtain ⟨k, hk, rfl, hall⟩ := hrel
    by_cases hlt : k < s.size
    · have hb := s[k].toNat_lt
      cases hpk : digit (s[k].toNat : Int)
      · have hd : decide ((s[k].toNat : Int) < 48) = true ∨ (decide ((s[k].toNat : Int) < 48) = false ∧ decide ((57 : Int) < (s[k].toNat : Int)) = true) := by
          unfold digit at hpk
          simp only [Bool.and_eq_false_iff, decide_eq_false_iff_not, decide_eq_true_eq] at hpk ⊢
          omega
        have HE := Lib.hid (right_bad lo hi k hlt hpk)
        clear hpk
        rcases hd with d1 | ⟨d1, d2⟩
        all_goals
          go_wp2_with fail
          go_ret
          exact ⟨by rw [HE.out]; rfl, rfl⟩
      · have hd : decide ((s[k].toNat : Int) < 48) = false ∧ decide ((57 : Int) < (s[k].toNat : Int)) = false := by
          unfold digit at hpk
          simp only [Bool.and_eq_true, decide_eq_false_iff_not, decide_eq_true_eq] at hpk ⊢
          omega
        have HK := Lib.hid hpk
        obtain ⟨d1, d2⟩ := hd
        clear hpk
        go_wp2_with fail
        go_round
        case rel => exact ⟨k + 1, by omega, by go_num, Lib.hid fun j hj h => by
          by_cases e : j = k
          · subst e; exact HK.out
          · exact hall.out j hj (by omega)⟩
        case measure => simp [intOf]; omega
    · have HE := Lib.hid (right_good (s := s) lo hi fun j hj => hall.out j hj (by omega))
      cases d1 : decide (lo ≤ (s.size : Int)) <;> cases d2 : decide ((s.size : Int) ≤ hi)
      all_goals
        go_wp2_with fail
        go_ret
        exact ⟨by rw [HE.out, d1, d2]; rfl, rfl⟩
/-- a text of printable signs -/
def ansR (s : ByteArray) (hi : Int) : Bool := decide (1 ≤ (s.size : Int)) && decide ((s.size : Int) ≤ hi) && allB ansB s
theorem ans_b (c : Int) : ansB c = (decide (32 ≤ c) && decide (c ≤ 126)) := by
  unfold ansB inSpans
  simp [span_in]
set_option maxHeartbeats 800000 in
set_option maxRecDepth 100000 in
theorem ref_Ans (s : ByteArray) (hi : Int) (hs : s.size ≤ 9223372036854775807) (w : World) :
    Calls Tryd.prog 82 #[.string s, .int .i64 hi] w fun e w' => e = .returned (.bool (ansR s hi)) ∧ w = w' := by
  go_enter Tryd.func82, Tryd.ntmps82
  go_wp2_with fail
  go_loop [5] (fun v => ∃ k : Nat, k ≤ s.size ∧ v = .int .i64 k ∧ Hid (∀ j (hj : j < s.size), j < k → ansB (s[j].toNat : Int) = true)) (fun v => s.size - (intOf v).toNat)
  case atStart => exact ⟨0, Nat.zero_le _, rfl, Lib.hid fun j _ h => absurd h (by omega)⟩
  case round =>
    obtain ⟨k, hk, rfl, hall⟩ := hrel
    by_cases hlt : k < s.size
    · have hb := s[k].toNat_lt
      cases hpk : ansB (s[k].toNat : Int)
      · have hd : decide ((s[k].toNat : Int) < 32) = true ∨ (decide ((s[k].toNat : Int) < 32) = false ∧ decide ((126 : Int) < (s[k].toNat : Int)) = true) := by
          rw [ans_b] at hpk
          simp only [Bool.and_eq_false_iff, decide_eq_false_iff_not, decide_eq_true_eq] at hpk ⊢
          omega
        have HE := Lib.hid (show ansR s hi = false by unfold ansR; rw [allB_false k hlt hpk, Bool.and_false])
        clear hpk
        rcases hd with d1 | ⟨d1, d2⟩
        all_goals
          go_wp2_with fail
          go_ret
          exact ⟨by rw [HE.out]; rfl, rfl⟩
      · have hd : decide ((s[k].toNat : Int) < 32) = false ∧ decide ((126 : Int) < (s[k].toNat : Int)) = false := by
          rw [ans_b] at hpk
          simp only [Bool.and_eq_true, decide_eq_false_iff_not, decide_eq_true_eq] at hpk ⊢
          omega
        have HK := Lib.hid hpk
        obtain ⟨d1, d2⟩ := hd
        clear hpk
        go_wp2_with fail
        go_round
        case rel => exact ⟨k + 1, by omega, by go_num, Lib.hid fun j hj h => by
          by_cases e : j = k
          · subst e; exact HK.out
          · exact hall.out j hj (by omega)⟩
        case measure => simp [intOf]; omega
    · have HE := Lib.hid (show ansR s hi = (decide (1 ≤ (s.size : Int)) && decide ((s.size : Int) ≤ hi)) by unfold ansR; rw [allB_true fun j hj => hall.out j hj (by omega), Bool.and_true])
      cases d1 : decide (1 ≤ (s.size : Int)) <;> cases d2 : decide ((s.size : Int) ≤ hi)
      all_goals
        go_wp2_with fail
        go_ret
        exact ⟨by rw [HE.out, d1, d2]; rfl, rfl⟩
/-- a text of letters and digits -/
def alnR (s : ByteArray) (lo hi : Int) : Bool := decide (lo ≤ (s.size : Int)) && decide ((s.size : Int) ≤ hi) && allB alnB s
theorem aln_b (c : Int) : alnB c = ((decide (48 ≤ c) && decide (c ≤ 57)) || ((decide (65 ≤ c) && decide (c ≤ 90)) || (decide (97 ≤ c) && decide (c ≤ 122)))) := by
  unfold alnB inSpans
  simp [span_in]
theorem aln_true {c : Int} (h : alnB c = true) : (decide (48 ≤ c) = true ∧ decide (c ≤ 57) = true) ∨ (decide (48 ≤ c) = true ∧ decide (c ≤ 57) = false ∧ decide (65 ≤ c) = true ∧ decide (c ≤ 90) = true) ∨ (decide (48 ≤ c) = true ∧ decide (c ≤ 57) = false ∧ decide (65 ≤ c) = true ∧ decide (c ≤ 90) = false ∧ decide (97 ≤ c) = true ∧ decide (c ≤ 122) = true) := by
  rw [aln_b] at h
  simp only [Bool.or_eq_true, Bool.and_eq_true, decide_eq_false_iff_not, decide_eq_true_eq] at h ⊢
  omega
theorem aln_false {c : Int} (h : alnB c = false) : (decide (48 ≤ c) = false ∧ decide (65 ≤ c) = false ∧ decide (97 ≤ c) = false) ∨ (decide (48 ≤ c) = true ∧ decide (c ≤ 57) = false ∧ decide (65 ≤ c) = false ∧ decide (97 ≤ c) = false) ∨ (decide (48 ≤ c) = true ∧ decide (c ≤ 57) = false ∧ decide (65 ≤ c) = true ∧ decide (c ≤ 90) = false ∧ decide (97 ≤ c) = false) ∨ (decide (48 ≤ c) = true ∧ decide (c ≤ 57) = false ∧ decide (65 ≤ c) = true ∧ decide (c ≤ 90) = false ∧ decide (97 ≤ c) = true ∧ decide (c ≤ 122) = false) := by
  rw [aln_b] at h
  simp only [Bool.or_eq_false_iff, Bool.and_eq_false_iff, decide_eq_false_iff_not, decide_eq_true_eq] at h ⊢
  omega
set_option maxHeartbeats 1600000 in
set_option maxRecDepth 100000 in
theorem ref_Aln (s : ByteArray) (lo hi : Int) (hs : s.size ≤ 9223372036854775807) (w : World) :
    Calls Tryd.prog 81 #[.string s, .int .i64 lo, .int .i64 hi] w fun e w' => e = .returned (.bool (alnR s lo hi)) ∧ w = w' := by
  go_enter Tryd.func81, Tryd.ntmps81
  go_wp2_with fail
  go_loop [7, 8] (fun v _ => ∃ k : Nat, k ≤ s.size ∧ v = .int .i64 k ∧ Hid (∀ j (hj : j < s.size), j < k → alnB (s[j].toNat : Int) = true)) (fun v _ => s.size - (intOf v).toNat)
  case atStart => exact ⟨0, Nat.zero_le _, rfl, Lib.hid fun j _ h => absurd h (by omega)⟩
  case round =>
    obtain ⟨k, hk, rfl, hall⟩ := hrel
    by_cases hlt : k < s.size
    · have hb := s[k].toNat_lt
      cases hpk : alnB (s[k].toNat : Int)
      · have hd := aln_false hpk
        have HE := Lib.hid (show alnR s lo hi = false by unfold alnR; rw [allB_false k hlt hpk, Bool.and_false])
        clear hpk
        rcases hd with ⟨d1, d3, d5⟩ | ⟨d1, d2, d3, d5⟩ | ⟨d1, d2, d3, d4, d5⟩ | ⟨d1, d2, d3, d4, d5, d6⟩
        all_goals
          go_wp2_with fail
          go_ret
          exact ⟨by rw [HE.out]; rfl, rfl⟩
      · have hd := aln_true hpk
        have HK := Lib.hid hpk
        clear hpk
        rcases hd with ⟨d1, d2⟩ | ⟨d1, d2, d3, d4⟩ | ⟨d1, d2, d3, d4, d5, d6⟩
        all_goals
          go_wp2_with fail
          go_round
          case rel => exact ⟨k + 1, by omega, by go_num, Lib.hid fun j hj h => by
            by_cases e : j = k
            · subst e; exact HK.out
            · exact hall.out j hj (by omega)⟩
          case measure => simp [intOf]; omega
    · have HE := Lib.hid (show alnR s lo hi = (decide (lo ≤ (s.size : Int)) && decide ((s.size : Int) ≤ hi)) by unfold alnR; rw [allB_true fun j hj => hall.out j hj (by omega), Bool.and_true])
      cases d1 : decide (lo ≤ (s.size : Int)) <;> cases d2 : decide ((s.size : Int) ≤ hi)
      all_goals
        go_wp2_with fail
        go_ret
        exact ⟨by rw [HE.out, d1, d2]; rfl, rfl⟩
set_option maxHeartbeats 1600000 in
set_option maxRecDepth 100000 in
theorem ref_Number (s : ByteArray) (hs : s.size ≤ 9223372036854775807) (w : World) :
    Calls Tryd.prog 60 #[.string s] w fun e w' => e = .returned (.tuple #[.int .u64 (numberOf s).1, .int .i64 (numberOf s).2]) ∧ w = w' := by
  by_cases hr : rightB s 1 18 = true
  · have hn : Hid (numberOf s = (numL s.data.toList, 0)) := Lib.hid (by rw [numberOf, if_pos hr])
    have hall : allB digit s = true := by unfold rightB at hr; simp at hr; exact hr.2
    have h18 : s.size ≤ 18 := by unfold rightB at hr; simp at hr; omega
    have HA := Lib.hid hall
    have HR := Lib.hid hr
    clear hall hr
    go_enter Tryd.func60, Tryd.ntmps60
    go_wp2_with (go_at_call 37; refine (ref_Right s 1 18 hs _).mono ?_; rintro e w' ⟨rfl, rfl⟩; rw [HR.out])
    go_loop [4, 5] (fun v i => ∃ k : Nat, k ≤ s.size ∧ i = .int .i64 k ∧ v = .int .u64 (numL (s.data.toList.take k))) (fun _ i => s.size - (intOf i).toNat)
    case atStart => exact ⟨0, Nat.zero_le _, rfl, rfl⟩
    case round =>
      obtain ⟨k, hk, rfl, rfl⟩ := hrel
      have hb := numL_bound (s.data.toList.take k) (fun c hc => by
        obtain ⟨j, hj, rfl⟩ := List.getElem_of_mem hc
        rw [List.getElem_take]
        exact allB_at HA.out j (by simp at hj; omega))
      have hp := pow_le (s.data.toList.take k).length (by rw [List.length_take]; omega)
      by_cases hlt : k < s.size
      · have hd := allB_at HA.out k hlt
        simp only [digit, Bool.and_eq_true, decide_eq_true_eq] at hd
        have hsn : Hid (numL (s.data.toList.take (k + 1)) = numL (s.data.toList.take k) * 10 + ((s[k].toNat : Int) - 48)) := Lib.hid (by rw [take_snoc s k hlt, numL_snoc])
        have hb1 : 0 ≤ numL (s.data.toList.take k) ∧ numL (s.data.toList.take k) < 1000000000000000000 := ⟨hb.1, Int.lt_of_lt_of_le hb.2 hp⟩
        obtain ⟨hb1, hb2⟩ := hb1
        obtain ⟨hd1, hd2⟩ := hd
        clear hb hp
        go_wp2
        go_round
        case rel => exact ⟨k + 1, by omega, by go_num, by rw [hsn.out]⟩
        case measure => simp [intOf]; omega
      · have e : Hid (numL (s.data.toList.take k) = numL s.data.toList) := Lib.hid (by rw [List.take_of_length_le (by simp; omega)])
        clear hb hp
        go_wp2
        go_ret2
        exact ⟨by rw [hn.out, ← e.out]; rfl, rfl⟩
  · have hn : Hid (numberOf s = (0, 5)) := Lib.hid (by rw [numberOf, if_neg hr])
    have HR := Lib.hid (Bool.eq_false_iff.2 hr)
    clear hr
    go_enter Tryd.func60, Tryd.ntmps60
    go_wp2_with (go_at_call 37; refine (ref_Right s 1 18 hs _).mono ?_; rintro e w' ⟨rfl, rfl⟩; rw [HR.out])
    go_ret2
    exact ⟨by rw [hn.out]; rfl, rfl⟩
end Go.Proofs.YtonhmaklnkidhaaDoor.G

namespace Go.Proofs.YtonhmaklnkidhaaDoor.G
open Go.RowKit Go.Proofs.YtonhmaklnkidhaaDoorW.PrintWords

/-! ### the document's table -/
def refT : List Fmt := [⟨2, 1, 2, 19⟩, ⟨4, 1, 0, 12⟩, ⟨11, 1, 0, 6⟩, ⟨12, 1, 0, 14⟩, ⟨22, 1, 0, 3⟩, ⟨25, 1, 0, 4⟩, ⟨32, 1, 2, 11⟩, ⟨37, 2, 0, 12⟩, ⟨38, 2, 0, 6⟩, ⟨39, 1, 0, 3⟩, ⟨41, 3, 0, 8⟩, ⟨42, 3, 0, 15⟩, ⟨43, 3, 2, 40⟩, ⟨48, 3, 3, 8⟩, ⟨49, 1, 0, 3⟩, ⟨55, 4, 3, 255⟩, ⟨56, 1, 0, 20⟩, ⟨60, 3, 3, 100⟩, ⟨61, 3, 3, 100⟩, ⟨62, 3, 3, 100⟩, ⟨63, 3, 3, 100⟩, ⟨102, 3, 2, 28⟩, ⟨103, 3, 2, 28⟩, ⟨120, 4, 4, 999⟩]
def refC : Array Value := #[.int .i64 2, .int .i64 1, .int .i64 2, .int .i64 19, .int .i64 4, .int .i64 1, .int .i64 0, .int .i64 12, .int .i64 11, .int .i64 1, .int .i64 0, .int .i64 6, .int .i64 12, .int .i64 1, .int .i64 0, .int .i64 14, .int .i64 22, .int .i64 1, .int .i64 0, .int .i64 3, .int .i64 25, .int .i64 1, .int .i64 0, .int .i64 4, .int .i64 32, .int .i64 1, .int .i64 2, .int .i64 11, .int .i64 37, .int .i64 2, .int .i64 0, .int .i64 12, .int .i64 38, .int .i64 2, .int .i64 0, .int .i64 6, .int .i64 39, .int .i64 1, .int .i64 0, .int .i64 3, .int .i64 41, .int .i64 3, .int .i64 0, .int .i64 8, .int .i64 42, .int .i64 3, .int .i64 0, .int .i64 15, .int .i64 43, .int .i64 3, .int .i64 2, .int .i64 40, .int .i64 48, .int .i64 3, .int .i64 3, .int .i64 8, .int .i64 49, .int .i64 1, .int .i64 0, .int .i64 3, .int .i64 55, .int .i64 4, .int .i64 3, .int .i64 255, .int .i64 56, .int .i64 1, .int .i64 0, .int .i64 20, .int .i64 60, .int .i64 3, .int .i64 3, .int .i64 100, .int .i64 61, .int .i64 3, .int .i64 3, .int .i64 100, .int .i64 62, .int .i64 3, .int .i64 3, .int .i64 100, .int .i64 63, .int .i64 3, .int .i64 3, .int .i64 100, .int .i64 102, .int .i64 3, .int .i64 2, .int .i64 28, .int .i64 103, .int .i64 3, .int .i64 2, .int .i64 28, .int .i64 120, .int .i64 4, .int .i64 4, .int .i64 999]
theorem refC_at : ∀ k < 24, refC[k * 4]? = some (.int .i64 (refT.getD k ⟨0, 0, 0, 0⟩).no) ∧ refC[k * 4 + 1]? = some (.int .i64 (refT.getD k ⟨0, 0, 0, 0⟩).kind) ∧ refC[k * 4 + 2]? = some (.int .i64 (refT.getD k ⟨0, 0, 0, 0⟩).digits) ∧ refC[k * 4 + 3]? = some (.int .i64 (refT.getD k ⟨0, 0, 0, 0⟩).most) := by
  intro k hk
  match k, hk with
  | 0, _ => exact ⟨rfl, rfl, rfl, rfl⟩
  | 1, _ => exact ⟨rfl, rfl, rfl, rfl⟩
  | 2, _ => exact ⟨rfl, rfl, rfl, rfl⟩
  | 3, _ => exact ⟨rfl, rfl, rfl, rfl⟩
  | 4, _ => exact ⟨rfl, rfl, rfl, rfl⟩
  | 5, _ => exact ⟨rfl, rfl, rfl, rfl⟩
  | 6, _ => exact ⟨rfl, rfl, rfl, rfl⟩
  | 7, _ => exact ⟨rfl, rfl, rfl, rfl⟩
  | 8, _ => exact ⟨rfl, rfl, rfl, rfl⟩
  | 9, _ => exact ⟨rfl, rfl, rfl, rfl⟩
  | 10, _ => exact ⟨rfl, rfl, rfl, rfl⟩
  | 11, _ => exact ⟨rfl, rfl, rfl, rfl⟩
  | 12, _ => exact ⟨rfl, rfl, rfl, rfl⟩
  | 13, _ => exact ⟨rfl, rfl, rfl, rfl⟩
  | 14, _ => exact ⟨rfl, rfl, rfl, rfl⟩
  | 15, _ => exact ⟨rfl, rfl, rfl, rfl⟩
  | 16, _ => exact ⟨rfl, rfl, rfl, rfl⟩
  | 17, _ => exact ⟨rfl, rfl, rfl, rfl⟩
  | 18, _ => exact ⟨rfl, rfl, rfl, rfl⟩
  | 19, _ => exact ⟨rfl, rfl, rfl, rfl⟩
  | 20, _ => exact ⟨rfl, rfl, rfl, rfl⟩
  | 21, _ => exact ⟨rfl, rfl, rfl, rfl⟩
  | 22, _ => exact ⟨rfl, rfl, rfl, rfl⟩
  | 23, _ => exact ⟨rfl, rfl, rfl, rfl⟩
  | k + 24, hk => omega
theorem refT_at : ∀ k < 24, (fmtOf (refT.getD k ⟨0, 0, 0, 0⟩).no).no = (refT.getD k ⟨0, 0, 0, 0⟩).no ∧ (fmtOf (refT.getD k ⟨0, 0, 0, 0⟩).no).kind = (refT.getD k ⟨0, 0, 0, 0⟩).kind ∧ (fmtOf (refT.getD k ⟨0, 0, 0, 0⟩).no).digits = (refT.getD k ⟨0, 0, 0, 0⟩).digits ∧ (fmtOf (refT.getD k ⟨0, 0, 0, 0⟩).no).most = (refT.getD k ⟨0, 0, 0, 0⟩).most ∧ isEl (refT.getD k ⟨0, 0, 0, 0⟩).no = true := by decide +kernel
theorem refT_all : table.all (fun f => (List.range 24).any fun k => (refT.getD k ⟨0, 0, 0, 0⟩).no == f.no) = true := by decide +kernel
theorem refT_none {no : Int} (h : ∀ k < 24, ¬ (refT.getD k ⟨0, 0, 0, 0⟩).no = no) : isEl no = false ∧ fmtOf no = ⟨0, 0, 0, 0⟩ := by
  have hn : ∀ f ∈ table, ¬ f.no = no := by
    intro f hf he
    have h1 := List.all_eq_true.1 refT_all f hf
    obtain ⟨k, hk, h2⟩ := List.any_eq_true.1 h1
    exact h k (List.mem_range.1 hk) ((beq_iff_eq.1 h2).trans he)
  constructor
  · unfold isEl
    rw [List.any_eq_false]
    intro f hf
    simpa using hn f hf
  · unfold fmtOf
    rw [List.find?_eq_none.2 (fun f hf => by simpa using hn f hf)]
    rfl
set_option maxHeartbeats 800000 in
set_option maxRecDepth 100000 in
theorem ref_form (a b c d : Int) (w : World) :
    Calls Tryd.prog 96 #[.int .i64 a, .int .i64 b, .int .i64 c, .int .i64 d] w fun e w' => e = .returned (.agg #[.int .i64 a, .int .i64 b, .int .i64 c, .int .i64 d]) ∧ Below w.heap.size w w' := by
  go_enter Tryd.func96, Tryd.ntmps96
  go_wp2_with fail
  refine bodyPost_ret (v := .agg #[.int .i64 a, .int .i64 b, .int .i64 c, .int .i64 d]) (by simp [results, Tryd.results96, go_sem]) rfl ⟨rfl, ?_⟩
  exact below_alloc (Below.refl _ _) _
/-- the table lies at an address -/
def TableAt (w : World) (ad : Addr) : Prop := ∀ k < 24, w.cell? (ad.add (k * 4)) = some (.int .i64 (refT.getD k ⟨0, 0, 0, 0⟩).no) ∧ w.cell? ⟨(ad.add (k * 4)).block, (ad.add (k * 4)).off + 1, none⟩ = some (.int .i64 (refT.getD k ⟨0, 0, 0, 0⟩).kind) ∧ w.cell? ⟨(ad.add (k * 4)).block, (ad.add (k * 4)).off + 2, none⟩ = some (.int .i64 (refT.getD k ⟨0, 0, 0, 0⟩).digits) ∧ w.cell? ⟨(ad.add (k * 4)).block, (ad.add (k * 4)).off + 3, none⟩ = some (.int .i64 (refT.getD k ⟨0, 0, 0, 0⟩).most)
theorem TableAt.new (w : World) (t : TypeId) : TableAt (w.alloc (.cells refC t)) ⟨w.heap.size, 0, none⟩ := by
  intro k hk
  obtain ⟨h0, h1, h2, h3⟩ := refC_at k hk
  have e : (⟨w.heap.size, 0, none⟩ : Addr).add (k * 4) = ⟨w.heap.size, k * 4, none⟩ := by simp [add_plain]
  rw [e]
  refine ⟨?_, ?_, ?_, ?_⟩
  · rw [World.cell?_alloc_new]; exact h0
  · rw [World.cell?_alloc_new]; exact h1
  · rw [World.cell?_alloc_new]; exact h2
  · rw [World.cell?_alloc_new]; exact h3
theorem TableAt.below {w w' : World} {ad : Addr} (h : TableAt w ad) (hb : Below w.heap.size w w') : TableAt w' ad := by
  intro k hk
  obtain ⟨h0, h1, h2, h3⟩ := h k hk
  exact ⟨(hb.cell (World.block_lt_of_cell? _ _ h0)).trans h0, (hb.cell (World.block_lt_of_cell? _ _ h1)).trans h1, (hb.cell (World.block_lt_of_cell? _ _ h2)).trans h2, (hb.cell (World.block_lt_of_cell? _ _ h3)).trans h3⟩
set_option maxHeartbeats 3200000 in
set_option maxRecDepth 100000 in
theorem ref_formats (w : World) :
    Calls Tryd.prog 80 #[] w fun e w' => (∃ ad, e = .returned (.slice (some ad) 24 24) ∧ TableAt w' ad) ∧ Below w.heap.size w w' := by
  have HB := Lib.hid (Below.refl w.heap.size w)
  go_enter Tryd.func80, Tryd.ntmps80
  go_wp2_with (go_at_call 96; refine (ref_form _ _ _ _ _).mono ?_; rintro e w' ⟨rfl, hb⟩; replace HB := Lib.hid (below_step HB.out hb); clear hb)
  go_ret
  exact ⟨⟨_, rfl, TableAt.new _ _⟩, below_alloc HB.out _⟩
set_option maxHeartbeats 3200000 in
set_option maxRecDepth 100000 in
theorem ref_Format (no : Int) (w : World) :
    Calls Tryd.prog 59 #[.int .i64 no] w fun e w' => e = .returned (.tuple #[.agg #[.int .i64 (fmtOf no).no, .int .i64 (fmtOf no).kind, .int .i64 (fmtOf no).digits, .int .i64 (fmtOf no).most], .bool (isEl no)]) ∧ Below w.heap.size w w' := by
  have H0 := Lib.hid (below_alloc (Below.refl w.heap.size w) (.cells #[.int .i64 0, .int .i64 0, .int .i64 0, .int .i64 0] 32))
  go_enter Tryd.func59, Tryd.ntmps59
  go_wp2_with fail
  refine (ref_formats _).mono ?_
  rintro e w1 ⟨⟨ad, rfl, ht⟩, hb1⟩
  obtain ⟨hc1, hf1⟩ := bcell hb1
  have q0 : w1.cell? ⟨w.heap.size, 0, none⟩ = some (.int .i64 0) := by rw [hc1 _ _ (by simp), World.cell?_alloc_new]; rfl
  have z0 : w1.frozen? ⟨w.heap.size, 0, none⟩ = false := by rw [hf1 _ _ (by simp), World.frozen?_alloc_new]
  have q1 : w1.cell? ⟨w.heap.size, 1, none⟩ = some (.int .i64 0) := by rw [hc1 _ _ (by simp), World.cell?_alloc_new]; rfl
  have z1 : w1.frozen? ⟨w.heap.size, 1, none⟩ = false := by rw [hf1 _ _ (by simp), World.frozen?_alloc_new]
  have q2 : w1.cell? ⟨w.heap.size, 2, none⟩ = some (.int .i64 0) := by rw [hc1 _ _ (by simp), World.cell?_alloc_new]; rfl
  have z2 : w1.frozen? ⟨w.heap.size, 2, none⟩ = false := by rw [hf1 _ _ (by simp), World.frozen?_alloc_new]
  have q3 : w1.cell? ⟨w.heap.size, 3, none⟩ = some (.int .i64 0) := by rw [hc1 _ _ (by simp), World.cell?_alloc_new]; rfl
  have z3 : w1.frozen? ⟨w.heap.size, 3, none⟩ = false := by rw [hf1 _ _ (by simp), World.frozen?_alloc_new]
  have HT := Lib.hid ht
  have HB1 := Lib.hid (below_step H0.out hb1)
  have hz1 : w.heap.size < w1.heap.size := Nat.lt_of_lt_of_le (by simp) hb1.size
  clear ht hc1 hf1 hb1 H0
  dsimp only
  go_wp2_with fail
  go_loop [5] (fun v5 => ∃ k : Nat, k ≤ 24 ∧ v5 = .int .i64 k ∧ Hid (∀ j < k, ¬ (refT.getD j ⟨0, 0, 0, 0⟩).no = no)) (fun v5 => 24 - (intOf v5).toNat)
  case atStart => exact ⟨0, Nat.zero_le _, rfl, Lib.hid fun j h => absurd h (by omega)⟩
  case round =>
    obtain ⟨k, hk, rfl, hall⟩ := hrel
    by_cases hlt : k < 24
    · obtain ⟨x0, x1, x2, x3⟩ := HT.out k hlt
      have HF := Lib.hid (refT_at k hlt)
      generalize hg : refT.getD k ⟨0, 0, 0, 0⟩ = F at x0 x1 x2 x3 HF
      have HG := Lib.hid hg
      clear hg
      obtain ⟨f0, f1, f2, f3⟩ := F
      dsimp only at x0 x1 x2 x3
      by_cases he : f0 = no
      · subst he
        have b1 : (f0 == f0) = true := by simp
        go_wp2_with fail
        obtain ⟨g0, g1, g2, g3, g4⟩ := HF.out
        refine bodyPost_ret (v := .tuple #[.agg #[.int .i64 f0, .int .i64 f1, .int .i64 f2, .int .i64 f3], .bool true]) (by simp [results, Tryd.results59, go_sem, q0, q1, q2, q3]) rfl ⟨by rw [g0, g1, g2, g3, g4], ?_⟩
        exact ((((HB1.out).setCell (Nat.le_refl _) _).setCell (Nat.le_refl _) _).setCell (Nat.le_refl _) _).setCell (Nat.le_refl _) _
      · have b1 : (f0 == no) = false := by simpa using he
        have HN : Hid (∀ j < k + 1, ¬ (refT.getD j ⟨0, 0, 0, 0⟩).no = no) := Lib.hid fun j hj => by
          by_cases e : j = k
          · subst e
            rw [HG.out]
            exact he
          · exact hall.out j (by omega)
        clear he HG HF
        go_wp2_with fail
        go_round
        case rel => exact ⟨k + 1, by omega, by go_num, HN⟩
        case measure => simp [intOf]; omega
    · obtain rfl : k = 24 := by omega
      obtain ⟨h1, h2⟩ := refT_none hall.out
      go_wp2_with fail
      refine bodyPost_ret (v := .tuple #[.agg #[.int .i64 0, .int .i64 0, .int .i64 0, .int .i64 0], .bool false]) (by simp [results, Tryd.results59, go_sem, q0, q1, q2, q3]) rfl ⟨rfl, ?_⟩
      exact ((((HB1.out).setCell (Nat.le_refl _) _).setCell (Nat.le_refl _) _).setCell (Nat.le_refl _) _).setCell (Nat.le_refl _) _
end Go.Proofs.YtonhmaklnkidhaaDoor.G

namespace Go.Proofs.YtonhmaklnkidhaaDoor.G
open Go.RowKit Go.Proofs.YtonhmaklnkidhaaDoorW.PrintWords

/-! ### the document's elements -/
def typedB (k : Int) (s : ByteArray) : Bool := if k = 1 then allB digit s else if k = 2 then allB alnB s else if k = 3 then allB ansB s else true
theorem typed_kind {k m : Int} {s : ByteArray} (h1 : 1 ≤ s.size) (h2 : (s.size : Int) ≤ m) : kindB k m s = typedB k s := by
  have e1 : decide ((s.size : Int) ≤ m) = true := decide_eq_true h2
  have e2 : decide (1 ≤ s.size) = true := decide_eq_true h1
  unfold kindB typedB
  rw [e1, e2]
  simp only [Bool.true_and]
theorem right_all (s : ByteArray) : rightB s 0 s.size = allB digit s := by
  unfold rightB
  rw [decide_eq_true (by omega : (0 : Int) ≤ s.size), decide_eq_true (Int.le_refl _), Bool.true_and, Bool.true_and]
theorem aln_all (s : ByteArray) : alnR s 0 s.size = allB alnB s := by
  unfold alnR
  rw [decide_eq_true (by omega : (0 : Int) ≤ s.size), decide_eq_true (Int.le_refl _), Bool.true_and, Bool.true_and]
theorem ans_all (s : ByteArray) (h : 1 ≤ s.size) : ansR s s.size = allB ansB s := by
  unfold ansR
  rw [decide_eq_true (by omega : (1 : Int) ≤ s.size), decide_eq_true (Int.le_refl _), Bool.true_and, Bool.true_and]
set_option maxHeartbeats 1600000 in
set_option maxRecDepth 100000 in
theorem ref_typed (a b d m : Int) (A : Option Addr) (c : Nat) (l : List Int) (w : World) (hr : RB w A l) (hl : l.length ≤ 9223372036854775807) :
    Calls Tryd.prog 61 #[.agg #[.int .i64 a, .int .i64 b, .int .i64 d, .int .i64 m], .slice A l.length c] w fun e w' => e = .returned (.bool (typedB b (strOfNums l))) ∧ Below w.heap.size w w' := by
  have H0 := Lib.hid (below_alloc (Below.refl w.heap.size w) (.cells #[.int .i64 a, .int .i64 b, .int .i64 d, .int .i64 m] 32))
  have hs1 := RB.string (Kd.C_alloc hr (.cells #[.int .i64 a, .int .i64 b, .int .i64 d, .int .i64 m] 32)) c
  have hsz : (strOfNums l).size = l.length := str_size l
  generalize strOfNums l = s at hs1 hsz
  have hsm : s.size ≤ 9223372036854775807 := by omega
  clear hr hl hsz
  by_cases k1 : b = 1
  · subst k1
    have HE := Lib.hid (right_all s)
    go_enter Tryd.func61, Tryd.ntmps61
    go_wp2_with (go_at_call 37; refine (ref_Right s _ _ hsm _).mono ?_; rintro e w' ⟨rfl, rfl⟩; rw [HE.out])
    go_ret
    exact ⟨rfl, H0.out⟩
  by_cases k2 : b = 2
  · subst k2
    have HE := Lib.hid (aln_all s)
    clear k1
    go_enter Tryd.func61, Tryd.ntmps61
    go_wp2_with (go_at_call 81; refine (ref_Aln s _ _ hsm _).mono ?_; rintro e w' ⟨rfl, rfl⟩; rw [HE.out])
    go_ret
    exact ⟨rfl, H0.out⟩
  by_cases k3 : b = 3
  · subst k3
    clear k1 k2
    by_cases h0 : s = ⟨#[]⟩
    · subst h0
      go_enter Tryd.func61, Tryd.ntmps61
      go_wp2_with fail
      go_ret
      exact ⟨rfl, H0.out⟩
    have h1 : 1 ≤ s.size := by
      rcases Nat.eq_zero_or_pos s.size with h | h
      · exact absurd (by
          obtain ⟨d⟩ := s
          have : d.size = 0 := h
          rw [Array.eq_empty_of_size_eq_zero this]) h0
      · exact h
    have HE := Lib.hid (ans_all s h1)
    have b1 : ¬ s.toList = [] := fun e => by
      have h2 := congrArg List.length e
      rw [Lib.toList_data] at h2
      have h3 : s.data.toList.length = s.size := by simp
      rw [h3] at h2
      have h4 : s.size = 0 := h2
      omega
    have b2 : s.toList.isEmpty = false := by
      cases h : s.toList with
      | nil => exact absurd h b1
      | cons x y => rfl
    go_enter Tryd.func61, Tryd.ntmps61
    go_wp2_with (go_at_call 82; refine (ref_Ans s _ hsm _).mono ?_; rintro e w' ⟨rfl, rfl⟩; rw [HE.out])
    go_ret
    exact ⟨rfl, H0.out⟩
  have b1 : (b == 1) = false := by simpa using k1
  have b2 : (b == 2) = false := by simpa using k2
  have b3 : (b == 3) = false := by simpa using k3
  have HE : Hid (typedB b s = true) := Lib.hid (by unfold typedB; rw [if_neg k1, if_neg k2, if_neg k3])
  clear k1 k2 k3
  go_enter Tryd.func61, Tryd.ntmps61
  go_wp2_with fail
  go_ret
  exact ⟨by rw [HE.out]; rfl, H0.out⟩
end Go.Proofs.YtonhmaklnkidhaaDoor.G

namespace Go.Proofs.YtonhmaklnkidhaaDoor.G
open Go.RowKit Go.Proofs.YtonhmaklnkidhaaDoorW.PrintWords

theorem table_most : ∀ f ∈ table, 1 ≤ f.most := by
  intro f hf
  have h : table.all (fun f => decide (1 ≤ f.most)) = true := by decide +kernel
  exact of_decide_eq_true (List.all_eq_true.1 h f hf)
theorem fmt_most {no : Int} (h : isEl no = true) : 1 ≤ (fmtOf no).most := by
  unfold isEl at h
  unfold fmtOf
  cases hf : table.find? fun f => f.no == no with
  | none =>
    obtain ⟨f, hm, he⟩ := List.any_eq_true.1 h
    exact absurd he (List.find?_eq_none.1 hf f hm)
  | some f =>
    exact table_most f (List.mem_of_find?_eq_some hf)
theorem long_cases {f0 f1 D M n : Int} (hD : 0 ≤ D) (hM : 1 ≤ M) (h : longB ⟨f0, f1, D, M⟩ n = true) : ((D == 0) = true ∧ (n != M) = false ∧ decide (n < 1) = false ∧ decide (M < n) = false) ∨ ((D == 0) = false ∧ decide (n < 1) = false ∧ decide (M < n) = false) := by
  unfold longB at h
  simp only [Bool.or_eq_true, Bool.and_eq_true, decide_eq_true_eq] at h
  simp only [beq_iff_eq, bne_eq_false_iff_eq, beq_eq_false_iff_ne, decide_eq_false_iff_not]
  omega
theorem short_cases {f0 f1 D M n : Int} (hD : 0 ≤ D) (hM : 1 ≤ M) (h : longB ⟨f0, f1, D, M⟩ n = false) : ((D == 0) = true ∧ (n != M) = true) ∨ ((D == 0) = false ∧ decide (n < 1) = true) ∨ ((D == 0) = false ∧ decide (n < 1) = false ∧ decide (M < n) = true) := by
  unfold longB at h
  simp only [Bool.or_eq_false_iff, Bool.and_eq_false_iff, decide_eq_false_iff_not] at h
  simp only [beq_iff_eq, bne_iff_ne, beq_eq_false_iff_ne, decide_eq_false_iff_not, decide_eq_true_eq]
  omega
set_option maxHeartbeats 3200000 in
set_option maxRecDepth 100000 in
theorem ref_Check (no : Int) (A : Option Addr) (c : Nat) (l : List Int) (w : World) (hr : RB w A l) (hl : l.length ≤ 9223372036854775807) :
    Calls Tryd.prog 64 #[.agg #[.int .i64 no, .slice A l.length c]] w fun e w' => e = .returned (.int .i64 (checkOf no l)) ∧ Below w.heap.size w w' := by
  obtain ⟨X, hX⟩ : ∃ X, X = checkOf no l := ⟨_, rfl⟩
  rw [← hX]
  have H0 := Lib.hid (below_alloc (Below.refl w.heap.size w) (.cells #[.int .i64 no, .slice A l.length c] 26))
  have HR := Lib.hid hr
  have HX := Lib.hid hX
  clear hr hX
  go_enter Tryd.func64, Tryd.ntmps64
  go_wp2_with fail
  refine (ref_Format no _).mono ?_
  rintro e w1 ⟨rfl, hb1⟩
  obtain ⟨hc1, hf1⟩ := bcell hb1
  have q0 : w1.cell? ⟨w.heap.size, 0, none⟩ = some (.int .i64 no) := by rw [hc1 _ _ (by simp), World.cell?_alloc_new]; rfl
  have q1 : w1.cell? ⟨w.heap.size, 1, none⟩ = some (.slice A l.length c) := by rw [hc1 _ _ (by simp), World.cell?_alloc_new]; rfl
  have HB1 := Lib.hid (below_step H0.out hb1)
  have hz1 : w.heap.size < w1.heap.size := Nat.lt_of_lt_of_le (by simp) hb1.size
  have hfm := @fmt_most no
  have hfb := fmt_bounds no
  have hX := HX.out
  unfold checkOf at hX
  clear hc1 hf1 hb1 H0 HX
  dsimp only
  cases hel : isEl no
  · rw [hel, if_pos rfl] at hX
    clear hfm hfb hel
    go_wp2_with fail
    go_ret
    exact ⟨by rw [hX]; rfl, below_alloc HB1.out _⟩
  have hM := hfm hel
  rw [hel, if_neg (by decide)] at hX
  generalize fmtOf no = F at hX hM hfb ⊢
  obtain ⟨f0, f1, D, M⟩ := F
  simp only at hX hM hfb ⊢
  obtain ⟨hD, hD4, _, hM9⟩ := hfb
  cases hlo : longB ⟨f0, f1, D, M⟩ (l.length : Int)
  · rw [hlo, if_pos rfl] at hX
    have hs := short_cases hD hM hlo
    have HX := Lib.hid hX
    clear hX hlo hfm
    rcases hs with ⟨b1, b2⟩ | ⟨b1, b2⟩ | ⟨b1, b2, b3⟩
    all_goals
      go_wp2_with fail
      go_ret
      exact ⟨by rw [HX.out]; rfl, below_alloc HB1.out _⟩
  rw [hlo, if_neg (by decide)] at hX
  have hs := long_cases hD hM hlo
  have hk : kindB f1 M (strOfNums l) = typedB f1 (strOfNums l) := by
    have h1 := str_size l
    simp only [beq_iff_eq, bne_eq_false_iff_eq, beq_eq_false_iff_ne, decide_eq_false_iff_not] at hs
    exact typed_kind (by omega) (by omega)
  rw [hk] at hX
  have HT := Lib.hid (ref_typed f0 f1 D M A c l (w1.alloc (.cells #[.int .i64 f0, .int .i64 f1, .int .i64 D, .int .i64 M] 32)) (RB.below HR.out (below_alloc HB1.out _)) hl)
  generalize typedB f1 (strOfNums l) = t at hX HT
  have HX := Lib.hid hX
  clear hX hlo hk hfm
  rcases hs with ⟨b1, b2, b3, b4⟩ | ⟨b1, b3, b4⟩
  all_goals
    go_wp2_with fail
    refine HT.out.mono ?_
    rintro e w2 ⟨rfl, hb2⟩
    have HB2 := Lib.hid (below_step (below_alloc HB1.out _) hb2)
    clear hb2 HT
    dsimp only
    cases t
    all_goals
      go_wp2_with fail
      go_ret
      exact ⟨by rw [HX.out]; rfl, HB2.out⟩
end Go.Proofs.YtonhmaklnkidhaaDoor.G

namespace Go.Proofs.YtonhmaklnkidhaaDoor.G
open Go.RowKit Go.Proofs.YtonhmaklnkidhaaDoorW.PrintWords

set_option maxHeartbeats 6400000 in
set_option maxRecDepth 100000 in
theorem ref_Read (no : Int) (A : Option Addr) (c : Nat) (l : List Int) (w : World) (hr : RB w A l) (hc : l.length ≤ c) (hl : l.length ≤ 9223372036854775807) :
    Calls Tryd.prog 39 #[.int .i64 no, .slice A l.length c] w (ReadPost w (readOf no l)) := by
  obtain ⟨X, hX⟩ : ∃ X, X = readOf no l := ⟨_, rfl⟩
  rw [← hX]
  have HR := Lib.hid hr
  have HX := Lib.hid hX
  clear hr hX
  go_enter Tryd.func39, Tryd.ntmps39
  go_wp2_with fail
  refine (ref_Format no _).mono ?_
  rintro e w1 ⟨rfl, hb1⟩
  have HB1 := Lib.hid hb1
  have hfm := @fmt_most no
  have hfb := fmt_bounds no
  have hX := HX.out
  unfold readOf at hX
  clear hb1 HX
  dsimp only
  cases hel : isEl no
  · rw [hel, if_pos rfl] at hX
    have HX := Lib.hid hX
    clear hfm hfb hel hX
    go_wp2_with fail
    go_ret3
    rw [HX.out]
    exact ReadPost.none_ (below_alloc HB1.out _)
  have hM := hfm hel
  rw [hel, if_neg (by decide)] at hX
  generalize fmtOf no = F at hX hM hfb ⊢
  obtain ⟨f0, f1, D, M⟩ := F
  simp only at hX hM hfb ⊢
  obtain ⟨hD, hD4, _, hM9⟩ := hfb
  clear hfm
  have HBn := Lib.hid (below_alloc HB1.out (.cells #[.int .i64 f0, .int .i64 f1, .int .i64 D, .int .i64 M] 32))
  by_cases hD0 : D = 0
  · subst hD0
    have hs : sizeOf ⟨f0, f1, 0, M⟩ l = (M, 0) := by rw [sizeOf, if_pos rfl]
    rw [hs] at hX
    simp only at hX
    rw [if_neg (by decide)] at hX
    obtain ⟨n, hn⟩ : ∃ n, n = M := ⟨_, rfl⟩
    rw [← hn] at hX
    have hn1 : 1 ≤ n := by omega
    have hn2 : n ≤ M := by omega
    clear hs
    subst hn
    have e7 : IntKind.i64.wrap n = n := by rw [IntKind.wrap_i64]; omega
    rw [Int.zero_add] at hX
    by_cases hlt : (l.length : Int) < n
    · have b5 : decide ((l.length : Int) < n) = true := decide_eq_true hlt
      have HXe : Hid (X = ([], 0, 3)) := Lib.hid (by rw [hX, if_pos hlt])
      clear hX hlt
      go_wp2_with fail
      go_ret3
      rw [HXe.out]
      exact ReadPost.none_ HBn.out
    rw [if_neg hlt] at hX
    have b5 : decide ((l.length : Int) < n) = false := decide_eq_false hlt
    obtain ⟨A', hm1, hm2, hm3⟩ := cut_mid A c l 0 n (by omega) (by omega) (by omega) hc
    have hml : ((l.take n.toNat).drop (0 : Int).toNat).length = n.toNat := by rw [List.length_drop, List.length_take]; omega
    have hk : kindB f1 n (strOfNums ((l.take n.toNat).drop (0 : Int).toNat)) = typedB f1 (strOfNums ((l.take n.toNat).drop (0 : Int).toNat)) := by
      have h1 := str_size ((l.take n.toNat).drop (0 : Int).toNat)
      exact typed_kind (by omega) (by omega)
    have hX2 : X = if typedB f1 (strOfNums ((l.take n.toNat).drop (0 : Int).toNat)) = true then ((l.take n.toNat).drop (0 : Int).toNat, n, 0) else ([], 0, 14) := by
      rw [hX]
      unfold rightOf
      simp only
      rw [hk]
      generalize (l.take n.toNat).drop (0 : Int).toNat = m
      cases typedB f1 (strOfNums m) <;> simp
    clear hX hk
    generalize (l.take n.toNat).drop (0 : Int).toNat = m at hm1 hm2 hm3 hml hX2
    have hml9 : m.length ≤ 9223372036854775807 := by omega
    have HT : Hid (∀ W, RB W A' m → Calls Tryd.prog 61 #[.agg #[.int .i64 f0, .int .i64 f1, .int .i64 0, .int .i64 n], .slice A' m.length (c - (0 : Int).toNat)] W fun e w' => e = .returned (.bool (typedB f1 (strOfNums m))) ∧ Below W.heap.size W w') := Lib.hid (fun W hW => ref_typed f0 f1 0 n A' (c - (0 : Int).toNat) m W hW hml9)
    generalize typedB f1 (strOfNums m) = t at hX2 HT
    have HM := Lib.hid hm2
    have HX := Lib.hid hX2
    have hml2 : m.length ≤ 999 := by omega
    clear hml9 hX2 hm2 hlt hml
    go_wp2_with fail
    refine still_tail 6 (by kernel_rfl) (by kernel_rfl) ?_
    simp only [List.take_succ_cons, List.take_zero, List.drop_succ_cons, List.drop_zero]
    still_step
    still_step
    still_step
    still_step
    still_step
    still_step
    refine wpStill_nil ?_
    go_wp2_with fail
    refine (HT.out _ (HM.out _ (RB.below HR.out (below_drew HBn.out)))).mono ?_
    rintro e w3 ⟨rfl, hb3⟩
    have HB3 := Lib.hid (below_step (below_drew HBn.out) hb3)
    have k2 : w3.cell? ⟨w1.heap.size, 2, none⟩ = some (.int .i64 0) := (hb3.cell (p := ⟨w1.heap.size, 2, none⟩) (by simp)).trans (World.cell?_alloc_new _ _ _ _)
    clear hb3 HT
    dsimp only
    cases t
    · go_wp2_with fail
      go_ret3
      rw [HX.out]
      exact ReadPost.none_ HB3.out
    go_wp2_with (at_builtin; refine Kd.R_append_row (Value.int .u8) 0 (h1 := fun _ => rfl) (w0 := w) w.heap.size rfl (.const (.slice none 0 0)) (.tmp 73) 22 5 (.int .u8 0) 1 rfl Tryd.underlying22 info_u8 rfl (by decide) (.slice none 0 0) [] m A' m.length _ (fun _ => True) rfl rfl (fun _ _ => trivial) (Kd.R_nil _ _ _ _ _) (HM.out _ (RB.below HR.out HB3.out)) HB3.out HB3.out.size (by simp; omega) ?_; intro v1 w5 ho hb hg hat; have HOw := Lib.hid ho; have HB5 := Lib.hid hb; clear ho hb hg hat)
    go_ret3
    rw [HX.out]
    exact ⟨v1, rfl, HOw.out, HB5.out⟩
  have b1 : decide (0 < D) = true := decide_eq_true (by omega)
  by_cases h3 : (l.length : Int) < D
  · have hs : sizeOf ⟨f0, f1, D, M⟩ l = (0, 3) := by rw [sizeOf, if_neg hD0, if_pos h3]
    have b2 : decide ((l.length : Int) < D) = true := decide_eq_true h3
    have HXe : Hid (X = ([], 0, 3)) := Lib.hid (by rw [hX, hs, if_pos (by decide)])
    clear hX hs h3 hD0
    go_wp2_with fail
    go_ret3
    rw [HXe.out]
    exact ReadPost.none_ HBn.out
  have b2 : decide ((l.length : Int) < D) = false := decide_eq_false h3
  obtain ⟨hs1, hs2, hs3⟩ := cut_take A c l D hD (by omega) hc
  have hst := RB.string (hs2 _ (RB.below HR.out HBn.out)) c
  have hsz : (strOfNums (l.take D.toNat)).size ≤ 9223372036854775807 := by rw [str_size, List.length_take]; omega
  have HN := Lib.hid (ref_Number (strOfNums (l.take D.toNat)) hsz)
  have hnb := numberOf_bound (strOfNums (l.take D.toNat))
  have hso : sizeOf ⟨f0, f1, D, M⟩ l = if (numberOf (strOfNums (l.take D.toNat))).2 ≠ 0 then (0, (numberOf (strOfNums (l.take D.toNat))).2) else if longB ⟨f0, f1, D, M⟩ (numberOf (strOfNums (l.take D.toNat))).1 = false then (0, 17) else ((numberOf (strOfNums (l.take D.toNat))).1, 0) := by
    rw [sizeOf, if_neg hD0, if_neg h3]
  rw [hso] at hX
  generalize hS : strOfNums (l.take D.toNat) = S at hst HN hnb hX
  generalize numberOf S = nv at HN hnb hX
  obtain ⟨n, er⟩ := nv
  simp only at hnb hX
  obtain ⟨hn0, hn9⟩ := hnb
  generalize l.take D.toNat = lD at hs1 hst
  have HNn : Hid (∀ W, Calls Tryd.prog 60 #[.string S] W fun e w' => e = .returned (.tuple #[.int .u64 n, .int .i64 er]) ∧ W = w') := HN
  have HX0 := Lib.hid hX
  clear hso hs2 hs3 hsz hS HN hX
  go_wp2_with fail
  refine (HNn.out _).mono ?_
  rintro e w2 ⟨rfl, rfl⟩
  have hX := HX0.out
  clear HNn hst hs1 HX0
  dsimp only
  by_cases he : er ≠ 0
  · have b3 : (er != 0) = true := bne_iff_ne.2 he
    have hq : (if er ≠ 0 then ((0 : Int), er) else if longB ⟨f0, f1, D, M⟩ n = false then ((0 : Int), (17 : Int)) else (n, 0)) = (0, er) := if_pos he
    rw [hq] at hX
    have HXe : Hid (X = ([], 0, er)) := Lib.hid (by rw [hX, if_pos he])
    clear hq
    clear hX he h3
    go_wp2_with fail
    go_ret3
    rw [HXe.out]
    exact ReadPost.none_ HBn.out
  have he0 : er = 0 := by simpa using he
  have b6 : (er != 0) = false := bne_eq_false_iff_eq.2 he0
  have e8 : IntKind.u64.wrap M = M := by rw [IntKind.wrap_u64]; omega
  have e9 : IntKind.i64.wrap n = n := by rw [IntKind.wrap_i64]; omega
  cases hlo : longB ⟨f0, f1, D, M⟩ n
  · have hsc := short_cases hD hM hlo
    have hq : (if er ≠ 0 then ((0 : Int), er) else if longB ⟨f0, f1, D, M⟩ n = false then ((0 : Int), (17 : Int)) else (n, 0)) = (0, 17) := by rw [if_neg he, hlo, if_pos rfl]
    rw [hq] at hX
    have HXe : Hid (X = ([], 0, 17)) := Lib.hid (by rw [hX, if_pos (by decide)])
    clear hq
    have hb : decide (n < 1) = true ∨ (decide (n < 1) = false ∧ decide (M < n) = true) := by
      rcases hsc with ⟨d1, _⟩ | ⟨_, d2⟩ | ⟨_, d2, d3⟩
      · exact absurd (beq_iff_eq.1 d1) hD0
      · exact Or.inl d2
      · exact Or.inr ⟨d2, d3⟩
    clear hX hlo hsc h3 he hD0 he0
    rcases hb with b4 | ⟨b4, b5⟩
    all_goals
      go_wp2_with fail
      go_ret3
      rw [HXe.out]
      exact ReadPost.none_ HBn.out
  have hb : decide (n < 1) = false ∧ decide (M < n) = false := by
    rcases long_cases hD hM hlo with ⟨_, _, d1, d2⟩ | ⟨_, d1, d2⟩
    · exact ⟨d1, d2⟩
    · exact ⟨d1, d2⟩
  obtain ⟨b3, b4⟩ := hb
  have hn1 : 1 ≤ n := by simp only [decide_eq_false_iff_not] at b3; omega
  have hn2 : n ≤ M := by simp only [decide_eq_false_iff_not] at b4; omega
  have hq : (if er ≠ 0 then ((0 : Int), er) else if longB ⟨f0, f1, D, M⟩ n = false then ((0 : Int), (17 : Int)) else (n, 0)) = (n, 0) := by rw [if_neg he, hlo, if_neg (by decide)]
  rw [hq] at hX
  simp only at hX
  rw [if_neg (fun h => h rfl)] at hX
  clear hq hlo h3 he he0 hD0 hn0 hn9
  have e6 : IntKind.i64.wrap (D + n) = D + n := by rw [IntKind.wrap_i64]; omega
  obtain ⟨E, hE⟩ : ∃ E : Int, E = D + n := ⟨_, rfl⟩
  rw [← hE] at hX
  have e7 : IntKind.i64.wrap (D + n) = E := by rw [e6, ← hE]
  clear e6
  by_cases hlt : (l.length : Int) < E
  · have b5 : decide ((l.length : Int) < E) = true := decide_eq_true hlt
    have HXe : Hid (X = ([], 0, 3)) := Lib.hid (by rw [hX, if_pos hlt])
    have HE := Lib.hid hE
    clear hX hlt hE
    go_wp2_with fail
    go_ret3
    rw [HXe.out]
    exact ReadPost.none_ HBn.out
  rw [if_neg hlt] at hX
  have b5 : decide ((l.length : Int) < E) = false := decide_eq_false hlt
  obtain ⟨A', hm1, hm2, hm3⟩ := cut_mid A c l D E (by omega) (by omega) (by omega) hc
  have hml : ((l.take E.toNat).drop (D : Int).toNat).length = n.toNat := by rw [List.length_drop, List.length_take]; omega
  have hk : kindB f1 M (strOfNums ((l.take E.toNat).drop (D : Int).toNat)) = typedB f1 (strOfNums ((l.take E.toNat).drop (D : Int).toNat)) := by
    have h1 := str_size ((l.take E.toNat).drop (D : Int).toNat)
    exact typed_kind (by omega) (by omega)
  have hX2 : X = if typedB f1 (strOfNums ((l.take E.toNat).drop (D : Int).toNat)) = true then ((l.take E.toNat).drop (D : Int).toNat, E, 0) else ([], 0, 14) := by
    rw [hX]
    unfold rightOf
    simp only
    rw [hk]
    generalize (l.take E.toNat).drop (D : Int).toNat = m
    cases typedB f1 (strOfNums m) <;> simp
  clear hX hk
  generalize (l.take E.toNat).drop (D : Int).toNat = m at hm1 hm2 hm3 hml hX2
  have hml9 : m.length ≤ 9223372036854775807 := by omega
  have HT : Hid (∀ W, RB W A' m → Calls Tryd.prog 61 #[.agg #[.int .i64 f0, .int .i64 f1, .int .i64 D, .int .i64 M], .slice A' m.length (c - (D : Int).toNat)] W fun e w' => e = .returned (.bool (typedB f1 (strOfNums m))) ∧ Below W.heap.size W w') := Lib.hid (fun W hW => ref_typed f0 f1 D M A' (c - (D : Int).toNat) m W hW hml9)
  generalize typedB f1 (strOfNums m) = t at hX2 HT
  have HM := Lib.hid hm2
  have HX := Lib.hid hX2
  have HE := Lib.hid hE
  have hml2 : m.length ≤ 999 := by omega
  clear hml9 hX2 hm2 hE hlt hml
  go_wp2_with fail
  refine still_tail 6 (by kernel_rfl) (by kernel_rfl) ?_
  simp only [List.take_succ_cons, List.take_zero, List.drop_succ_cons, List.drop_zero]
  still_step
  still_step
  still_step
  still_step
  still_step
  still_step
  refine wpStill_nil ?_
  go_wp2_with fail
  refine (HT.out _ (HM.out _ (RB.below HR.out (below_drew HBn.out)))).mono ?_
  rintro e w3 ⟨rfl, hb3⟩
  have HB3 := Lib.hid (below_step (below_drew HBn.out) hb3)
  have k2 : w3.cell? ⟨w1.heap.size, 2, none⟩ = some (.int .i64 D) := (hb3.cell (p := ⟨w1.heap.size, 2, none⟩) (by simp)).trans (World.cell?_alloc_new _ _ _ _)
  clear hb3 HT
  dsimp only
  cases t
  · go_wp2_with fail
    go_ret3
    rw [HX.out]
    exact ReadPost.none_ HB3.out
  go_wp2_with (at_builtin; refine Kd.R_append_row (Value.int .u8) 0 (h1 := fun _ => rfl) (w0 := w) w.heap.size rfl (.const (.slice none 0 0)) (.tmp 73) 22 5 (.int .u8 0) 1 rfl Tryd.underlying22 info_u8 rfl (by decide) (.slice none 0 0) [] m A' m.length _ (fun _ => True) rfl rfl (fun _ _ => trivial) (Kd.R_nil _ _ _ _ _) (HM.out _ (RB.below HR.out HB3.out)) HB3.out HB3.out.size (by simp; omega) ?_; intro v1 w5 ho hb hg hat; have HOw := Lib.hid ho; have HB5 := Lib.hid hb; clear ho hb hg hat)
  go_ret3
  rw [HX.out]
  exact ⟨v1, rfl, HOw.out, HB5.out⟩
end Go.Proofs.YtonhmaklnkidhaaDoor.G

namespace Go.Proofs.YtonhmaklnkidhaaDoor.G
open Go.RowKit Go.Proofs.YtonhmaklnkidhaaDoorW.PrintWords

def dec3 (u : Nat) : List UInt8 := if u < 10 then [Lib.dg u 0] else if u < 100 then [Lib.dg u 1, Lib.dg u 0] else [Lib.dg u 2, Lib.dg u 1, Lib.dg u 0]
theorem dec3_eq {u : Nat} (hu : u < 1000) : Lib.decDigits u = dec3 u := by
  unfold dec3
  by_cases h : u < 10
  · rw [if_pos h, Lib.decDigits_eq, Lib.nDigits_small h]; rfl
  by_cases h2 : u < 100
  · have : Lib.nDigits u = 2 := by rw [Lib.nDigits_big h, Lib.nDigits_small (by omega)]
    rw [if_neg h, if_pos h2, Lib.decDigits_eq, this]; rfl
  · have : Lib.nDigits u = 3 := by rw [Lib.nDigits_big h, Lib.nDigits_big (by omega), Lib.nDigits_small (by omega)]
    rw [if_neg h, if_neg h2, Lib.decDigits_eq, this]; rfl
set_option maxRecDepth 100000 in
theorem dig_dec2 : ∀ u < 100, PD.comptoirref01_Digits.f 12 ((u : Nat) : Int) ((2 : Nat) : Int) = some (⟨(List.replicate (2 - (dec3 u).length) 48 ++ dec3 u).toArray⟩, 0) := by decide +kernel
set_option maxRecDepth 100000 in
theorem dig_dec3 : ∀ u < 1000, PD.comptoirref01_Digits.f 12 ((u : Nat) : Int) ((3 : Nat) : Int) = some (⟨(List.replicate (3 - (dec3 u).length) 48 ++ dec3 u).toArray⟩, 0) := by decide +kernel
set_option maxRecDepth 100000 in
theorem dig_dec4 : ∀ u < 1000, PD.comptoirref01_Digits.f 12 ((u : Nat) : Int) ((4 : Nat) : Int) = some (⟨(List.replicate (4 - (dec3 u).length) 48 ++ dec3 u).toArray⟩, 0) := by decide +kernel
theorem dig_all (u : Nat) (hu : u < 1000) (D : Nat) (hD : D = 2 ∨ D = 3 ∨ D = 4) (h : u < 10 ^ D) : PD.comptoirref01_Digits.f 12 (u : Int) (D : Int) = some (⟨(padded u D).toArray⟩, 0) := by
  unfold padded
  rw [dec3_eq hu]
  rcases hD with rfl | rfl | rfl
  · exact dig_dec2 u (by omega)
  · exact dig_dec3 u hu
  · exact dig_dec4 u hu
theorem fmt_dig2 (no : Int) : (fmtOf no).digits ≠ 1 := by
  have h : (table.all fun f => f.digits != 1) = true := by decide +kernel
  unfold fmtOf
  cases hf : table.find? fun f => f.no == no with
  | none => exact (by decide : (0 : Int) ≠ 1)
  | some f => exact bne_iff_ne.1 (List.all_eq_true.1 h f (List.mem_of_find?_eq_some hf))
set_option maxHeartbeats 1600000 in
set_option maxRecDepth 100000 in
theorem ref_Write (no : Int) (A : Option Addr) (c : Nat) (l : List Int) (w : World) (hr : RB w A l) (hl : l.length ≤ 9223372036854775807) :
    Calls Tryd.prog 43 #[.agg #[.int .i64 no, .slice A l.length c]] w (WritePost w (writeOf no l)) := by
  obtain ⟨X, hX⟩ : ∃ X, X = writeOf no l := ⟨_, rfl⟩
  rw [← hX]
  unfold writeOf at hX
  have hC := fun W hW => ref_Check no A c l W hW hl
  have hz := @check_zero no l
  have hfb := fmt_bounds no
  have hfd := fmt_digits no
  have hfd2 := fmt_dig2 no
  have hO := fun W => ref_Format no W
  generalize checkOf no l = q at *
  by_cases hq : q = 0
  case neg =>
    have HX : Hid (X = ([], q)) := Lib.hid (by rw [hX, if_pos hq])
    have b2 : (q != 0) = true := bne_iff_ne.2 hq
    have HC := Lib.hid hC
    clear hX hq hC hz hfb hfd hO
    go_enter Tryd.func43, Tryd.ntmps43
    go_wp2_with fail
    refine (HC.out _ (RB.below hr (below_alloc (Below.refl _ _) _))).mono ?_
    rintro e w1 ⟨rfl, hb⟩
    have HB := Lib.hid (below_then (below_alloc (Below.refl w.heap.size w) _) (by simp) hb)
    clear hb
    go_wp2
    go_ret2
    rw [HX.out]
    exact WritePost.none_ HB.out
  obtain ⟨hI, hL, _⟩ := hz hq
  have hle := long_le hL
  clear hL hz
  rw [hI] at hO
  have b2 : (q != 0) = false := bne_eq_false_iff_eq.2 hq
  rw [if_neg (by simp [hq])] at hX
  generalize fmtOf no = F at *
  obtain ⟨fn, fk, fd, fm⟩ := F
  simp only at hfb hfd hfd2 hO hle hX
  obtain ⟨hd0, hd4, hm0, hm9⟩ := hfb
  obtain ⟨D, rfl⟩ := Int.eq_ofNat_of_zero_le hd0
  simp only [Int.toNat_natCast] at hfd
  have HC := Lib.hid hC
  have HO := Lib.hid hO
  have Hq := Lib.hid hq
  clear hC hO hq hI
  rcases Nat.eq_zero_or_pos D with hD | hD
  · subst hD
    have HX : Hid (X = (nums8 [] ++ l, 0)) := Lib.hid hX
    clear hX hfd
    go_enter Tryd.func43, Tryd.ntmps43
    go_wp2_with fail
    refine (HC.out _ (RB.below hr (below_alloc (Below.refl _ _) _))).mono ?_
    rintro e w1 ⟨rfl, hb⟩
    have HB := Lib.hid (below_then (below_alloc (Below.refl w.heap.size w) _) (by simp) hb)
    have hz1 : w.heap.size < w1.heap.size := Nat.lt_of_lt_of_le (by simp) hb.size
    obtain ⟨hc1, hf1⟩ := bcell hb
    clear hb
    go_wp2_with fail
    refine (HO.out _).mono ?_
    rintro e w2 ⟨rfl, hb⟩
    have HB2 := Lib.hid (below_then HB.out HB.out.size hb)
    have hz2 : w.heap.size < w2.heap.size := Nat.lt_of_lt_of_le hz1 hb.size
    obtain ⟨hc2, hf2⟩ := bcell hb
    clear hb
    have hz2' : w.heap.size < w2.heap.size + 1 := by omega
    have H3 := Lib.hid (below_alloc HB2.out (.cells #[.int .i64 fn, .int .i64 fk, .int .i64 0, .int .i64 fm] 32))
    go_wp2_with (first
      | ((with_reducible refine gate_dst (N := 33) rfl ?_); refine wpList_conv _ rfl (.tmp 32) rfl ⟨#[]⟩ rfl (by decide) ?_; intro v0 w4 hv0 hb; have hz4 : w2.heap.size < w4.heap.size := Nat.lt_of_lt_of_le (by simp) hb.size; obtain ⟨hc4, hf4⟩ := bcell hb; have H4 := Lib.hid (below_then H3.out H3.out.size hb); have Hv := Lib.hid (hv0.less H3.out.size); clear hv0 hb)
      | (at_builtin; refine wpList_bytes_append _ rfl (.tmp 33) (.tmp 35) rfl w.heap.size _ (bytesOf ⟨#[]⟩) rfl Hv.out A c l rfl (RB.below hr H4.out) (by simp only [bytesOf_length]; show 0 + l.length ≤ _; omega) H4.out.size ?_; intro v1 w5 hb5 hbel hg5 hat5; have HB5 := Lib.hid hb5; have HW5 := Lib.hid (H4.out.trans hbel); clear hb5 hbel hg5 hat5))
    go_ret2
    rw [HX.out]
    obtain rfl := Hq.out
    exact ⟨v1, rfl, HB5.out, HW5.out⟩
  · have hD24 : D = 2 ∨ D = 3 ∨ D = 4 := by omega
    have hfd : fm < 10 ^ D := by
      rcases hfd with h | h
      · omega
      · exact h
    have hll : l.length < 10 ^ D := by
      have h1 : ((l.length : Nat) : Int) < ((10 ^ D : Nat) : Int) := by
        rw [Int.natCast_pow]
        exact Int.lt_of_le_of_lt hle hfd
      omega
    have hnd : (Lib.decDigits l.length).length ≤ D := by rw [Lib.decDigits_length]; exact nDigits_le D _ hD hll
    have hX2 : X = (nums8 (padded l.length D) ++ l, 0) := by rw [hX, headOf, if_pos (by simp only; omega)]; simp
    have hdg := dig_all l.length (by omega) D hD24 hll
    obtain ⟨S, hS⟩ : ∃ S : ByteArray, S = ⟨(padded l.length D).toArray⟩ := ⟨_, rfl⟩
    have hSs : S.size ≤ 4 := by
      rw [hS]
      have := padded_length l.length D hnd
      simp only [ByteArray.size, List.size_toArray]
      omega
    have hSb : bytesOf S = nums8 (padded l.length D) := by rw [hS, bytesOf_mk]
    rw [← hS] at hdg
    have hT2 := fun W => PD.comptoirref01_Digits.calls 12 (l.length : Int) (D : Int) S 0 W hdg
    rw [← hSb] at hX2
    have HX := Lib.hid hX2
    have HT2 := Lib.hid hT2
    have hu : Hid (IntKind.u64.wrap (l.length : Int) = l.length) := Lib.hid (by rw [IntKind.wrap_u64]; omega)
    have b3 : decide ((0 : Int) < (D : Int)) = true := by simp; omega
    have hDp : 0 < D := hD
    clear hX hX2 hT2 hS hSb hfd hll hnd hD hdg hD24
    go_enter Tryd.func43, Tryd.ntmps43
    go_wp2_with fail
    refine (HC.out _ (RB.below hr (below_alloc (Below.refl _ _) _))).mono ?_
    rintro e w1 ⟨rfl, hb⟩
    have HB := Lib.hid (below_then (below_alloc (Below.refl w.heap.size w) _) (by simp) hb)
    have hz1 : w.heap.size < w1.heap.size := Nat.lt_of_lt_of_le (by simp) hb.size
    obtain ⟨hc1, hf1⟩ := bcell hb
    clear hb
    go_wp2_with fail
    refine (HO.out _).mono ?_
    rintro e w2 ⟨rfl, hb⟩
    have HB2 := Lib.hid (below_then HB.out HB.out.size hb)
    have hz2 : w.heap.size < w2.heap.size := Nat.lt_of_lt_of_le hz1 hb.size
    obtain ⟨hc2, hf2⟩ := bcell hb
    clear hb
    have hz2' : w.heap.size < w2.heap.size + 1 := by omega
    have H3 := Lib.hid (below_alloc HB2.out (.cells #[.int .i64 fn, .int .i64 fk, .int .i64 D, .int .i64 fm] 32))
    go_wp2_with fail
    refine (HT2.out _).mono ?_
    rintro e w3 ⟨rfl, hb⟩
    have hz3 : w2.heap.size < w3.heap.size := Nat.lt_of_lt_of_le (by simp) hb.size
    have hz3' : w.heap.size < w3.heap.size := by omega
    obtain ⟨hc3, hf3⟩ := bcell hb
    have H3a := Lib.hid (below_then H3.out H3.out.size hb)
    clear hb
    go_wp2_with (first
      | ((with_reducible refine gate_dst (N := 33) rfl ?_); refine wpList_conv _ rfl (.tmp 32) rfl S rfl (by omega) ?_; intro v0 w4 hv0 hb; obtain ⟨hc4, hf4⟩ := bcell hb; have H4 := Lib.hid (below_then H3a.out H3a.out.size hb); have Hv := Lib.hid (hv0.less H3a.out.size); clear hv0 hb)
      | (at_builtin; refine wpList_bytes_append _ rfl (.tmp 33) (.tmp 35) rfl w.heap.size _ (bytesOf S) rfl Hv.out A c l rfl (RB.below hr H4.out) (by rw [bytesOf_length]; omega) H4.out.size ?_; intro v1 w5 hb5 hbel hg5 hat5; have HB5 := Lib.hid hb5; have HW5 := Lib.hid (H4.out.trans hbel); clear hb5 hbel hg5 hat5))
    go_ret2
    rw [HX.out]
    obtain rfl := Hq.out
    exact ⟨v1, rfl, HB5.out, HW5.out⟩
end Go.Proofs.YtonhmaklnkidhaaDoor.G

namespace Go.Proofs.YtonhmaklnkidhaaDoor.G
open Go.RowKit Go.Proofs.YtonhmaklnkidhaaDoorW.PrintWords

set_option maxHeartbeats 1600000 in
set_option maxRecDepth 100000 in
theorem help_In (A : Option Addr) (c : Nat) (l : List Int) (x : Int) (w : World) (hr : RI w A l) :
    Calls Tryd.prog 58 #[.slice A l.length c, .int .i64 x] w fun e w' => e = .returned (.bool (decide (x ∈ l))) ∧ w = w' := by
  have hmax : l.length ≤ 9223372036854775807 := Kd.C_max hr
  have HR := Lib.hid hr
  clear hr
  go_enter Tryd.func58, Tryd.ntmps58
  go_wp2_with fail
  go_loop [5] (fun v => ∃ k : Nat, k ≤ l.length ∧ v = .int .i64 k ∧ Hid (∀ j (hj : j < l.length), j < k → ¬ l[j] = x)) (fun v => l.length - (intOf v).toNat)
  case atStart => exact ⟨0, Nat.zero_le _, rfl, Lib.hid fun j _ h => absurd h (by omega)⟩
  case round =>
    obtain ⟨k, hk, rfl, hall⟩ := hrel
    by_cases hlt : k < l.length
    · obtain ⟨ad, rfl, hcell⟩ := RI.at_ HR.out k hlt
      by_cases he : l[k] = x
      · have HE : Hid (decide (x ∈ l) = true) := Lib.hid (decide_eq_true (by rw [← he]; exact List.getElem_mem hlt))
        rw [he] at hcell
        have b1 : (x == x) = true := by simp
        clear he
        go_wp2_with fail
        go_ret
        exact ⟨by rw [HE.out]; rfl, rfl⟩
      · have HK := Lib.hid he
        generalize l[k] = y at hcell he
        have b1 : (y == x) = false := by simpa using he
        clear he
        go_wp2_with fail
        go_round
        case rel => exact ⟨k + 1, by omega, by go_num, Lib.hid fun j hj h => by
          by_cases e : j = k
          · subst e; exact HK.out
          · exact hall.out j hj (by omega)⟩
        case measure => simp [intOf]; omega
    · have HE : Hid (decide (x ∈ l) = false) := Lib.hid (decide_eq_false fun h => by
        obtain ⟨j, hj, e⟩ := List.getElem_of_mem h
        exact hall.out j hj (by omega) e)
      go_wp2_with fail
      go_ret
      exact ⟨by rw [HE.out]; rfl, rfl⟩
theorem RB.at_ {w : World} {A : Option Addr} {l : List Int} (h : RB w A l) (k : Nat) (hk : k < l.length) : ∃ ad, A = some ad ∧ w.cell? (ad.add k) = some (.int .u8 l[k]) := by
  obtain ⟨ad, hA, hcell⟩ := (Kd.reads_of_C (enc := Value.int .u8) (d := (0 : Int)) (h1 := fun _ => rfl) h).2.2 (by omega)
  refine ⟨ad, hA, ?_⟩
  rw [hcell k hk]
  simp [List.getD_eq_getElem?_getD, hk]
theorem and_bit_dec : ∀ x < 256, ∀ r < 8, (Go.bits .and .u8 ((x : Nat) : Int) (128 / 2 ^ r) != 0) = bitAt ((x : Nat) : Int) r := by decide +kernel
theorem and_bit (x : Int) (h0 : 0 ≤ x) (h1 : x ≤ 255) (r : Nat) (hr : r < 8) : (Go.bits .and .u8 x (128 / 2 ^ r) != 0) = bitAt x r := by
  obtain ⟨m, rfl⟩ := Int.eq_ofNat_of_zero_le h0
  exact and_bit_dec m (by omega) r hr
theorem which_congr {p q : Int → Bool} {a : Int} {k : Nat} (h : ∀ m, a ≤ m → m < a + k → p m = q m) : whichL p a k = whichL q a k := by
  unfold whichL
  refine List.filter_congr fun m hm => ?_
  obtain ⟨j, hj, rfl⟩ := List.mem_map.1 hm
  have := List.mem_range.1 hj
  exact h _ (by omega) (by omega)
theorem sorted_last {L : List Int} (h : L.Pairwise (· < ·)) (y : Int) (hy : y ∈ L) (hi : L.length - 1 < L.length) : y ≤ L[L.length - 1] := by
  obtain ⟨j, hj, rfl⟩ := List.getElem_of_mem hy
  rcases Nat.lt_or_ge j (L.length - 1) with hl | hl
  · exact Int.le_of_lt (List.pairwise_iff_getElem.1 h j (L.length - 1) hj hi hl)
  · have : j = L.length - 1 := by omega
    subst this
    exact Int.le_refl _
set_option maxHeartbeats 6400000 in
set_option maxRecDepth 100000 in
theorem ref_ParseMap (A : Option Addr) (c : Nat) (l : List Int) (w : World) (hr : RB w A l) (hby : Byt l) :
    Calls Tryd.prog 38 #[.slice A l.length c] w (MapPost w (mapOf l)) := by
  have hmax : l.length ≤ 9223372036854775807 := Kd.C_max hr
  obtain ⟨X, hX⟩ : ∃ X, X = mapOf l := ⟨_, rfl⟩
  rw [← hX]
  unfold mapOf at hX
  have HR := Lib.hid hr
  have HBy := Lib.hid hby
  clear hr hby
  by_cases h8 : l.length < 8
  · rw [if_pos h8] at hX
    have HXe := Lib.hid hX
    have b1 : decide ((l.length : Int) < 8) = true := decide_eq_true (by omega)
    clear hX h8
    go_enter Tryd.func38, Tryd.ntmps38
    go_wp2_with fail
    go_ret3
    rw [HXe.out]
    exact MapPost.none_ (Below.refl _ _)
  rw [if_neg h8] at hX
  have b1 : decide ((l.length : Int) < 8) = false := decide_eq_false (by omega)
  obtain ⟨ad, hA, hcell0⟩ := RB.at_ HR.out 0 (by omega)
  have hx0 := HBy.out _ (List.getElem_mem (by omega : 0 < l.length))
  have h1 : hasN (l.take 8) 1 = bitAt (l[0]'(by omega)) 0 := by
    rw [hasN_take _ 8 1 (by decide)]
    unfold hasN
    have e : ((1 : Int) - 1).toNat / 8 = 0 := by decide
    have e2 : ((1 : Int) - 1).toNat % 8 = 0 := by decide
    rw [e, e2, List.getD_eq_getElem?_getD, List.getElem?_eq_getElem (by omega : 0 < l.length)]
    rfl
  generalize l[0]'(by omega : 0 < l.length) = x0 at hcell0 hx0 h1
  have hb0 := and_bit x0 hx0.1 hx0.2 0 (by decide)
  have e128 : (128 : Int) / 2 ^ 0 = 128 := by decide
  rw [← h1, e128] at hb0
  have hcell1 : w.cell? ad = some (.int .u8 x0) := by simpa [Addr.add] using hcell0
  clear h1 hx0
  cases hm : hasN (l.take 8) 1
  · rw [hm] at hb0 hX
    rw [if_pos rfl] at hX
    have hcg : whichL (hasN (l.take 8)) 2 63 = whichL (hasN l) 2 63 := which_congr fun m h1 h2 => hasN_take _ 8 m (by omega)
    rw [hcg] at hX
    have HXe := Lib.hid hX
    have hl8 : 8 ≤ l.length := by omega
    clear hX hcg hm h8
    subst hA
    go_enter Tryd.func38, Tryd.ntmps38
    go_wp2_with fail
    go_loopw [6, 7] (fun v6 v7 wr => ∃ j : Nat, 2 ≤ j ∧ j ≤ 64 + 1 ∧ v7 = .int .i64 (j : Int) ∧ Hid (Kd.R (Kd.int .i64) 3 wr w.heap.size (fun _ => True) v6 (whichL (hasN l) 2 (j - 2))) ∧ Hid (Below w.heap.size w wr)) (fun _ v _ => 64 + 1 - (intOf v).toNat)
    case atStart => exact ⟨2, by decide, by decide, rfl, Lib.hid (Kd.R_nil _ _ _ _ _), Lib.hid (Below.refl _ _)⟩
    case round =>
      obtain ⟨j, hj2, hjM, rfl, hR, hbel⟩ := hrel
      obtain ⟨wo, rfl⟩ : ∃ wo : World, wo = wr := ⟨_, rfl⟩
      by_cases hlt : j ≤ 64
      · have bl : decide ((j : Int) ≤ 64) = true := decide_eq_true (by omega)
        obtain ⟨q, hq⟩ : ∃ q, q = (j - 1) / 8 := ⟨_, rfl⟩
        obtain ⟨r, hr⟩ : ∃ r, r = (j - 1) % 8 := ⟨_, rfl⟩
        have hr8 : r < 8 := by rw [hr]; exact Nat.mod_lt _ (by decide)
        have hql : q < l.length := by omega
        obtain ⟨ad2, hA2, hcell⟩ := RB.at_ (RB.below HR.out hbel.out) q hql
        obtain rfl : ad = ad2 := Option.some.inj hA2
        clear hA2
        have hxb := HBy.out _ (List.getElem_mem hql)
        have hhas : hasN l (j : Int) = bitAt l[q] r := by
          unfold hasN
          have ej : ((j : Int) - 1).toNat = j - 1 := by omega
          rw [ej, ← hq, ← hr, List.getD_eq_getElem?_getD, List.getElem?_eq_getElem hql]
          rfl
        generalize l[q] = x at hcell hxb hhas
        have hbit := and_bit x hxb.1 hxb.2 r hr8
        rw [← hhas] at hbit
        have hsucc : whichL (hasN l) 2 (j + 1 - 2) = if hasN l (j : Int) then whichL (hasN l) 2 (j - 2) ++ [(j : Int)] else whichL (hasN l) 2 (j - 2) := by
          have e1 : j + 1 - 2 = (j - 2) + 1 := by omega
          have e2 : (2 : Int) + ((j - 2 : Nat) : Int) = j := by omega
          rw [e1, whichL_succ, e2]
        obtain ⟨M, hM⟩ : ∃ M : Int, M = (j : Int) - 1 := ⟨_, rfl⟩
        have e1 : IntKind.i64.wrap ((j : Int) - 1) = M := by rw [IntKind.wrap_i64]; omega
        have e2 : M.tdiv 8 = (q : Int) := by rw [Int.tdiv_eq_ediv_of_nonneg (by omega)]; omega
        have e3 : M.tmod 8 = (r : Int) := by rw [Int.tmod_eq_emod_of_nonneg (by omega)]; omega
        have e5 : IntKind.i64.wrap (q : Int) = q := by rw [IntKind.wrap_i64]; omega
        have e6 : IntKind.i64.wrap (r : Int) = r := by rw [IntKind.wrap_i64]; omega
        have e7 : IntKind.u64.wrap (r : Int) = r := by rw [IntKind.wrap_u64]; omega
        have e8 : IntKind.i64.wrap ((j : Int) + 1) = (j : Int) + 1 := by rw [IntKind.wrap_i64]; omega
        have HS := Lib.hid hsucc
        clear hM hq hr hhas hsucc hxb
        cases hp : hasN l (j : Int)
        · rw [hp] at hbit
          have HS2 : Hid (whichL (hasN l) 2 (j + 1 - 2) = whichL (hasN l) 2 (j - 2)) := Lib.hid (by rw [HS.out, hp]; rfl)
          clear HS hp
          go_wp2_with fail
          exact ⟨⟨j + 1, by omega, by omega, rfl, Lib.hid (by rw [HS2.out]; exact hR.out), hbel⟩, by simp [intOf]; omega⟩
        · rw [hp] at hbit
          have HS2 : Hid (whichL (hasN l) 2 (j + 1 - 2) = whichL (hasN l) 2 (j - 2) ++ [(j : Int)]) := Lib.hid (by rw [HS.out, hp]; rfl)
          clear HS hp
          go_wp2_with (at_builtin; refine Kd.R_append (Kd.int .i64) (w0 := w) w.heap.size rfl (.tmp 39) (.tmp 41) 43 3 (.int .i64 0) 8 rfl Tryd.underlying43 info_int rfl (by decide) (by omega) _ (whichL (hasN l) 2 (j - 2)) (j : Int) [.int .i64 (j : Int)] (fun _ => True) (fun _ => False) rfl rfl rfl (fun _ hk => hk.elim) (fun _ _ => trivial) hR.out hbel.out hbel.out.size (by have := whichL_le (hasN l) 2 (j - 2); omega) ?_; intro v5 w5 ho5 hb5 hg5 hat5; clear hg5 hat5; have HO5 := Lib.hid ho5; have HB5 := Lib.hid hb5; clear ho5 hb5)
          exact ⟨⟨j + 1, by omega, by omega, rfl, Lib.hid (by rw [HS2.out]; exact HO5.out), HB5⟩, by simp [intOf]; omega⟩
      · have bl : decide ((j : Int) ≤ 64) = false := decide_eq_false (by omega)
        obtain rfl : j = 64 + 1 := by omega
        go_wp2_with fail
        go_ret3
        rw [HXe.out]
        exact ⟨_, rfl, hR.out, hbel.out⟩
  rw [hm] at hb0 hX
  rw [if_neg (by decide)] at hX
  by_cases h16 : l.length < 16
  · rw [if_pos h16] at hX
    have HXe := Lib.hid hX
    have b2 : decide ((l.length : Int) < 16) = true := decide_eq_true (by omega)
    have hl0 : 0 < l.length := by omega
    clear hX h8 h16 hm
    subst hA
    go_enter Tryd.func38, Tryd.ntmps38
    go_wp2_with fail
    go_ret3
    rw [HXe.out]
    exact MapPost.none_ (Below.refl _ _)
  rw [if_neg h16] at hX
  have b2 : decide ((l.length : Int) < 16) = false := decide_eq_false (by omega)
  have hcg : whichL (hasN (l.take 16)) 2 127 = whichL (hasN l) 2 127 := which_congr fun m h1 h2 => hasN_take _ 16 m (by omega)
  have hcg2 : whichL (hasN (l.take 16)) 66 63 = whichL (hasN l) 66 63 := which_congr fun m h1 h2 => hasN_take _ 16 m (by omega)
  have hcg3 : hasN (l.take 16) 65 = hasN l 65 := hasN_take _ 16 65 (by decide)
  rw [hcg, hcg2, hcg3] at hX
  have HX0 := Lib.hid hX
  have hl16 : 16 ≤ l.length := by omega
  clear hX hcg hcg2 hcg3 h8 h16 hm
  subst hA
  go_enter Tryd.func38, Tryd.ntmps38
  go_wp2_with fail
  go_loopw [6, 7] (fun v6 v7 wr => ∃ j : Nat, 2 ≤ j ∧ j ≤ 128 + 1 ∧ v7 = .int .i64 (j : Int) ∧ Hid (Kd.R (Kd.int .i64) 3 wr w.heap.size (fun _ => True) v6 (whichL (hasN l) 2 (j - 2))) ∧ Hid (Below w.heap.size w wr)) (fun _ v _ => 128 + 1 - (intOf v).toNat)
  case atStart => exact ⟨2, by decide, by decide, rfl, Lib.hid (Kd.R_nil _ _ _ _ _), Lib.hid (Below.refl _ _)⟩
  case round =>
    obtain ⟨j, hj2, hjM, rfl, hR, hbel⟩ := hrel
    obtain ⟨wo, rfl⟩ : ∃ wo : World, wo = wr := ⟨_, rfl⟩
    by_cases hlt : j ≤ 128
    · have bl : decide ((j : Int) ≤ 128) = true := decide_eq_true (by omega)
      obtain ⟨q, hq⟩ : ∃ q, q = (j - 1) / 8 := ⟨_, rfl⟩
      obtain ⟨r, hr⟩ : ∃ r, r = (j - 1) % 8 := ⟨_, rfl⟩
      have hr8 : r < 8 := by rw [hr]; exact Nat.mod_lt _ (by decide)
      have hql : q < l.length := by omega
      obtain ⟨ad2, hA2, hcell⟩ := RB.at_ (RB.below HR.out hbel.out) q hql
      obtain rfl : ad = ad2 := Option.some.inj hA2
      clear hA2
      have hxb := HBy.out _ (List.getElem_mem hql)
      have hhas : hasN l (j : Int) = bitAt l[q] r := by
        unfold hasN
        have ej : ((j : Int) - 1).toNat = j - 1 := by omega
        rw [ej, ← hq, ← hr, List.getD_eq_getElem?_getD, List.getElem?_eq_getElem hql]
        rfl
      generalize l[q] = x at hcell hxb hhas
      have hbit := and_bit x hxb.1 hxb.2 r hr8
      rw [← hhas] at hbit
      have hsucc : whichL (hasN l) 2 (j + 1 - 2) = if hasN l (j : Int) then whichL (hasN l) 2 (j - 2) ++ [(j : Int)] else whichL (hasN l) 2 (j - 2) := by
        have e1 : j + 1 - 2 = (j - 2) + 1 := by omega
        have e2 : (2 : Int) + ((j - 2 : Nat) : Int) = j := by omega
        rw [e1, whichL_succ, e2]
      obtain ⟨M, hM⟩ : ∃ M : Int, M = (j : Int) - 1 := ⟨_, rfl⟩
      have e1 : IntKind.i64.wrap ((j : Int) - 1) = M := by rw [IntKind.wrap_i64]; omega
      have e2 : M.tdiv 8 = (q : Int) := by rw [Int.tdiv_eq_ediv_of_nonneg (by omega)]; omega
      have e3 : M.tmod 8 = (r : Int) := by rw [Int.tmod_eq_emod_of_nonneg (by omega)]; omega
      have e5 : IntKind.i64.wrap (q : Int) = q := by rw [IntKind.wrap_i64]; omega
      have e6 : IntKind.i64.wrap (r : Int) = r := by rw [IntKind.wrap_i64]; omega
      have e7 : IntKind.u64.wrap (r : Int) = r := by rw [IntKind.wrap_u64]; omega
      have e8 : IntKind.i64.wrap ((j : Int) + 1) = (j : Int) + 1 := by rw [IntKind.wrap_i64]; omega
      have HS := Lib.hid hsucc
      clear hM hq hr hhas hsucc hxb
      cases hp : hasN l (j : Int)
      · rw [hp] at hbit
        have HS2 : Hid (whichL (hasN l) 2 (j + 1 - 2) = whichL (hasN l) 2 (j - 2)) := Lib.hid (by rw [HS.out, hp]; rfl)
        clear HS hp
        go_wp2_with fail
        exact ⟨⟨j + 1, by omega, by omega, rfl, Lib.hid (by rw [HS2.out]; exact hR.out), hbel⟩, by simp [intOf]; omega⟩
      · rw [hp] at hbit
        have HS2 : Hid (whichL (hasN l) 2 (j + 1 - 2) = whichL (hasN l) 2 (j - 2) ++ [(j : Int)]) := Lib.hid (by rw [HS.out, hp]; rfl)
        clear HS hp
        go_wp2_with (at_builtin; refine Kd.R_append (Kd.int .i64) (w0 := w) w.heap.size rfl (.tmp 39) (.tmp 41) 43 3 (.int .i64 0) 8 rfl Tryd.underlying43 info_int rfl (by decide) (by omega) _ (whichL (hasN l) 2 (j - 2)) (j : Int) [.int .i64 (j : Int)] (fun _ => True) (fun _ => False) rfl rfl rfl (fun _ hk => hk.elim) (fun _ _ => trivial) hR.out hbel.out hbel.out.size (by have := whichL_le (hasN l) 2 (j - 2); omega) ?_; intro v5 w5 ho5 hb5 hg5 hat5; clear hg5 hat5; have HO5 := Lib.hid ho5; have HB5 := Lib.hid hb5; clear ho5 hb5)
        exact ⟨⟨j + 1, by omega, by omega, rfl, Lib.hid (by rw [HS2.out]; exact HO5.out), HB5⟩, by simp [intOf]; omega⟩
    · have bl : decide ((j : Int) ≤ 128) = false := decide_eq_false (by omega)
      obtain rfl : j = 128 + 1 := by omega
      have hR2 : Kd.R (Kd.int .i64) 3 wo w.heap.size (fun _ => True) u6 (whichL (hasN l) 2 127) := hR.out
      have hX := HX0.out
      have hsrt := which_sorted (hasN l) 2 127
      have hmem := which_mem (hasN l) 2 127
      have hmem2 := which_mem (hasN l) 66 63
      have hle := whichL_le (hasN l) 2 127
      have hlst := fun y hy => sorted_last hsrt y hy
      obtain ⟨LL, hLL⟩ : ∃ LL, LL = whichL (hasN l) 2 127 := ⟨_, rfl⟩
      rw [← hLL] at hR2 hX hmem hle hlst
      obtain ⟨A6, c6, hv6, hc6, hC6⟩ := Kd.R_reads hR2
      subst hv6
      have h65 : hasN l 65 = decide ((65 : Int) ∈ LL) := bool_eq_iff' (by rw [decide_eq_true_eq, hmem]; exact ⟨fun h => ⟨⟨by decide, by decide⟩, h⟩, fun h => h.2⟩)
      have HI := Lib.hid (help_In A6 c6 LL 65 wo hC6)
      have HR2 := Lib.hid hR2
      have HB2 := Lib.hid hbel.out
      have hmemH := Lib.hid hmem
      clear hR hbel hsrt hR2 hc6 hLL
      cases h65' : hasN l 65
      · rw [h65'] at h65 hX
        rw [if_neg (by decide)] at hX
        rw [← h65] at HI
        clear h65
        by_cases hl0 : LL.length = 0
        · have hz : (whichL (hasN l) 66 63).length = 0 := by
            rcases hw : whichL (hasN l) 66 63 with _ | ⟨y, t⟩
            · rfl
            · have hy := (hmem2 y).1 (by rw [hw]; exact List.mem_cons_self)
              have : y ∈ LL := (hmemH.out y).2 ⟨⟨by omega, by omega⟩, hy.2⟩
              rw [List.length_eq_zero_iff.1 hl0] at this
              cases this
          rw [if_pos hz] at hX
          have HXe := Lib.hid hX
          have b0 : ((LL.length : Int) == 0) = true := by simpa using hl0
          have b00 : LL = [] := List.length_eq_zero_iff.1 hl0
          subst b00
          clear hX hz hmem hmem2 hlst hl0 h65' hmemH
          go_wp2_with fail
          refine HI.out.mono ?_
          rintro e w3 ⟨rfl, rfl⟩
          dsimp only
          go_wp2_with fail
          go_ret3
          rw [HXe.out]
          exact MapPost.none_ HB2.out
        have b0 : ((LL.length : Int) == 0) = false := by rw [beq_eq_false_iff_ne]; omega
        have hi : LL.length - 1 < LL.length := by omega
        obtain ⟨ad6, hA6, hcell⟩ := RI.at_ hC6 (LL.length - 1) hi
        subst hA6
        have hlast := hlst
        have hxm : LL[LL.length - 1] ∈ LL := List.getElem_mem hi
        have hlt2 : ∀ y ∈ LL, y ≤ LL[LL.length - 1] := fun y hy => hlst y hy hi
        have hxi := (hmemH.out _).1 hxm
        generalize LL[LL.length - 1] = x at hcell hxm hlt2 hxi
        have e9 : IntKind.i64.wrap ((LL.length : Int) - 1) = ((LL.length - 1 : Nat) : Int) := by rw [IntKind.wrap_i64]; omega
        obtain ⟨z, hz⟩ : ∃ z : Nat, z = LL.length - 1 := ⟨_, rfl⟩
        have hzl : z < LL.length := by omega
        rw [← hz] at hcell e9
        by_cases hx66 : x < 66
        · have hzr : (whichL (hasN l) 66 63).length = 0 := by
            rcases hw : whichL (hasN l) 66 63 with _ | ⟨y, t⟩
            · rfl
            · have hy := (hmem2 y).1 (by rw [hw]; exact List.mem_cons_self)
              have : y ∈ LL := (hmemH.out y).2 ⟨⟨by omega, by omega⟩, hy.2⟩
              have := hlt2 y this
              omega
          rw [if_pos hzr] at hX
          have HXe := Lib.hid hX
          have b3 : decide (x < 66) = true := decide_eq_true hx66
          have HZ := Lib.hid hz
          clear hX hzr hmem hmem2 hlst hl0 h65' hmemH hlast hxm hlt2 hxi hz hi hC6
          go_wp2_with fail
          refine HI.out.mono ?_
          rintro e w3 ⟨rfl, rfl⟩
          dsimp only
          go_wp2_with fail
          go_ret3
          rw [HXe.out]
          exact MapPost.none_ HB2.out
        · have hzr : ¬ (whichL (hasN l) 66 63).length = 0 := fun h => by
            have : x ∈ whichL (hasN l) 66 63 := (hmem2 x).2 ⟨⟨by omega, by omega⟩, hxi.2⟩
            rw [List.length_eq_zero_iff.1 h] at this
            cases this
          rw [if_neg hzr] at hX
          have HXe := Lib.hid hX
          have b3 : decide (x < 66) = false := decide_eq_false hx66
          have HZ := Lib.hid hz
          clear hX hzr hmem hmem2 hlst hl0 h65' hmemH hlast hxm hlt2 hxi hz hi hC6
          go_wp2_with fail
          refine HI.out.mono ?_
          rintro e w3 ⟨rfl, rfl⟩
          dsimp only
          go_wp2_with fail
          go_ret3
          rw [HXe.out]
          exact ⟨_, rfl, HR2.out, HB2.out⟩
      · rw [h65'] at h65 hX
        rw [if_pos rfl] at hX
        rw [← h65] at HI
        have HXe := Lib.hid hX
        clear h65 hX hmem hmem2 hlst h65' hmemH hC6
        go_wp2_with fail
        refine HI.out.mono ?_
        rintro e w3 ⟨rfl, rfl⟩
        dsimp only
        go_wp2_with fail
        go_ret3
        rw [HXe.out]
        exact MapPost.none_ HB2.out
end Go.Proofs.YtonhmaklnkidhaaDoor.G

namespace Go.Proofs.YtonhmaklnkidhaaDoor.G
open Go.RowKit Go.Proofs.YtonhmaklnkidhaaDoorW.PrintWords

theorem lastOk_last {l : List Int} {k : Nat} (hk : k < l.length) {was : Int} (h : lastOk 1 (l.take (k + 1)) = some was) : was = l[k] := by
  rw [List.take_succ_eq_append_getElem hk, lastOk_append] at h
  cases h2 : lastOk 1 (l.take k) with
  | none => rw [h2] at h; cases h
  | some x =>
    rw [h2] at h
    simp only [Option.bind_some, lastOk] at h
    split at h
    · cases h
    · exact (Option.some.inj h).symm
theorem lastOk_ge {l : List Int} {was : Int} (h : lastOk 1 l = some was) : 1 ≤ was := by
  rcases (lastOk_some h).2.2 with rfl | hm
  · exact Int.le_refl _
  · have := (lastOk_some h).2.1 was hm
    omega
theorem hasN_app (P : List Int) (j : Nat) (m : Int) (hm : 1 ≤ m) : hasN (P ++ List.replicate j 0) m = if m ≤ 8 * (P.length : Int) then hasN P m else false := by
  have h0 : ∀ s < 8, bitAt 0 s = false := by decide +kernel
  unfold hasN
  split
  · rw [List.getD_eq_getElem?_getD, List.getElem?_append_left (by omega), ← List.getD_eq_getElem?_getD]
  · have e : (P ++ List.replicate j 0).getD ((m - 1).toNat / 8) 0 = 0 := by
      rw [List.getD_eq_getElem?_getD, List.getElem?_append_right (by omega), List.getElem?_replicate]
      split <;> rfl
    rw [e]
    exact h0 _ (Nat.mod_lt _ (by decide))
theorem mapB_same {l : List Int} {k : Nat} (hk : k < l.length) {was : Int} (h : lastOk 1 (l.take k) = some was) (hn : lastOk 1 (l.take (k + 1)) = some l[k]) (hc : l[k] ≤ 64 ∨ 64 < was) (hw : was < l[k]) :
    (mapB (l.take (k + 1))).1 = setN (mapB (l.take k)).1 l[k] := by
  rw [mapB_some h, mapB_some hn, List.take_succ_eq_append_getElem hk, List.foldl_append]
  rcases hc with h1 | h1
  · rw [if_neg (by omega), if_neg (by omega)]
    rfl
  · rw [if_pos (by omega), if_pos (by omega)]
    rfl
theorem mapB_grow {l : List Int} {k : Nat} (hk : k < l.length) {was : Int} (h : lastOk 1 (l.take k) = some was) (hn : lastOk 1 (l.take (k + 1)) = some l[k]) (h1 : 64 < l[k]) (h2 : was ≤ 64) :
    (mapB (l.take (k + 1))).1 = setN (setN ((mapB (l.take k)).1 ++ List.replicate 8 0) 1) l[k] := by
  obtain ⟨_, hl, hby, hh⟩ := mapB_small h h2
  rw [mapB_some hn, List.take_succ_eq_append_getElem hk, List.foldl_append, if_pos h1]
  show setN ((l.take k).foldl setN (setN (List.replicate 16 0) 1)) l[k] = _
  congr 1
  have hls := lastOk_some h
  obtain ⟨a, b⟩ := fold_has (setN (List.replicate 16 0) 1) (setN_byt (rep_byt 16) 1) (l.take k) fun n hn => by
    have := hls.2.1 n hn
    rw [setN_len, List.length_replicate]
    omega
  have hlen : ((l.take k).foldl setN (setN (List.replicate 16 0) 1)).length = 16 := by rw [foldl_setN_len, setN_len, List.length_replicate]
  have hap : ((mapB (l.take k)).1 ++ List.replicate 8 0).length = 16 := by rw [List.length_append, hl, List.length_replicate]
  refine bytes_ext a (setN_byt (hby.app (rep_byt 8)) 1) (by rw [hlen, setN_len, hap]) fun m m1 m2 => ?_
  rw [b m m1, setN_has (rep_byt 16) 1 m (by decide) (by rw [List.length_replicate]; decide) m1, rep_has, Bool.or_false, setN_has (hby.app (rep_byt 8)) 1 m (by decide) (by rw [hap]; decide) m1, hasN_app _ 8 m m1, hl, Bool.or_comm]
  congr 1
  split
  · exact (hh m m1).symm
  · rename_i hgt
    refine decide_eq_false fun hm => ?_
    have := hls.2.1 m hm
    omega
theorem or_const : ∀ r < 8, (128 : Int) / 2 ^ r = 2 ^ (7 - r) % 256 := by decide +kernel
theorem setN_at {xs : List Int} {n : Int} {q r : Nat} (hq : (n - 1).toNat / 8 = q) (hr : (n - 1).toNat % 8 = r) (hr8 : r < 8) : setN xs n = xs.set q (Go.bits .or .u8 (xs.getD q 0) (128 / 2 ^ r)) := by
  unfold setN setAt
  rw [hq, hr, or_const r hr8]
theorem grow_facts {w5 : World} {base g cap q r : Nat} {ys R1 : List Int} (hq : 0 < q) (hql : q < ys.length) (hR1 : (ys.set 0 (Go.bits .or .u8 (rdOf 0 ys 0) 128)).set q (Go.bits .or .u8 (rdOf 0 ys (q : Int)) (128 / 2 ^ r)) = R1)
    (h : Kd.R (Kd.int .u8) 5 w5 base (fun _ => True) (.slice (some ⟨g, 0, none⟩) ys.length cap) ys) :
    ∃ y0 yq, w5.cell? ⟨g, 0, none⟩ = some (.int .u8 y0) ∧ w5.frozen? ⟨g, 0, none⟩ = false ∧ w5.cell? ⟨g, q, none⟩ = some (.int .u8 yq) ∧ w5.frozen? ⟨g, q, none⟩ = false ∧
      Kd.R (Kd.int .u8) 5 ((w5.setCell ⟨g, 0, none⟩ (.int .u8 (Go.bits .or .u8 y0 128))).setCell ⟨g, q, none⟩ (.int .u8 (Go.bits .or .u8 yq (128 / 2 ^ r)))) base (fun _ => True) (.slice (some ⟨g, 0, none⟩) ys.length cap) R1 := by
  have a := Kd.R_cell (enc := Value.int .u8) (h1 := fun _ => rfl) (g := g) (cap := cap) (xs := ys) 0 h 0 (by decide) (by omega)
  have b := Kd.R_cell (enc := Value.int .u8) (h1 := fun _ => rfl) (g := g) (cap := cap) (xs := ys) 0 h (q : Int) (by omega) (by omega)
  have p1 := (Kd.R_putn (enc := Value.int .u8) (h1 := fun _ => rfl) (g := g) (cap := cap) (n := ys.length) (xs := ys) h 0 (Go.bits .or .u8 (rdOf 0 ys 0) 128))
  have p2 := (Kd.R_putn (enc := Value.int .u8) (h1 := fun _ => rfl) (g := g) (cap := cap) (n := ys.length) (xs := ys.set (0 : Int).toNat (Go.bits .or .u8 (rdOf 0 ys 0) 128)) p1 (q : Int) (Go.bits .or .u8 (rdOf 0 ys (q : Int)) (128 / 2 ^ r)))
  simp only [Int.toNat_natCast] at b p2
  have hR1' : (ys.set (0 : Int).toNat (Go.bits .or .u8 (rdOf 0 ys 0) 128)).set q (Go.bits .or .u8 (rdOf 0 ys (q : Int)) (128 / 2 ^ r)) = R1 := hR1
  rw [hR1'] at p2
  exact ⟨rdOf 0 ys 0, rdOf 0 ys (q : Int), a.1, a.2, b.1, b.2, p2⟩
theorem grow_list {xs ys : List Int} {no : Int} {q r : Nat} (hys : xs ++ List.replicate 8 0 = ys) (hq0 : 0 < q) (hq : q = (no - 1).toNat / 8) (hr : r = (no - 1).toNat % 8) (hr8 : r < 8) :
    (ys.set 0 (Go.bits .or .u8 (rdOf 0 ys 0) 128)).set q (Go.bits .or .u8 (rdOf 0 ys (q : Int)) (128 / 2 ^ r)) = setN (setN (xs ++ List.replicate 8 0) 1) no := by
  have e128 : (128 : Int) / 2 ^ 0 = 128 := by decide
  rw [hys, setN_at hq.symm hr.symm hr8, setN_at (q := 0) (r := 0) (n := 1) (xs := ys) (by decide) (by decide) (by decide), e128]
  have hg : (ys.set 0 (Go.bits .or .u8 (ys.getD 0 0) 128)).getD q 0 = ys.getD q 0 := by
    rw [List.getD_eq_getElem?_getD, List.getElem?_set_ne (by omega), ← List.getD_eq_getElem?_getD]
  rw [hg]
  rfl
set_option maxHeartbeats 6400000 in
set_option maxRecDepth 100000 in
theorem ref_WriteMap (A : Option Addr) (c : Nat) (l : List Int) (w : World) (hr : RI w A l) :
    Calls Tryd.prog 42 #[.slice A l.length c] w (BytesPost w (mapB l)) := by
  have hmax : l.length ≤ 9223372036854775807 := Kd.C_max hr
  obtain ⟨X, hX⟩ : ∃ X, X = mapB l := ⟨_, rfl⟩
  rw [← hX]
  have HR := Lib.hid hr
  have HX := Lib.hid hX
  clear hr hX
  go_enter Tryd.func42, Tryd.ntmps42
  go_wp2_with ((with_reducible refine gate_dst (N := 7) rfl ?_); refine Kd.R_make (Kd.int .u8) (w0 := w) w.heap.size 5 rfl (N := 7) rfl 22 _ _ rfl 8 rfl rfl Tryd.underlying22 (.int .u8 0) 1 info_u8 rfl (by decide) (by omega) 0 (ok := fun _ => True) (okp := fun _ => True) rfl (fun _ hk => hk) trivial (by omega) (by decide) (Below.refl _ _) (Nat.le_refl _) ?_; intro v1 w1 hr1 hb1 hg1_ hn1_; clear hg1_ hn1_; have HR1 := Lib.hid hr1; have HB1 := Lib.hid hb1; clear hr1 hb1)
  go_loopw [4, 5, 6] (fun v4 v5 _ wr => ∃ k : Nat, k ≤ l.length ∧ v5 = .int .i64 (k : Int) ∧ (∃ was, Hid (lastOk 1 (l.take k) = some was)) ∧ Hid (Kd.R (Kd.int .u8) 5 wr w.heap.size (fun _ => True) v4 (mapB (l.take k)).1) ∧ Hid (Below w.heap.size w wr)) (fun _ v _ _ => l.length - (intOf v).toNat)
  case atStart => exact ⟨0, Nat.zero_le _, rfl, ⟨1, Lib.hid rfl⟩, HR1, HB1⟩
  case round =>
    obtain ⟨k, hk, rfl, ⟨was, hlo⟩, hR, hbel⟩ := hrel
    obtain ⟨wo, rfl⟩ : ∃ wo : World, wo = wr := ⟨_, rfl⟩
    by_cases hlt : k < l.length
    · obtain ⟨ad, rfl, hcell⟩ := RI.at_ (RI.below HR.out hbel.out) k hlt
      have hnx := lastOk_next hlt hlo.out
      have hge := lastOk_ge hlo.out
      have hprev : k = 0 ∨ ∃ z, k = z + 1 ∧ wo.cell? (ad.add z) = some (.int .i64 was) := by
        rcases Nat.eq_zero_or_pos k with h | h
        · exact Or.inl h
        · obtain ⟨z, rfl⟩ : ∃ z, k = z + 1 := ⟨k - 1, by omega⟩
          refine Or.inr ⟨z, rfl, ?_⟩
          obtain ⟨ad2, hA2, hc2⟩ := RI.at_ (RI.below HR.out hbel.out) z (by omega)
          obtain rfl : ad = ad2 := Option.some.inj hA2
          rw [hc2, lastOk_last (by omega) hlo.out]
      have hw0 : k = 0 → was = 1 := fun h => by
        subst h
        have := hlo.out
        simpa [lastOk] using this.symm
      have hsame := @mapB_same l k hlt was hlo.out
      have hgrow := @mapB_grow l k hlt was hlo.out
      have hsz : (mapB (l.take k)).1.length = if was ≤ 64 then 8 else 16 := by
        split
        · exact (mapB_small hlo.out (by assumption)).2.1
        · exact (mapB_big hlo.out (by omega)).2.1
      generalize l[k] = no at hcell hnx hsame hgrow
      by_cases hbad : no ≤ was ∨ 128 < no ∨ no = 65
      · rw [if_pos hbad] at hnx
        have hno := lastOk_bad hnx
        have HXe : Hid (X = ([], 1)) := Lib.hid (by rw [HX.out, mapB, hno])
        have hb : decide (no < 2) = true ∨ (decide (no < 2) = false ∧ decide (128 < no) = true) ∨ (decide (no < 2) = false ∧ decide (128 < no) = false ∧ (no == 65) = true) ∨ (decide (no < 2) = false ∧ decide (128 < no) = false ∧ (no == 65) = false ∧ decide (0 < k) = true ∧ decide (no ≤ was) = true) := by
          simp only [decide_eq_true_eq, decide_eq_false_iff_not, beq_iff_eq, beq_eq_false_iff_ne]
          rcases Nat.eq_zero_or_pos k with h | h
          · have := hw0 h
            omega
          · omega
        have HBo := Lib.hid hbel.out
        clear hnx hno hbad hsame hgrow hsz hw0 hlo hge hR hbel
        rcases hprev with hk0 | ⟨z, hkz, hcz⟩
        · have d0 : decide (0 < k) = false := decide_eq_false (by omega)
          clear hk0
          rcases hb with d1 | ⟨d1, d2⟩ | ⟨d1, d2, d3⟩ | ⟨d1, d2, d3, d4, d5⟩
          all_goals first
            | (go_wp2_with fail
               go_ret2
               rw [HXe.out]
               exact ⟨_, rfl, Kd.R_nil _ _ _ _ _, HBo.out⟩)
            | (rw [d0] at d4; cases d4)
        · have e1 : IntKind.i64.wrap ((k : Int) - 1) = (z : Int) := by rw [IntKind.wrap_i64]; omega
          have hzl : z < l.length := by omega
          clear hkz
          rcases hb with d1 | ⟨d1, d2⟩ | ⟨d1, d2, d3⟩ | ⟨d1, d2, d3, d4, d5⟩
          all_goals
            go_wp2_with fail
            go_ret2
            rw [HXe.out]
            exact ⟨_, rfl, Kd.R_nil _ _ _ _ _, HBo.out⟩
      rw [if_neg hbad] at hnx
      have HNx := Lib.hid hnx
      have hwn : was < no := by omega
      have hno8 : no ≤ 128 := by omega
      have d1 : decide (no < 2) = false := decide_eq_false (by omega)
      have d2 : decide (128 < no) = false := decide_eq_false (by omega)
      have d3 : (no == 65) = false := by rw [beq_eq_false_iff_ne]; omega
      have d5 : decide (no ≤ was) = false := decide_eq_false (by omega)
      obtain ⟨q, hqn⟩ : ∃ q, q = (no - 1).toNat / 8 := ⟨_, rfl⟩
      obtain ⟨r, hrn⟩ : ∃ r, r = (no - 1).toNat % 8 := ⟨_, rfl⟩
      have hr8 : r < 8 := by rw [hrn]; exact Nat.mod_lt _ (by decide)
      obtain ⟨M, hM⟩ : ∃ M : Int, M = no - 1 := ⟨_, rfl⟩
      have e1 : IntKind.i64.wrap (no - 1) = M := by rw [IntKind.wrap_i64]; omega
      have e2 : M.tdiv 8 = (q : Int) := by rw [Int.tdiv_eq_ediv_of_nonneg (by omega)]; omega
      have e3 : M.tmod 8 = (r : Int) := by rw [Int.tmod_eq_emod_of_nonneg (by omega)]; omega
      have e5 : IntKind.i64.wrap (q : Int) = q := by rw [IntKind.wrap_i64]; omega
      have e6 : IntKind.i64.wrap (r : Int) = r := by rw [IntKind.wrap_i64]; omega
      have e7 : IntKind.u64.wrap (r : Int) = r := by rw [IntKind.wrap_u64]; omega
      have e8 : IntKind.i64.wrap ((k : Int) + 1) = (k : Int) + 1 := by rw [IntKind.wrap_i64]; omega
      clear hw0 hM
      rw [← hnx] at hnx
      have hsame2 := hsame HNx.out
      have hgrow2 := hgrow HNx.out
      generalize (mapB (l.take k)).1 = xs at hR hsz hsame2 hgrow2
      clear hsame hgrow hnx hbad hge
      have hlp : 0 < xs.length := by rw [hsz]; split <;> decide
      obtain ⟨g, cap, hv, hg0, hg1, hcl⟩ := Kd.R_form hR.out hlp
      subst hv
      have hRg := hR.out
      clear hcl hlp
      by_cases h64 : no ≤ 64
      · have d6 : decide (64 < no) = false := decide_eq_false (by omega)
        have hlen : xs.length = 8 := by rw [hsz, if_pos (by omega)]
        have hmB := hsame2 (Or.inl h64) hwn
        have hp0 := Kd.R_cell (enc := Value.int .u8) (h1 := fun _ => rfl) (g := g) (cap := cap) (xs := xs) 0 hRg (q : Int) (by omega) (by omega)
        simp only [Int.toNat_natCast] at hp0
        obtain ⟨hq1, hq2⟩ := hp0
        have hput := Kd.R_put (enc := Value.int .u8) (h1 := fun _ => rfl) (g := g) (cap := cap) (xs := xs) hRg (q : Int) (Go.bits .or .u8 (rdOf 0 xs (q : Int)) (128 / 2 ^ r))
        simp only [Int.toNat_natCast] at hput
        have hnew : xs.set q (Go.bits .or .u8 (rdOf 0 xs (q : Int)) (128 / 2 ^ r)) = (mapB (l.take (k + 1))).1 := by
          rw [hmB, setN_at hqn.symm hrn.symm hr8]
          rfl
        rw [hnew] at hput
        generalize rdOf 0 xs (q : Int) = x at hq1 hput
        have HPut := Lib.hid hput.1
        have HBs := Lib.hid (below_set hbel.out hg0 (j := q) (v := .int .u8 (Go.bits .or .u8 x (128 / 2 ^ r))))
        have hq9 : q < xs.length := by omega
        have HLs := Lib.hid hlen
        clear hsame2 hgrow2 hsz hmB hnew hput hRg hqn hrn hlo hwn h64 hlen hR
        rcases hprev with hk0 | ⟨z, hkz, hcz⟩
        · have d0 : decide (0 < k) = false := decide_eq_false (by omega)
          clear hk0
          go_wp2_with fail
          exact ⟨⟨k + 1, by omega, rfl, ⟨no, Lib.hid HNx.out⟩, HPut, HBs⟩, by simp [intOf]; omega⟩
        · have e9 : IntKind.i64.wrap ((k : Int) - 1) = (z : Int) := by rw [IntKind.wrap_i64]; omega
          have hzl : z < l.length := by omega
          have d0 : decide (0 < k) = true := decide_eq_true (by omega)
          clear hkz
          go_wp2_with fail
          exact ⟨⟨k + 1, by omega, rfl, ⟨no, Lib.hid HNx.out⟩, HPut, HBs⟩, by simp [intOf]; omega⟩
      have d6 : decide (64 < no) = true := decide_eq_true (by omega)
      by_cases hw64 : 64 < was
      · have hlen : xs.length = 16 := by rw [hsz, if_neg (by omega)]
        have d7 : ((xs.length : Int) == 8) = false := by rw [beq_eq_false_iff_ne]; omega
        have hmB := hsame2 (Or.inr hw64) hwn
        have hp0 := Kd.R_cell (enc := Value.int .u8) (h1 := fun _ => rfl) (g := g) (cap := cap) (xs := xs) 0 hRg (q : Int) (by omega) (by omega)
        simp only [Int.toNat_natCast] at hp0
        obtain ⟨hq1, hq2⟩ := hp0
        have hput := Kd.R_put (enc := Value.int .u8) (h1 := fun _ => rfl) (g := g) (cap := cap) (xs := xs) hRg (q : Int) (Go.bits .or .u8 (rdOf 0 xs (q : Int)) (128 / 2 ^ r))
        simp only [Int.toNat_natCast] at hput
        have hnew : xs.set q (Go.bits .or .u8 (rdOf 0 xs (q : Int)) (128 / 2 ^ r)) = (mapB (l.take (k + 1))).1 := by
          rw [hmB, setN_at hqn.symm hrn.symm hr8]
          rfl
        rw [hnew] at hput
        generalize rdOf 0 xs (q : Int) = x at hq1 hput
        have HPut := Lib.hid hput.1
        have HBs := Lib.hid (below_set hbel.out hg0 (j := q) (v := .int .u8 (Go.bits .or .u8 x (128 / 2 ^ r))))
        have hq9 : q < xs.length := by omega
        have HLs := Lib.hid hlen
        clear hsame2 hgrow2 hsz hmB hnew hput hRg hqn hrn hlo hwn h64 hlen hR
        rcases hprev with hk0 | ⟨z, hkz, hcz⟩
        · have d0 : decide (0 < k) = false := decide_eq_false (by omega)
          clear hk0
          go_wp2_with fail
          exact ⟨⟨k + 1, by omega, rfl, ⟨no, Lib.hid HNx.out⟩, HPut, HBs⟩, by simp [intOf]; omega⟩
        · have e9 : IntKind.i64.wrap ((k : Int) - 1) = (z : Int) := by rw [IntKind.wrap_i64]; omega
          have hzl : z < l.length := by omega
          have d0 : decide (0 < k) = true := decide_eq_true (by omega)
          clear hkz
          go_wp2_with fail
          exact ⟨⟨k + 1, by omega, rfl, ⟨no, Lib.hid HNx.out⟩, HPut, HBs⟩, by simp [intOf]; omega⟩
      have hw64' : was ≤ 64 := by omega
      have hlen : xs.length = 8 := by rw [hsz, if_pos hw64']
      have d7 : ((xs.length : Int) == 8) = true := by rw [beq_iff_eq]; omega
      have hmB := hgrow2 (by omega) hw64'
      obtain ⟨ys, hys⟩ : ∃ ys, xs ++ List.replicate 8 0 = ys := ⟨_, rfl⟩
      have hyl : ys.length = 16 := by rw [← hys, List.length_append, hlen, List.length_replicate]
      have hyp : 0 < ys.length := by omega
      have hq0 : 0 < q := by omega
      have hqne : ¬ q = 0 := by omega
      have hql : q < ys.length := by omega
      have HG : Hid ((ys.set 0 (Go.bits .or .u8 (rdOf 0 ys 0) 128)).set q (Go.bits .or .u8 (rdOf 0 ys (q : Int)) (128 / 2 ^ r)) = (mapB (l.take (k + 1))).1) := Lib.hid (by rw [hmB]; exact grow_list hys hq0 hqn hrn hr8)
      have HYS := Lib.hid hys
      have HRg := Lib.hid hRg
      have hxl : xs.length ≤ 16 := by omega
      clear hsame2 hgrow2 hsz hmB hRg hqn hrn hlo hwn h64 hlen hR hys hyl hw64 hw64'
      rcases hprev with hk0 | ⟨z, hkz, hcz⟩
      · have d0 : decide (0 < k) = false := decide_eq_false (by omega)
        clear hk0
        go_wp2_with ((with_reducible refine gate_dst (N := 50) rfl ?_); refine Kd.R_append_row (Value.int .u8) 0 (h1 := fun _ => rfl) (w0 := w) w.heap.size rfl (.tmp 48) (.tmp 49) 22 5 (.int .u8 0) 1 rfl Tryd.underlying22 info_u8 rfl (by decide) _ xs (List.replicate 8 0) (some ⟨wo.heap.size, 0, none⟩) 8 8 (fun _ => True) rfl rfl (fun _ _ => trivial) (Kd.R_alloc HRg.out _) (RB.lit wo (List.replicate 8 0) #[.int .u8 0, .int .u8 0, .int .u8 0, .int .u8 0, .int .u8 0, .int .u8 0, .int .u8 0, .int .u8 0] _ rfl (by decide)) (below_alloc hbel.out _) (below_alloc hbel.out _).size (by omega) ?_; intro v5 w5 ho5 hb5 hg5_ hat5_; clear hg5_ hat5_; rw [HYS.out] at ho5; obtain ⟨g5, cap5, hv5, hg50, hg51, hcl5⟩ := Kd.R_form ho5 hyp; clear hcl5; subst hv5; obtain ⟨y0, yq, ha1, ha2, hb1, hb2, hpb⟩ := grow_facts hq0 hql HG.out ho5; have HPB := Lib.hid hpb; have HB5 := Lib.hid (below_set (below_set hb5 hg50 (j := 0) (v := .int .u8 (Go.bits .or .u8 y0 128))) hg50 (j := q) (v := .int .u8 (Go.bits .or .u8 yq (128 / 2 ^ r)))); clear ho5 hb5 hpb)
        exact ⟨⟨k + 1, by omega, rfl, ⟨no, Lib.hid HNx.out⟩, HPB, HB5⟩, by simp [intOf]; omega⟩
      · have e9 : IntKind.i64.wrap ((k : Int) - 1) = (z : Int) := by rw [IntKind.wrap_i64]; omega
        have hzl : z < l.length := by omega
        have d0 : decide (0 < k) = true := decide_eq_true (by omega)
        clear hkz
        go_wp2_with ((with_reducible refine gate_dst (N := 50) rfl ?_); refine Kd.R_append_row (Value.int .u8) 0 (h1 := fun _ => rfl) (w0 := w) w.heap.size rfl (.tmp 48) (.tmp 49) 22 5 (.int .u8 0) 1 rfl Tryd.underlying22 info_u8 rfl (by decide) _ xs (List.replicate 8 0) (some ⟨wo.heap.size, 0, none⟩) 8 8 (fun _ => True) rfl rfl (fun _ _ => trivial) (Kd.R_alloc HRg.out _) (RB.lit wo (List.replicate 8 0) #[.int .u8 0, .int .u8 0, .int .u8 0, .int .u8 0, .int .u8 0, .int .u8 0, .int .u8 0, .int .u8 0] _ rfl (by decide)) (below_alloc hbel.out _) (below_alloc hbel.out _).size (by omega) ?_; intro v5 w5 ho5 hb5 hg5_ hat5_; clear hg5_ hat5_; rw [HYS.out] at ho5; obtain ⟨g5, cap5, hv5, hg50, hg51, hcl5⟩ := Kd.R_form ho5 hyp; clear hcl5; subst hv5; obtain ⟨y0, yq, ha1, ha2, hb1, hb2, hpb⟩ := grow_facts hq0 hql HG.out ho5; have HPB := Lib.hid hpb; have HB5 := Lib.hid (below_set (below_set hb5 hg50 (j := 0) (v := .int .u8 (Go.bits .or .u8 y0 128))) hg50 (j := q) (v := .int .u8 (Go.bits .or .u8 yq (128 / 2 ^ r)))); clear ho5 hb5 hpb)
        exact ⟨⟨k + 1, by omega, rfl, ⟨no, Lib.hid HNx.out⟩, HPB, HB5⟩, by simp [intOf]; omega⟩
    · obtain rfl : k = l.length := by omega
      have hR2 := hR.out
      have hlo2 := hlo.out
      rw [List.take_length] at hR2 hlo2
      have HXe : Hid (X = ((mapB l).1, 0)) := Lib.hid (by rw [HX.out, mapB_some hlo2])
      have HR2 := Lib.hid hR2
      clear hR hR2 hlo2 hlo
      go_wp2_with fail
      go_ret2
      rw [HXe.out]
      exact ⟨_, rfl, HR2.out, hbel.out⟩
end Go.Proofs.YtonhmaklnkidhaaDoor.G

namespace Go.Proofs.YtonhmaklnkidhaaDoor.G
open Go.RowKit Go.Proofs.YtonhmaklnkidhaaDoorW.PrintWords

theorem mapB_one (l : List Int) (h : (mapB l).2 ≠ 0) : (mapB l).2 = 1 := by
  unfold mapB at h ⊢
  split
  · rfl
  · rename_i hx
    rw [hx] at h
    exact absurd rfl h
set_option maxHeartbeats 6400000 in
set_option maxRecDepth 100000 in
theorem ref_Pack (mti : ByteArray) (A : Option Addr) (c : Nat) (fs : List (Int × List Int)) (w : World) (hmti : mti.size ≤ 9223372036854775807) (hC : Kd.C kE w A fs.length fs) (hm : fs.length ≤ 1000) (hd9 : ∀ x ∈ fs, x.2.length ≤ 9223372036854775807) :
    Calls Tryd.prog 22 #[.agg #[.string mti, .slice A fs.length c]] w (OutPost w (packOf mti fs)) := by
  obtain ⟨X, hX⟩ : ∃ X, X = packOf mti fs := ⟨_, rfl⟩
  rw [← hX]
  have HX := Lib.hid hX
  have HC := Lib.hid hC
  have HP := Lib.hid hd9
  clear hX hC hd9
  have Hb0 := Lib.hid (below_alloc (Below.refl w.heap.size w) (.cells #[.string mti, .slice A fs.length c] 46))
  go_enter Tryd.func22, Tryd.ntmps22
  go_wp2_with fail
  refine (ref_Right mti 4 4 hmti _).mono ?_
  rintro e w1 ⟨rfl, hw1⟩
  have q0 : w1.cell? ⟨w.heap.size, 0, none⟩ = some (.string mti) := by rw [← hw1, World.cell?_alloc_new]; rfl
  have q1 : w1.cell? ⟨w.heap.size, 1, none⟩ = some (.slice A fs.length c) := by rw [← hw1, World.cell?_alloc_new]; rfl
  have hz1 : w.heap.size < w1.heap.size := by rw [← hw1]; simp
  have HB1 : Hid (Below w.heap.size w w1) := by rw [← hw1]; exact Hb0
  clear hw1 Hb0
  dsimp only
  by_cases hr : rightB mti 4 4 = false
  · rw [hr]
    have HX2 : Hid (X = ([], 5)) := Lib.hid (by rw [HX.out, packOf, if_pos hr])
    clear hr
    go_wp2_with fail
    go_ret2
    rw [HX2.out]
    exact OutPost.none_ HB1.out
  have hr' : rightB mti 4 4 = true := by simpa using hr
  rw [hr']
  have hm4 : mti.size = 4 := by
    unfold rightB at hr'
    simp at hr'
    omega
  have HX2 : Hid (X = if (mapB (fs.map (·.1))).2 ≠ 0 then ([], 1) else packGo (bytesOf mti ++ (mapB (fs.map (·.1))).1) fs) := Lib.hid (by rw [HX.out, packOf, if_neg hr])
  clear hr hr' HX
  have HQ1 := Lib.hid q1
  go_wp2_with fail
  have HC1 := Lib.hid (Kd.C_below HC.out HB1.out)
  clear HC
  have hzz : w.heap.size < w1.heap.size := hz1
  go_loopw [4, 5] (fun v4 v5 wr => ∃ k : Nat, k ≤ fs.length ∧ v5 = .int .i64 k ∧ Hid (Kd.R (Kd.int .i64) 3 wr w1.heap.size (fun _ => True) v4 ((fs.take k).map (·.1))) ∧ Hid (Below w1.heap.size w1 wr)) (fun _ v _ => fs.length - (intOf v).toNat)
  case atStart => exact ⟨0, Nat.zero_le _, rfl, Lib.hid (Kd.R_nil _ _ _ _ _), Lib.hid (Below.refl _ _)⟩
  case round =>
    obtain ⟨k, hk, rfl, hR, hbel⟩ := hrel
    obtain ⟨wo, rfl⟩ : ∃ wo : World, wo = wr := ⟨_, rfl⟩
    have q0' : wo.cell? ⟨w.heap.size, 0, none⟩ = some (.string mti) := (hbel.out.cell (p := ⟨w.heap.size, 0, none⟩) hzz).trans q0
    have q1' : wo.cell? ⟨w.heap.size, 1, none⟩ = some (.slice A fs.length c) := (hbel.out.cell (p := ⟨w.heap.size, 1, none⟩) hzz).trans q1
    by_cases hlt : k < fs.length
    · obtain ⟨ad, B, cB, rfl, hx0, hx1, hx2, hx3⟩ := kE_at (Kd.C_below HC1.out hbel.out) k hlt
      have hsn : (fs.take (k + 1)).map (·.1) = (fs.take k).map (·.1) ++ [fs[k].1] := by rw [List.take_succ_eq_append_getElem hlt, List.map_append]; rfl
      clear hx2 hx3
      generalize fs[k].1 = no at hx0 hsn
      generalize fs[k].2.length = bl at hx1
      have HSN := Lib.hid hsn
      clear hsn
      go_wp2_with (at_builtin; refine Kd.R_append (Kd.int .i64) (w0 := w1) w1.heap.size rfl (.tmp 23) (.tmp 30) 43 3 (.int .i64 0) 8 rfl Tryd.underlying43 info_int rfl (by decide) (by omega) u4 ((fs.take k).map (·.1)) no [.int .i64 no] (fun _ => True) (fun _ => False) rfl rfl rfl (fun _ hk => hk.elim) (fun _ _ => trivial) hR.out hbel.out hbel.out.size (by rw [List.length_map, List.length_take]; omega) ?_; intro v5 w5 ho5 hb5 hg5 hat5; clear hg5 hat5; have HO5 := Lib.hid ho5; have HB5 := Lib.hid hb5; clear ho5 hb5)
      exact ⟨⟨k + 1, hlt, rfl, Lib.hid (by rw [HSN.out]; exact HO5.out), HB5⟩, by simp [intOf]; omega⟩
    · obtain rfl : k = fs.length := by omega
      have hR2 := hR.out
      rw [List.take_length] at hR2
      obtain ⟨nos, hnos⟩ : ∃ nos, nos = fs.map (·.1) := ⟨_, rfl⟩
      have hnl : nos.length = fs.length := by rw [hnos, List.length_map]
      rw [← hnos] at hR2 HX2
      obtain ⟨A4, c4, hv4, hc4, hr4⟩ := Kd.R_reads hR2
      subst hv4
      have HW := Lib.hid (ref_WriteMap A4 c4 nos wo hr4)
      rw [hnl] at HW ⊢
      have hml := mapB_len nos
      have hmo := mapB_one nos
      generalize mapB nos = mb at HW HX2 hml hmo
      obtain ⟨mb1, mb2⟩ := mb
      simp only at hml hmo
      have hzo : w.heap.size < wo.heap.size := Nat.lt_of_lt_of_le hzz hbel.out.size
      clear hnos hr4 hR2 hR hnl hc4 q0 q1
      go_wp2_with fail
      refine HW.out.mono ?_
      rintro e w2 ⟨v2, rfl, hv2, hb2⟩
      have hv2' : Kd.R (Kd.int .u8) 5 w2 wo.heap.size (fun _ => True) v2 mb1 := hv2
      obtain ⟨A2, c2, hvv, hc2, hr2⟩ := Kd.R_reads hv2'
      subst hvv
      have HR2 := Lib.hid hr2
      have HBo2 := Lib.hid hb2
      have HB2 := Lib.hid (below_then hbel.out hbel.out.size hb2)
      clear hv2 hv2' hb2 HW hr2
      dsimp only at HX2 ⊢
      by_cases hm0 : mb2 ≠ 0
      · have HX3 : Hid (X = ([], 1)) := Lib.hid (by rw [HX2.out, if_pos hm0])
        have hm1 : mb2 = 1 := hmo hm0
        clear hmo
        have b2 : (mb2 != 0) = true := bne_iff_ne.2 hm0
        clear hm0
        go_wp2_with fail
        go_ret2
        rw [HX3.out, hm1]
        exact OutPost.none_ (below_then HB1.out HB1.out.size HB2.out)
      have HX3 : Hid (X = packGo (bytesOf mti ++ mb1) fs) := Lib.hid (by rw [HX2.out, if_neg hm0])
      obtain rfl : mb2 = 0 := by simpa using hm0
      clear hm0 hmo
      have r0 : w2.cell? ⟨w.heap.size, 0, none⟩ = some (.string mti) := (HBo2.out.cell (p := ⟨w.heap.size, 0, none⟩) hzo).trans q0'
      have r1 : w2.cell? ⟨w.heap.size, 1, none⟩ = some (.slice A fs.length c) := (HBo2.out.cell (p := ⟨w.heap.size, 1, none⟩) hzo).trans q1'
      have hz2 : w.heap.size < w2.heap.size := Nat.lt_of_lt_of_le hzo HBo2.out.size
      have hml4 : (bytesOf mti).length = 4 := by rw [bytesOf_length, hm4]
      have HM4 := Lib.hid hml4
      clear q0' q1' hml4
      go_wp2_with (first
        | ((with_reducible refine gate_dst (N := 42) rfl ?_); refine wpList_conv _ rfl (.tmp 41) rfl mti rfl (by omega) ?_; intro v3 w3 hv3 hb3; have HV3 := Lib.hid hv3; have HB3 := Lib.hid hb3; have HBq := Lib.hid (below_then HB2.out HB2.out.size hb3); clear hv3 hb3)
        | ((with_reducible refine gate_dst (N := 44) rfl ?_); refine wpList_bytes_append _ rfl (.tmp 42) (.tmp 43) rfl w1.heap.size _ (bytesOf mti) rfl (HV3.out.less HB2.out.size) A2 c2 mb1 rfl (RB.below HR2.out HB3.out) (by rw [HM4.out]; omega) HBq.out.size ?_; intro v4 w4 hv4 hb4 hgr4 hat4; clear hgr4 hat4; have HV4 := Lib.hid hv4; have HB4 := Lib.hid (HBq.out.trans hb4); clear hv4 hb4))
      have hbl : (bytesOf mti ++ mb1).length ≤ 20 := by rw [List.length_append, HM4.out]; omega
      generalize bytesOf mti ++ mb1 = bs at *
      have r4 : w4.cell? ⟨w.heap.size, 1, none⟩ = some (.slice A fs.length c) := (HB4.out.cell (p := ⟨w.heap.size, 1, none⟩) hzz).trans ((show w1.cell? ⟨w.heap.size, 1, none⟩ = some (.slice A fs.length c) from HQ1.out))
      clear r0 r1 HR2 HB2 HBo2 hbel HV3 HB3 HBq HM4
      go_loopw [8, 9, 10, 11] (fun v8 v9 _ _ wr => ∃ (k : Nat) (acc : List Int), k ≤ fs.length ∧ v9 = .int .i64 k ∧ Hid (BRow wr w1.heap.size v8 acc) ∧ Hid (X = packGo acc (fs.drop k)) ∧ Hid (acc.length ≤ 20 + 1003 * k) ∧ Hid (Below w1.heap.size w1 wr)) (fun _ v _ _ _ => fs.length - (intOf v).toNat)
      case atStart => exact ⟨0, bs, Nat.zero_le _, rfl, HV4, HX3, Lib.hid (by omega), HB4⟩
      case round =>
        obtain ⟨k, acc, hk, rfl, hV, hXk, hal, hbel⟩ := hrel
        obtain ⟨wo, rfl⟩ : ∃ wo : World, wo = wr := ⟨_, rfl⟩
        have q1' : wo.cell? ⟨w.heap.size, 1, none⟩ = some (.slice A fs.length c) := (hbel.out.cell (p := ⟨w.heap.size, 1, none⟩) hzz).trans HQ1.out
        by_cases hlt : k < fs.length
        · obtain ⟨ad, B, cB, rfl, hx0, hx1, hx2, hx3⟩ := kE_at (Kd.C_below HC1.out hbel.out) k hlt
          have hdr : fs.drop k = fs[k] :: fs.drop (k + 1) := List.drop_eq_getElem_cons hlt
          have hxm : fs[k] ∈ fs := List.getElem_mem hlt
          obtain ⟨x, hx⟩ : ∃ x, x = fs[k] := ⟨_, rfl⟩
          rw [← hx] at hx0 hx1 hx2 hx3 hdr hxm
          obtain ⟨no, d⟩ := x
          simp only at hx0 hx1 hx2 hx3
          have hXk2 := hXk.out
          rw [hdr, packGo] at hXk2
          simp only at hXk2
          have hpw := HP.out _ hxm
          simp only at hpw
          have hWr := ref_Write no B cB d wo hx3 hpw
          have hwl := writeOf_len no d
          generalize writeOf no d = r at hWr hXk2 hwl
          obtain ⟨r1, r2⟩ := r
          simp only at hXk2 hwl
          have HWr := Lib.hid hWr
          have HXk2 := Lib.hid hXk2
          clear hWr hXk2 hXk hdr hxm hx hpw hx3
          go_wp2_with fail
          refine HWr.out.mono ?_
          rintro e w5 ⟨v5, rfl, hv5, hb5⟩
          have hv5' : BRow w5 wo.heap.size v5 r1 := hv5
          obtain ⟨A5, c5, hvv, hc5, hr5⟩ := hv5'.reads
          subst hvv
          have HR5 := Lib.hid hr5
          have HV5 := Lib.hid (hV.out.below hb5)
          have HB5 := Lib.hid (below_then hbel.out hbel.out.size hb5)
          clear hv5 hv5' hb5 hr5 HWr
          dsimp only
          by_cases h2 : r2 ≠ 0
          · have HX4 : Hid (X = ([], r2)) := Lib.hid (by rw [HXk2.out, if_pos h2])
            have b2 : (r2 != 0) = true := bne_iff_ne.2 h2
            clear h2
            go_wp2_with fail
            go_ret2
            rw [HX4.out]
            exact OutPost.none_ (below_then HB1.out HB1.out.size HB5.out)
          have HX4 : Hid (X = packGo (acc ++ r1) (fs.drop (k + 1))) := Lib.hid (by rw [HXk2.out, if_neg h2])
          have b2 : (r2 != 0) = false := by simpa using h2
          clear h2 HXk2
          go_wp2_with (at_builtin; refine wpList_bytes_append _ rfl (.tmp 64) (.tmp 65) rfl w1.heap.size _ acc rfl HV5.out A5 c5 r1 rfl HR5.out (by have := hal.out; omega) HB5.out.size ?_; intro v6 w6 hv6 hb6 hgr6 hat6; clear hgr6 hat6; have HV6 := Lib.hid hv6; have HB6 := Lib.hid (HB5.out.trans hb6); clear hv6 hb6)
          exact ⟨⟨k + 1, _, hlt, rfl, HV6, HX4, Lib.hid (by rw [List.length_append]; have := hal.out; omega), HB6⟩, by simp [intOf]; omega⟩
        · obtain rfl : k = fs.length := by omega
          have hXk2 := hXk.out
          rw [List.drop_length, packGo] at hXk2
          obtain ⟨A5, c5, hv5, hc5, hr5⟩ := hV.out.reads
          subst hv5
          obtain ⟨z, hz⟩ : ∃ z, z = acc.length := ⟨_, rfl⟩
          rw [← hz] at hXk2 ⊢
          have HXk2 := Lib.hid hXk2
          have HZ := Lib.hid hz
          clear hXk2 hz hXk hr5 hc5
          by_cases h4 : 4096 < z
          · have HX4 : Hid (X = ([], 4)) := Lib.hid (by rw [HXk2.out, if_pos h4])
            have b2 : decide ((4096 : Int) < (z : Int)) = true := decide_eq_true (by omega)
            clear h4 HXk2
            go_wp2_with fail
            go_ret2
            rw [HX4.out]
            exact OutPost.none_ (below_then HB1.out HB1.out.size hbel.out)
          · have HX4 : Hid (X = (acc, 0)) := Lib.hid (by rw [HXk2.out, if_neg h4])
            have b2 : decide ((4096 : Int) < (z : Int)) = false := decide_eq_false (by omega)
            clear h4 HXk2
            go_wp2_with fail
            go_ret2
            rw [HX4.out]
            have hV3 := hV.out
            rw [← HZ.out] at hV3
            exact ⟨_, rfl, hV3.less HB1.out.size, below_then HB1.out HB1.out.size hbel.out⟩
end Go.Proofs.YtonhmaklnkidhaaDoor.G

namespace Go.Proofs.YtonhmaklnkidhaaDoor.G
open Go.RowKit Go.Proofs.YtonhmaklnkidhaaDoorW.PrintWords Go.Proofs.YtonhmaklnkidhaaDoorW.PrintLast

def goOn (s : ByteArray) (er : Int) (nos rest : List Int) (els : List (Int × List Int)) : ByteArray × List (Int × List Int) × Int :=
  if er ≠ 0 then (⟨#[]⟩, [], er) else
  if (eachOf nos rest els).2.2 ≠ 0 then (⟨#[]⟩, [], (eachOf nos rest els).2.2) else
  if 0 < (eachOf nos rest els).1.length then (⟨#[]⟩, [], 17) else (s, (eachOf nos rest els).2.1, 0)
theorem readOf_err {no : Int} {l : List Int} (h : (readOf no l).2.2 ≠ 0) : (readOf no l).2.1 = 0 := by
  unfold readOf at h ⊢
  split
  · rfl
  rename_i h1
  rw [if_neg h1] at h
  split
  · rfl
  rename_i h2
  rw [if_neg h2] at h
  split
  · rfl
  rename_i h3
  rw [if_neg h3] at h
  split
  · rfl
  rename_i h4
  rw [if_neg h4] at h
  exact absurd rfl h
theorem goOn_step (s : ByteArray) (no : Int) (nos rest : List Int) (els : List (Int × List Int)) : goOn s 0 (no :: nos) rest els = goOn s (readOf no rest).2.2 nos (rest.drop (readOf no rest).2.1.toNat) (els ++ [(no, (readOf no rest).1)]) := by
  by_cases h : (readOf no rest).2.2 = 0
  · have hs : stepOf no rest els = (rest.drop (readOf no rest).2.1.toNat, els ++ [(no, (readOf no rest).1)], 0) := by rw [stepOf, if_pos h]
    have he : eachOf (no :: nos) rest els = eachOf nos (rest.drop (readOf no rest).2.1.toNat) (els ++ [(no, (readOf no rest).1)]) := by rw [eachOf, hs, if_neg (fun h => h rfl)]
    unfold goOn
    rw [he, h]
  · have hs : stepOf no rest els = (rest, els, (readOf no rest).2.2) := by rw [stepOf, if_neg h]
    have he : eachOf (no :: nos) rest els = (rest, els, (readOf no rest).2.2) := by rw [eachOf, hs, if_pos h]
    unfold goOn
    rw [he, if_neg (by decide), if_pos h, if_pos h]
structure MAt (w0 w : World) (p : Nat) (s : ByteArray) (nos : List Int) (vn : Value) (els : List (Int × List Int)) : Prop where
  bel : Below w0.heap.size w0 w
  le : w0.heap.size ≤ p
  c0 : w.cell? ⟨p, 0, none⟩ = some (.string s)
  f1 : w.frozen? ⟨p, 1, none⟩ = false
  nrow : Kd.R (Kd.int .i64) 3 w w0.heap.size (fun k => k ≠ p) vn nos
  row : ∃ v, w.cell? ⟨p, 1, none⟩ = some v ∧ Kd.R kE 26 w w0.heap.size (fun k => k ≠ p) v els
theorem MAt.lt {w0 w : World} {p : Nat} {s : ByteArray} {nos : List Int} {vn : Value} {els : List (Int × List Int)} (h : MAt w0 w p s nos vn els) : p < w.heap.size := World.block_lt_of_cell? w _ h.c0
theorem MAt.below {w0 w w' : World} {p : Nat} {s : ByteArray} {nos : List Int} {vn : Value} {els : List (Int × List Int)} (h : MAt w0 w p s nos vn els) (hb : Below w.heap.size w w') : MAt w0 w' p s nos vn els := by
  obtain ⟨v, h1, h2⟩ := h.row
  exact ⟨below_then h.bel h.bel.size hb, h.le, (hb.cell (p := ⟨p, 0, none⟩) h.lt).trans h.c0, (hb.frozen (p := ⟨p, 1, none⟩) h.lt).trans h.f1, Kd.R_below h.nrow hb, v, (hb.cell (p := ⟨p, 1, none⟩) h.lt).trans h1, Kd.R_below h2 hb⟩
theorem MAt.push {w0 w5 w6 : World} {p : Nat} {s : ByteArray} {nos : List Int} {vn v v6 : Value} {els : List (Int × List Int)} {x : Int × List Int} (h : MAt w0 w5 p s nos vn els) (hv : w5.cell? ⟨p, 1, none⟩ = some v)
    (hRv : Kd.R kE 26 w5 w0.heap.size (fun k => k ≠ p) v els) (ho6 : Kd.R kE 26 w6 w0.heap.size (fun k => k ≠ p) v6 (els ++ [x])) (hb6 : Below w0.heap.size w0 w6) (hg6 : w5.grownBy w6 v.ownBlock) :
    MAt w0 (w6.setCell ⟨p, 1, none⟩ v6) p s nos vn (els ++ [x]) := by
  have hne : some p ≠ v.ownBlock := fun e => (hRv.1 p e.symm) rfl
  have m0 : w6.cell? ⟨p, 1, none⟩ = some v := (hg6.cell_far ⟨p, 1, none⟩ h.lt hne).trans hv
  refine ⟨hb6.setCell h.le _, h.le, ?_, ?_, Kd.R_far (Kd.R_over h.nrow hRv ?_ hg6) (fun k hk => hk) _, ⟨v6, World.cell?_setCell_same _ _ _ m0, Kd.R_far ho6 (fun k hk => hk) _⟩⟩
  · rw [World.cell?_setCell_other _ _ _ _ (by simp)]
    exact (hg6.cell_far ⟨p, 0, none⟩ h.lt hne).trans h.c0
  · rw [World.frozen?_setCell]
    exact (hg6.frozen_far ⟨p, 1, none⟩ h.lt hne).trans h.f1
  · intro q hq
    have : q = 3 := by simpa [Kd.int, Kd.scalar] using hq
    subst this
    decide
theorem MAt.apart {w0 w : World} {p k : Nat} {s : ByteArray} {nos : List Int} {ad : Addr} {n c : Nat} {v : Value} {els : List (Int × List Int)} (h : MAt w0 w p s nos (.slice (some ad) n c) els) (hRv : Kd.R kE 26 w w0.heap.size (fun k => k ≠ p) v els) :
    some (ad.add k).block ≠ v.ownBlock := by
  have h2 := Kd.R_apartR h.nrow hRv (fun q hq => by
    have : q = 3 := by simpa [Kd.int, Kd.scalar] using hq
    subst this
    decide)
  have h3 := (h2.1 ad.block (by simp [Value.ownBlock])).2
  rw [add_block]
  exact h3
theorem mapOf_le (l : List Int) : 0 ≤ (mapOf l).2.1 ∧ (mapOf l).2.1 ≤ l.length := by
  unfold mapOf
  split
  · exact ⟨Int.le_refl 0, by simp only; omega⟩
  split
  · exact ⟨(by decide : (0 : Int) ≤ 8), by simp only; omega⟩
  split
  · exact ⟨Int.le_refl 0, by simp only; omega⟩
  split
  · exact ⟨Int.le_refl 0, by simp only; omega⟩
  split
  · exact ⟨Int.le_refl 0, by simp only; omega⟩
  exact ⟨(by decide : (0 : Int) ≤ 16), by simp only; omega⟩
set_option maxHeartbeats 6400000 in
set_option maxRecDepth 100000 in
theorem ref_Parse (A : Option Addr) (c : Nat) (l : List Int) (w : World) (hr : RB w A l) (hc : l.length ≤ c) (hby : Byt l) :
    Calls Tryd.prog 20 #[.slice A l.length c] w (ParsePost w (parseOf l)) := by
  have hmax : l.length ≤ 9223372036854775807 := Kd.C_max hr
  obtain ⟨X, hX⟩ : ∃ X, X = parseOf l := ⟨_, rfl⟩
  rw [← hX]
  unfold parseOf at hX
  have H0 : Zero (w.alloc (.cells #[.string ⟨#[]⟩, .slice none 0 0] 46)) w.heap.size := ⟨by rw [World.cell?_alloc_new]; rfl, by rw [World.cell?_alloc_new]; rfl, by rw [World.frozen?_alloc_new], by rw [World.frozen?_alloc_new]⟩
  have HZ0 := Lib.hid H0
  have Hb0 := Lib.hid (below_alloc (Below.refl w.heap.size w) (.cells #[.string ⟨#[]⟩, .slice none 0 0] 46))
  have HR := Lib.hid hr
  have HBy := Lib.hid hby
  clear hr H0 hby
  by_cases hbig : 4096 < l.length
  · have HX : Hid (X = (⟨#[]⟩, [], 4)) := Lib.hid (by rw [hX, if_pos hbig])
    have b1 : decide ((4096 : Int) < (l.length : Int)) = true := decide_eq_true (by omega)
    clear hX hbig
    obtain ⟨z0, z1, z2, z3⟩ := HZ0.out
    go_enter Tryd.func20, Tryd.ntmps20
    go_wp2_with fail
    rw [HX.out]
    refine bodyPost_ret (v := .tuple #[.agg #[.string ⟨#[]⟩, .slice none 0 0], .int .i64 4]) (by simp [results, Tryd.results20, go_sem, z0, z1]) rfl (ParsePost.none_ ?_)
    first | exact Hb0.out | exact ((Hb0.out).setCell (Nat.le_refl _) _).setCell (Nat.le_refl _) _
  rw [if_neg hbig] at hX
  have b1 : decide ((4096 : Int) < (l.length : Int)) = false := decide_eq_false (by omega)
  by_cases h4 : l.length < 4
  · have HX : Hid (X = (⟨#[]⟩, [], 3)) := Lib.hid (by rw [hX, if_pos h4])
    have b2 : decide ((l.length : Int) < 4) = true := decide_eq_true (by omega)
    clear hX hbig h4
    obtain ⟨z0, z1, z2, z3⟩ := HZ0.out
    go_enter Tryd.func20, Tryd.ntmps20
    go_wp2_with fail
    rw [HX.out]
    refine bodyPost_ret (v := .tuple #[.agg #[.string ⟨#[]⟩, .slice none 0 0], .int .i64 3]) (by simp [results, Tryd.results20, go_sem, z0, z1]) rfl (ParsePost.none_ ?_)
    first | exact Hb0.out | exact ((Hb0.out).setCell (Nat.le_refl _) _).setCell (Nat.le_refl _) _
  rw [if_neg h4] at hX
  have b2 : decide ((l.length : Int) < 4) = false := decide_eq_false (by omega)
  obtain ⟨hs1, hs2, hs3⟩ := cut_take A c l 4 (by decide) (by omega) hc
  have h44 : (4 : Int).toNat = 4 := rfl
  rw [h44] at hs1 hs2 hs3
  have hst := RB.string (hs2 _ (RB.below HR.out Hb0.out)) c
  have hsz : (strOfNums (l.take 4)).size ≤ 9223372036854775807 := by rw [str_size, List.length_take]; omega
  generalize strOfNums (l.take 4) = s at hst hsz hX
  have HRt := Lib.hid (ref_Right s 4 4 hsz)
  have hX0 := Lib.hid hX
  generalize l.take 4 = l4 at hs1 hst
  clear hs2 hs3 hX hsz h44
  go_enter Tryd.func20, Tryd.ntmps20
  go_wp2_with fail
  refine (HRt.out _).mono ?_
  rintro e w1 ⟨rfl, hw1⟩
  rw [hw1] at hst
  have HZ1 : Hid (Zero w1 w.heap.size) := by rw [← hw1]; exact HZ0
  have HB1 : Hid (Below w.heap.size w w1) := by rw [← hw1]; exact Hb0
  have hz1 : w.heap.size < w1.heap.size := by rw [← hw1]; simp
  clear hw1 HZ0 Hb0 HRt
  dsimp only
  have hX := hX0.out
  clear hX0
  by_cases hrt : rightB s 4 4 = false
  · rw [hrt]
    rw [if_pos hrt] at hX
    have HXe := Lib.hid hX
    clear hX hrt
    obtain ⟨z0, z1, z2, z3⟩ := HZ1.out
    go_wp2_with fail
    rw [HXe.out]
    refine bodyPost_ret (v := .tuple #[.agg #[.string ⟨#[]⟩, .slice none 0 0], .int .i64 5]) (by simp [results, Tryd.results20, go_sem, z0, z1]) rfl (ParsePost.none_ ?_)
    exact ((HB1.out).setCell (Nat.le_refl _) _).setCell (Nat.le_refl _) _
  rw [if_neg hrt] at hX
  have hrt' : rightB s 4 4 = true := by simpa using hrt
  rw [hrt']
  obtain ⟨A3, hcut3, hcr3, hcl3⟩ := cut_drop A c l 4 (by decide) (by omega) hc
  have h44 : (4 : Int).toNat = 4 := rfl
  rw [h44] at hcut3 hcr3 hcl3
  have HBa := Lib.hid (below_alloc HB1.out (.cells #[.string s, .slice none 0 0] 46))
  have HPm := Lib.hid (ref_ParseMap A3 (c - 4) (l.drop 4) (w1.alloc (.cells #[.string s, .slice none 0 0] 46)) (hcr3 _ (RB.below HR.out HBa.out)) (HBy.out.drop 4))
  have hmb := mapOf_bounds (l.drop 4)
  have hml := mapOf_le (l.drop 4)
  have hdl : (l.drop 4).length = l.length - 4 := List.length_drop
  rw [hdl] at hmb hml
  generalize mapOf (l.drop 4) = mp at HPm hX hmb hml
  obtain ⟨nos, n, er⟩ := mp
  simp only at hX hmb hml
  obtain ⟨hn0, hnl4⟩ := hml
  have hnl4' : n ≤ (l.length : Int) - 4 := by omega
  clear hnl4
  obtain ⟨d4, hd4⟩ : ∃ d4, d4 = l.drop 4 := ⟨_, rfl⟩
  obtain ⟨c4, hc4⟩ : ∃ c4, c4 = c - 4 := ⟨_, rfl⟩
  rw [← hd4, ← hc4] at hcut3 HPm
  have hX1 : X = goOn s er nos (l.drop (4 + n.toNat)) [] := hX
  have HX1 := Lib.hid hX1
  have HMB := Lib.hid hmb
  clear hX hX1 hrt hrt' hcr3 hcl3 hmb hd4 hc4 h44 hdl
  go_wp2_with fail
  refine HPm.out.mono ?_
  rintro e w3 ⟨v4, rfl, hr4, hb4⟩
  have hr4' : Kd.R (Kd.int .i64) 3 w3 (w1.alloc (.cells #[.string s, .slice none 0 0] 46)).heap.size (fun _ => True) v4 nos := hr4
  obtain ⟨A5, c5, hv4, hcc4, hC4⟩ := Kd.R_reads hr4'
  subst hv4
  obtain ⟨p, hp⟩ : ∃ p, p = w1.heap.size := ⟨_, rfl⟩
  have hsz2 : (w1.alloc (.cells #[.string s, .slice none 0 0] 46)).heap.size = w1.heap.size + 1 := by simp
  have HM0 : MAt w1 w3 p s nos (.slice A5 nos.length c5) [] := by
    refine ⟨below_step (below_alloc (Below.refl _ _) _) hb4, by omega, ?_, ?_, ?_, ⟨.slice none 0 0, ?_, Kd.R_nil _ _ _ _ _⟩⟩
    · rw [hb4.cell (p := ⟨p, 0, none⟩) (by rw [hp]; simp), hp, World.cell?_alloc_new]; rfl
    · rw [hb4.frozen (p := ⟨p, 1, none⟩) (by rw [hp]; simp), hp, World.frozen?_alloc_new]
    · exact Kd.R_lower (Kd.R_mono (Kd.R_bound hr4') (fun k hk => by have := hk.2.1; omega)) (by omega)
    · rw [hb4.cell (p := ⟨p, 1, none⟩) (by rw [hp]; simp), hp, World.cell?_alloc_new]; rfl
  have HM0' := Lib.hid HM0
  have hnl : nos.length ≤ 127 := HMB.out.2.1
  obtain ⟨a0, ha0⟩ : ∃ a0 : Nat, a0 = 4 + n.toNat := ⟨_, rfl⟩
  have e0 : IntKind.i64.wrap (4 + n) = (a0 : Int) := by rw [IntKind.wrap_i64]; omega
  have ha0l : a0 ≤ l.length := by omega
  rw [← ha0] at HX1
  subst hp
  clear ha0 hr4 hr4' hb4 hcc4 hC4 hsz2 HM0 HPm HMB hn0 hnl4'
  dsimp only
  go_wp2_with fail
  go_loopw [7, 8, 9, 10, 11, 12] (fun v7 v8 v9 _ _ _ wr => ∃ (k a : Nat) (er2 : Int) (els : List (Int × List Int)), k ≤ nos.length ∧ v9 = .int .i64 (k : Int) ∧ v8 = .int .i64 (a : Int) ∧ v7 = .int .i64 er2 ∧ Hid (a ≤ l.length) ∧ Hid (els.length ≤ k) ∧ Hid (X = goOn s er2 (nos.drop k) (l.drop a) els) ∧ Hid (MAt w1 wr w1.heap.size s nos (.slice A5 nos.length c5) els)) (fun _ _ v _ _ _ _ => nos.length - (intOf v).toNat)
  case atStart => exact ⟨0, a0, er, [], Nat.zero_le _, rfl, rfl, rfl, Lib.hid ha0l, Lib.hid (Nat.le_refl _), HX1, HM0'⟩
  case round =>
    obtain ⟨k, a, er2, els, hk, rfl, rfl, rfl, hal, hel, HXk, HM⟩ := hrel
    obtain ⟨wo, rfl⟩ : ∃ wo : World, wo = wr := ⟨_, rfl⟩
    by_cases hlt : k < nos.length
    · by_cases he : er2 ≠ 0
      · have HXe : Hid (X = (⟨#[]⟩, [], er2)) := Lib.hid (by rw [HXk.out, goOn, if_pos he])
        have be1 : (er2 == 0) = false := beq_eq_false_iff_ne.2 he
        have be2 : (er2 != 0) = true := bne_iff_ne.2 he
        have HBx := Lib.hid (below_then HB1.out HB1.out.size HM.out.bel)
        obtain ⟨z0, z1, z2, z3⟩ := HZ1.out.below HM.out.bel
        clear he HXk
        have bk : decide (k < nos.length) = true := decide_eq_true hlt
        go_wp2_with fail
        rw [HXe.out]
        refine bodyPost_ret (v := .tuple #[.agg #[.string ⟨#[]⟩, .slice none 0 0], .int .i64 er2]) (by simp [results, Tryd.results20, go_sem, z0, z1]) rfl (ParsePost.none_ ?_)
        exact ((HBx.out).setCell (Nat.le_refl _) _).setCell (Nat.le_refl _) _
      obtain rfl : er2 = 0 := by simpa using he
      clear he
      have bk : decide (k < nos.length) = true := decide_eq_true hlt
      have hnC := (Kd.R_reads' HM.out.nrow).2.2
      obtain ⟨ad, hA5, hcell⟩ := RI.at_ hnC k hlt
      subst hA5
      have hdr : nos.drop k = nos[k] :: nos.drop (k + 1) := List.drop_eq_getElem_cons hlt
      generalize nos[k] = no at hcell hdr
      obtain ⟨v3, hv3, hR3⟩ := HM.out.row
      obtain ⟨A7, c7, hv7⟩ := Kd.R_slice hR3
      subst hv7
      obtain ⟨Ac, hcut, hcr, hcl⟩ := cut_drop A c l (a : Int) (by omega) (by have := hal.out; omega) hc
      rw [Int.toNat_natCast] at hcut hcr hcl
      have hBo := below_then HB1.out HB1.out.size HM.out.bel
      have hRd := ref_Read no Ac (c - a) (l.drop a) wo.drew (hcr _ (RB.below HR.out (below_drew hBo))) hcl (by rw [List.length_drop]; omega)
      have hX9 := HXk.out
      rw [hdr, goOn_step] at hX9
      have hrl := readOf_len no (l.drop a)
      have hre := @readOf_err no (l.drop a)
      generalize readOf no (l.drop a) = r at hRd hX9 hrl hre
      obtain ⟨d, n2, f⟩ := r
      simp only at hX9 hrl hre
      have hn2 : 0 ≤ n2 ∧ n2 ≤ (l.length : Int) - a := by
        have hdl : (l.drop a).length = l.length - a := List.length_drop
        have := hal.out
        by_cases hf : f = 0
        · have := hrl.2 hf
          omega
        · have := hre hf
          omega
      rw [List.drop_drop] at hX9
      obtain ⟨a2, ha2⟩ : ∃ a2 : Nat, a2 = a + n2.toNat := ⟨_, rfl⟩
      rw [← ha2] at hX9
      have e5 : IntKind.i64.wrap ((a : Int) + n2) = (a2 : Int) := by rw [IntKind.wrap_i64]; omega
      have hal2 : Hid (a2 ≤ l.length) := Lib.hid (by omega)
      obtain ⟨dl, hdl⟩ : ∃ dl, dl = l.drop a := ⟨_, rfl⟩
      obtain ⟨cl, hcl2⟩ : ∃ cl, cl = c - a := ⟨_, rfl⟩
      rw [← hdl, ← hcl2] at hcut hRd
      have HRd := Lib.hid hRd
      have HX9 := Lib.hid hX9
      have HR3 := Lib.hid hR3
      clear hRd hX9 hrl hre hn2 hdr hR3 hnC hcr hcl HXk hBo hdl hcl2 ha2
      go_wp2_with fail
      refine start_ (n := 15) (S := fun w' => w'.cell? (ad.add k) = some (.int .i64 no)) (ds := []) #[false, false, false, false, false, false, false, false, false, false, false, false, false, false, false] (by kernel_rfl) rfl rfl (by go_simp) (fun hHeld => ?_)
      refine pure_ (i := 0) (N := some 54) (v := ?_) (a' := ?_) #[true, false, false, false, false, false, false, false, false, false, false, false, false, false, false] rfl rfl (by kernel_rfl) (fun _ _ _ h => h) (Or.inl ⟨by rfl, ?_⟩) ?_ ?_
      rotate_left
      · intro w'
        go_simp
        with_reducible rfl
      rotate_left
      · simp only [Act.put, List.setIfInBounds_toArray, List.set_cons_zero, List.set_cons_succ]
        rfl
      refine pure_ (i := 1) (N := some 55) (v := ?_) (a' := ?_) #[true, true, false, false, false, false, false, false, false, false, false, false, false, false, false] rfl rfl (by kernel_rfl) (fun _ _ _ h => h) (Or.inl ⟨by rfl, ?_⟩) ?_ ?_
      rotate_left
      · intro w'
        go_simp
        with_reducible rfl
      rotate_left
      · simp only [Act.put, List.setIfInBounds_toArray, List.set_cons_zero, List.set_cons_succ]
        rfl
      refine pure_ (i := 2) (N := some 56) (v := ?_) (a' := ?_) #[true, true, true, false, false, false, false, false, false, false, false, false, false, false, false] rfl rfl (by kernel_rfl) (fun _ _ _ h => h) (Or.inl ⟨by rfl, ?_⟩) ?_ ?_
      rotate_left
      · intro w'
        go_simp
        with_reducible rfl
      rotate_left
      · simp only [Act.put, List.setIfInBounds_toArray, List.set_cons_zero, List.set_cons_succ]
        rfl
      refine take_ (i := 3) (N := some 57) (v := ?_) (a' := ?_) #[true, true, true, true, false, false, false, false, false, false, false, false, false, false, false] rfl rfl (by kernel_rfl) (fun _ _ _ h => h) (Or.inl ⟨by rfl, ?_⟩) hHeld ?_ ?_
      rotate_left
      · intro w' s0
        go_simp
        with_reducible rfl
      rotate_left
      · simp only [Act.put, List.setIfInBounds_toArray, List.set_cons_zero, List.set_cons_succ]
        rfl
      refine pure_ (i := 4) (N := some 58) (v := ?_) (a' := ?_) #[true, true, true, true, true, false, false, false, false, false, false, false, false, false, false] rfl rfl (by kernel_rfl) (fun _ _ _ h => h) (Or.inl ⟨by rfl, ?_⟩) ?_ ?_
      rotate_left
      · intro w'
        go_simp
        with_reducible rfl
      rotate_left
      · simp only [Act.put, List.setIfInBounds_toArray, List.set_cons_zero, List.set_cons_succ]
        rfl
      refine pure_ (i := 5) (N := some 59) (v := ?_) (a' := ?_) #[true, true, true, true, true, true, false, false, false, false, false, false, false, false, false] rfl rfl (by kernel_rfl) (fun _ _ _ h => h) (Or.inl ⟨by rfl, ?_⟩) ?_ ?_
      rotate_left
      · intro w'
        go_simp
        with_reducible rfl
      rotate_left
      · simp only [Act.put, List.setIfInBounds_toArray, List.set_cons_zero, List.set_cons_succ]
        rfl
      refine pure_ (i := 6) (N := some 60) (v := ?_) (a' := ?_) #[true, true, true, true, true, true, true, false, false, false, false, false, false, false, false] rfl rfl (by kernel_rfl) (fun _ _ _ h => h) (Or.inl ⟨by rfl, ?_⟩) ?_ ?_
      rotate_left
      · intro w'
        go_simp
        with_reducible rfl
      rotate_left
      · simp only [Act.put, List.setIfInBounds_toArray, List.set_cons_zero, List.set_cons_succ]
        rfl
      refine one_ (i := 7) (N := some 61) #[true, true, true, true, true, true, true, true, false, false, false, false, false, false, false] rfl rfl (by kernel_rfl) (by decide) (fun K hK => ?_)
      refine goes_ Tryd.func39 (by kernel_rfl) rfl #[.int .i64 no, .slice Ac dl.length cl] (by rfl) rfl rfl (by simp only [List.map_toArray, List.map_cons, List.map_nil]; rfl) ?_
      with_reducible refine HRd.out.mono ?_
      rintro e w5 ⟨v5, rfl, hv5, hb5⟩
      refine ⟨_, rfl, ?_⟩
      have hpl0 : w1.heap.size < wo.heap.size := HM.out.lt
      have hb5' : Below wo.heap.size wo w5 := below_step (below_drew (Below.refl _ _)) hb5
      have hM5 := HM.out.below hb5'
      have g2 : w5.cell? ⟨w1.heap.size, 1, none⟩ = some (.slice A7 els.length c7) := (hb5'.cell (p := ⟨w1.heap.size, 1, none⟩) hpl0).trans hv3
      have g3 : w5.frozen? ⟨w1.heap.size, 1, none⟩ = false := hM5.f1
      have hadl0 := World.block_lt_of_cell? _ _ hcell
      have g4 : w5.cell? (ad.add k) = some (.int .i64 no) := (hb5'.cell hadl0).trans hcell
      have hv5' : Kd.R (Kd.int .u8) 5 w5 wo.heap.size (fun _ => True) v5 d := hv5
      obtain ⟨A8, c8, hv8⟩ := Kd.R_slice hv5'
      subst hv8
      refine hK.out _ _ g4 (fun hHeld => ?_)
      clear hK K
      refine norm_ (a' := ?_) ?_ ?_
      rotate_left
      · show Act.put _ (some 61) _ = _
        simp only [Act.put, List.setIfInBounds_toArray, List.set_cons_zero, List.set_cons_succ]
        rfl
      refine pure_ (i := 8) (N := some 53) (v := ?_) (a' := ?_) #[true, true, true, true, true, true, true, true, true, false, false, false, false, false, false] rfl rfl (by kernel_rfl) (fun _ _ _ h => h) (Or.inl ⟨by rfl, ?_⟩) ?_ ?_
      rotate_left
      · intro w'
        go_simp
        with_reducible rfl
      rotate_left
      · simp only [Act.put, List.setIfInBounds_toArray, List.set_cons_zero, List.set_cons_succ]
        rfl
      refine pure_ (i := 9) (N := some 62) (v := ?_) (a' := ?_) #[true, true, true, true, true, true, true, true, true, true, false, false, false, false, false] rfl rfl (by kernel_rfl) (fun _ _ _ h => h) (Or.inl ⟨by rfl, ?_⟩) ?_ ?_
      rotate_left
      · intro w'
        go_simp
        with_reducible rfl
      rotate_left
      · simp only [Act.put, List.setIfInBounds_toArray, List.set_cons_zero, List.set_cons_succ]
        rfl
      refine pure_ (i := 10) (N := some 63) (v := ?_) (a' := ?_) #[true, true, true, true, true, true, true, true, true, true, true, false, false, false, false] rfl rfl (by kernel_rfl) (fun _ _ _ h => h) (Or.inl ⟨by rfl, ?_⟩) ?_ ?_
      rotate_left
      · intro w'
        go_simp
        with_reducible rfl
      rotate_left
      · simp only [Act.put, List.setIfInBounds_toArray, List.set_cons_zero, List.set_cons_succ]
        rfl
      refine pure_ (i := 11) (N := some 64) (v := ?_) (a' := ?_) #[true, true, true, true, true, true, true, true, true, true, true, true, false, false, false] rfl rfl (by kernel_rfl) (fun _ _ _ h => h) (Or.inl ⟨by rfl, ?_⟩) ?_ ?_
      rotate_left
      · intro w'
        go_simp
        with_reducible rfl
      rotate_left
      · simp only [Act.put, List.setIfInBounds_toArray, List.set_cons_zero, List.set_cons_succ]
        rfl
      refine pure_ (i := 12) (N := some 10) (v := ?_) (a' := ?_) #[true, true, true, true, true, true, true, true, true, true, true, true, true, false, false] rfl rfl (by kernel_rfl) (fun _ _ _ h => h) (Or.inl ⟨by rfl, ?_⟩) ?_ ?_
      rotate_left
      · intro w'
        go_simp
        with_reducible rfl
      rotate_left
      · simp only [Act.put, List.setIfInBounds_toArray, List.set_cons_zero, List.set_cons_succ]
        rfl
      refine pure_ (i := 13) (N := some 11) (v := ?_) (a' := ?_) #[true, true, true, true, true, true, true, true, true, true, true, true, true, true, false] rfl rfl (by kernel_rfl) (fun _ _ _ h => h) (Or.inl ⟨by rfl, ?_⟩) ?_ ?_
      rotate_left
      · intro w'
        go_simp
        with_reducible rfl
      rotate_left
      · simp only [Act.put, List.setIfInBounds_toArray, List.set_cons_zero, List.set_cons_succ]
        rfl
      refine pure_ (i := 14) (N := some 12) (v := ?_) (a' := ?_) #[true, true, true, true, true, true, true, true, true, true, true, true, true, true, true] rfl rfl (by kernel_rfl) (fun _ _ _ h => h) (Or.inl ⟨by rfl, ?_⟩) ?_ ?_
      rotate_left
      · intro w'
        go_simp
        with_reducible rfl
      rotate_left
      · simp only [Act.put, List.setIfInBounds_toArray, List.set_cons_zero, List.set_cons_succ]
        rfl
      refine done_ (by kernel_rfl) ?_
      have hR5 : Kd.R kE 26 w5 w1.heap.size (fun k => k ≠ w1.heap.size) (.slice A7 els.length c7) els := Kd.R_below HR3.out hb5'
      have hlt0 := Kd.R_lt HR3.out
      have hO2 : Kd.R (Kd.int .u8) 5 w5.drew w1.heap.size (fun k => wo.heap.size ≤ k) (.slice A8 d.length c8) d := Kd.R_drew (Kd.R_lower (Kd.R_mono (Kd.R_bound hv5') (ok' := fun k => wo.heap.size ≤ k) (fun k hk => hk.2.1)) (Nat.le_of_lt hpl0))
      have HMk : Hid (kE.M w5.drew w1.heap.size (fun k => wo.heap.size ≤ k) (no, d) [.int .i64 no, .slice A8 d.length c8]) := Lib.hid ⟨[.int .i64 no], [.slice A8 d.length c8], rfl, rfl, ⟨_, rfl, hO2⟩⟩
      have HOK : Hid (∀ k, wo.heap.size ≤ k → k ≠ w1.heap.size ∧ some k ≠ (Value.slice A7 els.length c7).ownBlock) := Lib.hid (fun k hk => ⟨by omega, fun e => by have := hlt0 k e.symm; omega⟩)
      have hpl5 : w1.heap.size < w5.heap.size := hM5.lt
      have HFr : Hid (∀ k, w5.drew.heap.size ≤ k → k ≠ w1.heap.size) := Lib.hid (fun k hk => by have : w5.heap.size ≤ k := hk; omega)
      have HNE : Hid (some w1.heap.size ≠ (Value.slice A7 els.length c7).ownBlock) := Lib.hid (fun e => (hR5.1 w1.heap.size e.symm) rfl)
      have HAN : Hid (some (ad.add k).block ≠ (Value.slice A7 els.length c7).ownBlock) := Lib.hid (hM5.apart (k := k) hR5)
      have hadl5 : (ad.add k).block < w5.heap.size := World.block_lt_of_cell? _ _ g4
      have hpl : w1.heap.size < w5.drew.heap.size := hpl5
      have hadl : (ad.add k).block < w5.drew.heap.size := hadl5
      have HBd := Lib.hid (below_drew hM5.bel)
      have HRd5 := Lib.hid (Kd.R_drew hR5)
      have HM5 := Lib.hid (hM5.below (below_drew (Below.refl _ _)))
      have G2 : Hid (w5.drew.cell? ⟨w1.heap.size, 1, none⟩ = some (.slice A7 els.length c7)) := Lib.hid g2
      have G3 : Hid (w5.drew.frozen? ⟨w1.heap.size, 1, none⟩ = false) := Lib.hid g3
      have G4 : Hid (w5.drew.cell? (ad.add k) = some (.int .i64 no)) := Lib.hid g4
      have HEl : Hid (els.length ≤ 127) := Lib.hid (by have := hel.out; omega)
      clear hv5 hv5' hb5 hb5' hM5 hR5 hlt0 hO2 HRd HR3 hv3 hcell
      go_wp2_with fail
      refine start_ (n := 12) (S := fun w' => w'.cell? ⟨w1.heap.size, 1, none⟩ = some (.slice A7 els.length c7) ∧ w'.cell? (ad.add k) = some (.int .i64 no)) (ds := [11]) #[false, false, false, false, false, false, false, false, false, false, false, false] (by kernel_rfl) rfl rfl ⟨by go_simp, by go_simp⟩ (fun hHeld => ?_)
      refine pure_ (i := 0) (N := some 65) (v := ?_) (a' := ?_) #[true, false, false, false, false, false, false, false, false, false, false, false] rfl rfl (by kernel_rfl) (fun _ _ _ h => h) (Or.inl ⟨by rfl, ?_⟩) ?_ ?_
      rotate_left
      · intro w'
        go_simp
        with_reducible rfl
      rotate_left
      · simp only [Act.put, List.setIfInBounds_toArray, List.set_cons_zero, List.set_cons_succ]
        rfl
      refine take_ (i := 1) (N := some 66) (v := ?_) (a' := ?_) #[true, true, false, false, false, false, false, false, false, false, false, false] rfl rfl (by kernel_rfl) (fun _ _ _ h => h) (Or.inl ⟨by rfl, ?_⟩) hHeld ?_ ?_
      rotate_left
      · rintro w' ⟨s0, s1⟩
        go_simp
        with_reducible rfl
      rotate_left
      · simp only [Act.put, List.setIfInBounds_toArray, List.set_cons_zero, List.set_cons_succ]
        rfl
      refine pure_ (i := 2) (N := some 67) (v := ?_) (a' := ?_) #[true, true, true, false, false, false, false, false, false, false, false, false] rfl rfl (by kernel_rfl) (fun _ _ _ h => h) (Or.inl ⟨by rfl, ?_⟩) ?_ ?_
      rotate_left
      · intro w'
        go_simp
        with_reducible rfl
      rotate_left
      · simp only [Act.put, List.setIfInBounds_toArray, List.set_cons_zero, List.set_cons_succ]
        rfl
      refine pure_ (i := 3) (N := some 68) (v := ?_) (a' := ?_) #[true, true, true, true, false, false, false, false, false, false, false, false] rfl rfl (by kernel_rfl) (fun _ _ _ h => h) (Or.inl ⟨by rfl, ?_⟩) ?_ ?_
      rotate_left
      · intro w'
        go_simp
        with_reducible rfl
      rotate_left
      · simp only [Act.put, List.setIfInBounds_toArray, List.set_cons_zero, List.set_cons_succ]
        rfl
      refine pure_ (i := 4) (N := some 69) (v := ?_) (a' := ?_) #[true, true, true, true, true, false, false, false, false, false, false, false] rfl rfl (by kernel_rfl) (fun _ _ _ h => h) (Or.inl ⟨by rfl, ?_⟩) ?_ ?_
      rotate_left
      · intro w'
        go_simp
        with_reducible rfl
      rotate_left
      · simp only [Act.put, List.setIfInBounds_toArray, List.set_cons_zero, List.set_cons_succ]
        rfl
      refine take_ (i := 5) (N := some 70) (v := ?_) (a' := ?_) #[true, true, true, true, true, true, false, false, false, false, false, false] rfl rfl (by kernel_rfl) (fun _ _ _ h => h) (Or.inl ⟨by rfl, ?_⟩) hHeld ?_ ?_
      rotate_left
      · rintro w' ⟨s0, s1⟩
        go_simp
        with_reducible rfl
      rotate_left
      · simp only [Act.put, List.setIfInBounds_toArray, List.set_cons_zero, List.set_cons_succ]
        rfl
      refine pure_ (i := 6) (N := some 71) (v := ?_) (a' := ?_) #[true, true, true, true, true, true, true, false, false, false, false, false] rfl rfl (by kernel_rfl) (fun _ _ _ h => h) (Or.inl ⟨by rfl, ?_⟩) ?_ ?_
      rotate_left
      · intro w'
        go_simp
        with_reducible rfl
      rotate_left
      · simp only [Act.put, List.setIfInBounds_toArray, List.set_cons_zero, List.set_cons_succ]
        rfl
      refine pure_ (i := 7) (N := some 72) (v := ?_) (a' := ?_) #[true, true, true, true, true, true, true, true, false, false, false, false] rfl rfl (by kernel_rfl) (fun _ _ _ h => h) (Or.inl ⟨by rfl, ?_⟩) ?_ ?_
      rotate_left
      · intro w'
        go_simp
        with_reducible rfl
      rotate_left
      · simp only [Act.put, List.setIfInBounds_toArray, List.set_cons_zero, List.set_cons_succ]
        rfl
      refine one_ (i := 8) (N := some 73) #[true, true, true, true, true, true, true, true, true, false, false, false] rfl rfl (by kernel_rfl) (by decide) (fun K hK => ?_)
      refine value_ (w1 := ?_) (v := ?_) (by rfl) rfl ?_ ?_
      rotate_left 2
      · go_simp
        constructor
        · rfl
        · rfl
      refine hK.out _ _ ⟨by go_simp, by go_simp⟩ (fun hHeld => ?_)
      clear hK K
      refine norm_ (a' := ?_) ?_ ?_
      rotate_left
      · show Act.put _ (some 73) _ = _
        simp only [Act.put, List.setIfInBounds_toArray, List.set_cons_zero, List.set_cons_succ]
        rfl
      refine one_ (i := 9) (N := some 74) #[true, true, true, true, true, true, true, true, true, true, false, false] rfl rfl (by kernel_rfl) (by decide) (fun K hK => ?_)
      refine Kd.R_append_step kE (w0 := w1) w1.heap.size (by rfl) (.tmp 66) (.tmp 73) 44 26 (.agg #[.int .i64 0, .slice none 0 0]) 32 rfl Tryd.underlying44 info_elt rfl (by decide) (by omega) (.slice A7 els.length c7) els (no, d) [.int .i64 no, .slice A8 d.length c8] (fun k => k ≠ w1.heap.size) (fun k => wo.heap.size ≤ k) rfl rfl HMk.out HOK.out HFr.out HRd5.out HBd.out HBd.out.size (by have := HEl.out; omega) ?_
      intro v6 w6 ho6 hb6 hg6 hat6
      clear hat6
      obtain ⟨A6, c6, hv6⟩ := Kd.R_slice ho6
      subst hv6
      have m0 : w6.cell? ⟨w1.heap.size, 1, none⟩ = some (.slice A7 els.length c7) := (hg6.cell_far ⟨w1.heap.size, 1, none⟩ hpl HNE.out).trans G2.out
      have m1 : w6.frozen? ⟨w1.heap.size, 1, none⟩ = false := (hg6.frozen_far ⟨w1.heap.size, 1, none⟩ hpl HNE.out).trans G3.out
      have m2 : w6.cell? (ad.add k) = some (.int .i64 no) := (hg6.cell_far (ad.add k) hadl HAN.out).trans G4.out
      have HO6 := Lib.hid ho6
      have HB6 := Lib.hid hb6
      have HG6 := Lib.hid hg6
      clear ho6 hb6 hg6
      refine hK.out _ _ ⟨m0, m2⟩ (fun hHeld => ?_)
      clear hK K
      refine norm_ (a' := ?_) ?_ ?_
      rotate_left
      · show Act.put _ (some 74) _ = _
        simp only [Act.put, List.setIfInBounds_toArray, List.set_cons_zero, List.set_cons_succ]
        rfl
      refine pure_ (i := 10) (N := some 75) (v := ?_) (a' := ?_) #[true, true, true, true, true, true, true, true, true, true, true, false] rfl rfl (by kernel_rfl) (fun _ _ _ h => h) (Or.inl ⟨by rfl, ?_⟩) ?_ ?_
      rotate_left
      · intro w'
        go_simp
        with_reducible rfl
      rotate_left
      · simp only [Act.put, List.setIfInBounds_toArray, List.set_cons_zero, List.set_cons_succ]
        rfl
      refine last_ (i := 11) (N := none) #[true, true, true, true, true, true, true, true, true, true, true, true] rfl rfl (by kernel_rfl) (by decide) (fun K hK => ?_)
      refine skip_ (w1 := ?_) (by rfl) rfl ?_ ?_
      rotate_left
      · go_simp
        rfl
      refine hK.out _ _ ?_
      clear hK K
      refine done_ (by kernel_rfl) ?_
      go_wp2_with fail
      have e6 : (els ++ [(no, d)]).length = els.length + 1 := by simp
      have hR6 := HO6.out
      rw [e6] at hR6
      have hpush := HM5.out.push G2.out HRd5.out hR6 HB6.out HG6.out
      exact ⟨⟨k + 1, a2, f, els ++ [(no, d)], hlt, rfl, rfl, rfl, hal2, Lib.hid (by rw [List.length_append, List.length_singleton]; have := hel.out; omega), HX9, Lib.hid hpush⟩, by simp [intOf]; omega⟩
    · obtain rfl : k = nos.length := by omega
      by_cases he : er2 ≠ 0
      · have HXe : Hid (X = (⟨#[]⟩, [], er2)) := Lib.hid (by rw [HXk.out, goOn, if_pos he])
        have be1 : (er2 == 0) = false := beq_eq_false_iff_ne.2 he
        have be2 : (er2 != 0) = true := bne_iff_ne.2 he
        have HBx := Lib.hid (below_then HB1.out HB1.out.size HM.out.bel)
        obtain ⟨z0, z1, z2, z3⟩ := HZ1.out.below HM.out.bel
        clear he HXk
        go_wp2_with fail
        rw [HXe.out]
        refine bodyPost_ret (v := .tuple #[.agg #[.string ⟨#[]⟩, .slice none 0 0], .int .i64 er2]) (by simp [results, Tryd.results20, go_sem, z0, z1]) rfl (ParsePost.none_ ?_)
        exact ((HBx.out).setCell (Nat.le_refl _) _).setCell (Nat.le_refl _) _
      obtain rfl : er2 = 0 := by simpa using he
      have hX9 := HXk.out
      rw [List.drop_length] at hX9
      unfold goOn at hX9
      rw [if_neg he, eachOf] at hX9
      simp only at hX9
      rw [if_neg (fun h => h rfl), List.length_drop] at hX9
      have HBx := Lib.hid (below_then HB1.out HB1.out.size HM.out.bel)
      obtain ⟨z0, z1, z2, z3⟩ := HZ1.out.below HM.out.bel
      clear he HXk
      by_cases hat : a < l.length
      · rw [if_pos (by omega)] at hX9
        have HXe := Lib.hid hX9
        have b5 : decide (a < l.length) = true := decide_eq_true hat
        clear hX9 hat
        go_wp2_with fail
        rw [HXe.out]
        refine bodyPost_ret (v := .tuple #[.agg #[.string ⟨#[]⟩, .slice none 0 0], .int .i64 17]) (by simp [results, Tryd.results20, go_sem, z0, z1]) rfl (ParsePost.none_ ?_)
        exact ((HBx.out).setCell (Nat.le_refl _) _).setCell (Nat.le_refl _) _
      rw [if_neg (by omega)] at hX9
      have HXe := Lib.hid hX9
      have b5 : decide (a < l.length) = false := decide_eq_false hat
      obtain ⟨v3, hv3, hR3⟩ := HM.out.row
      have hc0 := HM.out.c0
      obtain ⟨A7, c7, hv7⟩ := Kd.R_slice hR3
      subst hv7
      have HR3 := Lib.hid hR3
      clear hX9 hat hR3
      go_wp2_with fail
      rw [HXe.out]
      refine bodyPost_ret (v := .tuple #[.agg #[.string s, .slice A7 els.length c7], .int .i64 0]) (by simp [results, Tryd.results20, go_sem, z0, z1]) rfl ⟨_, rfl, ?_, ?_⟩
      · exact Kd.R_mono (Kd.R_lower (Kd.R_far (Kd.R_far (Kd.R_mono (Kd.R_bound HR3.out) (ok' := fun k => w1.heap.size ≤ k) (fun k hk => hk.2.1)) (fun k hk => by have : w1.heap.size ≤ k := hk; show k ≠ w.heap.size; omega) _) (fun k hk => by have : w1.heap.size ≤ k := hk; show k ≠ w.heap.size; omega) _) (Nat.le_of_lt hz1)) (fun _ _ => trivial)
      · exact ((HBx.out).setCell (Nat.le_refl _) _).setCell (Nat.le_refl _) _
end Go.Proofs.YtonhmaklnkidhaaDoor.G

namespace Go.Proofs.YtonhmaklnkidhaaDoor.G
open Go.RowKit Go.Proofs.YtonhmaklnkidhaaDoorW.PrintWords

/-! ### a copy with room behind it -/
structure Room (w : World) (B g cap : Nat) (l : List Int) : Prop where
  hB : B ≤ g
  hg : g < w.heap.size
  hl : l.length ≤ cap
  hm : cap ≤ 9223372036854775807
  sp : ∀ j, j < cap → (w.cell? ⟨g, j, none⟩).isSome = true ∧ w.frozen? ⟨g, j, none⟩ = false
  cells : ∀ j (h : j < l.length), w.cell? ⟨g, j, none⟩ = some (.int .u8 l[j])
theorem Room.below {w w1 : World} {B g cap : Nat} {l : List Int} (h : Room w B g cap l) (hb : Below w.heap.size w w1) : Room w1 B g cap l :=
  ⟨h.hB, Nat.lt_of_lt_of_le h.hg hb.size, h.hl, h.hm, fun j hj => by rw [hb.cell (p := ⟨g, j, none⟩) h.hg, hb.frozen (p := ⟨g, j, none⟩) h.hg]; exact h.sp j hj, fun j hj => (hb.cell (p := ⟨g, j, none⟩) h.hg).trans (h.cells j hj)⟩
theorem Room.reads {w : World} {B g cap : Nat} {l : List Int} (h : Room w B g cap l) (n : Nat) (hn : n ≤ l.length) : RB w (some ⟨g, 0, none⟩) (l.take n) := by
  have e : (l.take n).length = n := by rw [List.length_take]; omega
  have hl := h.hl
  have hm := h.hm
  refine Kd.C_of_reads (enc := Value.int .u8) (d := (0 : Int)) (h1 := fun _ => rfl) ⟨rfl, by omega, fun _ => ⟨_, rfl, fun j hj => ?_⟩⟩
  rw [e] at hj
  rw [add_plain, h.cells j (by omega)]
  simp [List.getD_eq_getElem?_getD, hj, Nat.lt_of_lt_of_le hj hn]
theorem Room.brow {w : World} {B g cap : Nat} {l : List Int} (h : Room w B g cap l) : BRow w B (.slice (some ⟨g, 0, none⟩) l.length cap) l :=
  .inr ⟨g, cap, rfl, h.hB, h.hg, h.hl, Nat.le_trans h.hl h.hm, h.sp, h.cells⟩
theorem Room.new (w : World) (n : Nat) (hn : n ≤ 9223372036854775807) : Room (w.alloc (.cells (madeCells #[.int .u8 0] n) 5)) w.heap.size w.heap.size n [] := by
  refine ⟨Nat.le_refl _, by simp, Nat.zero_le _, hn, fun j hj => ⟨?_, ?_⟩, fun j hj => by cases hj⟩
  · rw [World.cell?_alloc_new]
    simp [madeCells, hj]
  · rw [World.frozen?_alloc_new]
theorem Room.put {w : World} {B g cap : Nat} {l : List Int} (h : Room w B g cap l) (x : Int) (hc : l.length < cap) : Room (w.setCell ⟨g, l.length, none⟩ (.int .u8 x)) B g cap (l ++ [x]) := by
  refine ⟨h.hB, by simp [World.setCell]; exact h.hg, by rw [List.length_append, List.length_singleton]; omega, h.hm, fun j hj => ⟨?_, ?_⟩, fun j hj => ?_⟩
  · obtain ⟨u, hu⟩ := Option.isSome_iff_exists.mp (h.sp j hj).1
    obtain ⟨u', hu'⟩ := cell?_setCell_some (p := ⟨g, l.length, none⟩) (x := .int .u8 x) hu
    rw [hu']
    rfl
  · rw [World.frozen?_setCell]
    exact (h.sp j hj).2
  · rw [List.length_append, List.length_singleton] at hj
    by_cases e : j = l.length
    · subst e
      obtain ⟨u, hu⟩ := Option.isSome_iff_exists.mp (h.sp l.length hc).1
      rw [World.cell?_setCell_same _ _ _ hu]
      simp
    · rw [World.cell?_setCell_other _ _ _ _ (by first | (simp; done) | (simp; omega)), h.cells j (by omega), List.getElem_append_left (by omega)]
section
variable {ops : Array Oper} {rest : List Oper} {o : Oper} {a : Act} {Q : Exit → Act → World → Prop}
set_option maxRecDepth 100000 in
/-- append(v, xs...) where there is room -/
theorem wpList_room_append (W : World) (hgd : o.guard = none) (s x : Operand) (ho : o.op = .call { callee := .builtin .append, args := #[s, x], argTypes := #[22, 22] })
    (B g cap : Nat) (l : List Int) (hs : a.eval s = .slice (some ⟨g, 0, none⟩) l.length cap) (HB : Room W B g cap l) (A : Option Addr) (c : Nat) (M : List Int) (hx : a.eval x = .slice A M.length c) (hr : RB W A M)
    (hfit : l.length + M.length ≤ cap) (hl : l.length + M.length ≤ 140737488355328)
    (h : ∀ w1, Room w1 B g cap (l ++ M) → Below B W w1 → wpList Tryd.prog ops Q rest (a.put o.dst (.slice (some ⟨g, 0, none⟩) (l.length + M.length) cap)) w1) :
    wpList Tryd.prog ops Q (o :: rest) a W := by
  obtain ⟨i0, hi, hz0, hz1, hz2⟩ := info_parts info_u8
  obtain ⟨hB, hg, hc, hm, hsp, hcell⟩ := HB
  rcases A with _ | ad
  · have h0 : M.length = 0 := by
      rcases Nat.eq_zero_or_pos M.length with h0 | h0
      · exact h0
      · obtain ⟨ad, h, _⟩ := hr.2.2 h0
        cases h
    obtain rfl : M = [] := List.eq_nil_of_length_eq_zero h0
    have hrun : (Builtin.append_ #[22, 22] o.type #[.slice (some ⟨g, 0, none⟩) l.length cap, .slice none 0 c]).run Tryd.prog W = .ok (.slice (some ⟨g, 0, none⟩) l.length cap) W := by
      simp [Builtin.append_, run_underlying Tryd.underlying22, sizeOf, typeInfo, hi, Builtin.lenOf, Builtin.firstCells, hc, storeCells]
    refine wpList_plain hgd fun K hK => ?_
    unfold Oper.wp execOp
    simp only [ho, resolve, invoke, builtin, Sem.run_bind, Sem.run_pure, Result.andThen_ok, List.map_toArray, List.map_cons, List.map_nil, hs, hx, List.length_nil, hrun]
    exact hK _ _ (h W (by rw [List.append_nil]; exact ⟨hB, hg, hc, hm, hsp, hcell⟩) (Below.refl _ _))
  · have hrd := Kd.reads_of_C (enc := Value.int .u8) (d := (0 : Int)) (h1 := fun _ => rfl) hr
    have hnews : ∀ j u, (nums .u8 M)[j]? = some u → W.cell? (ad.add j) = some u := by
      intro j u hu
      have hj : j < M.length := by
        have := (List.getElem?_eq_some_iff.1 hu).1
        simpa [nums] using this
      obtain ⟨ad', e, hcl⟩ := hrd.2.2 (by omega)
      injection e with e
      subst e
      rw [hcl j hj, ← hu]
      simp [nums, List.getD_eq_getElem?_getD, hj]
    refine wpList_append_arg W hgd s x 22 ho 5 i0 (.int .u8 0) 1 1 Tryd.underlying22 hi hz0 hz1 hz2 rfl (by decide) g 0 l.length cap (nums .u8 l) hs (by simp [nums]) (fun j u hu => ?_) ad M.length c (nums .u8 M) hx (by simp [nums]) hnews (fun u hu => by simp [nums] at hu; obtain ⟨x, _, rfl⟩ := hu; rfl) (fun hroom j hj => ?_) (by simp only [maxLen]; omega) (by omega) (fun hroom => ?_) (fun hfull v1 w1 ho1 hgr => absurd hfit (by omega))
    · have hj : j < l.length := by
        have := (List.getElem?_eq_some_iff.1 hu).1
        simpa [nums] using this
      rw [Nat.zero_add, hcell j hj, ← hu]
      simp [nums, hj]
    · have hj' : j < M.length := by simpa [nums] using hj
      exact hsp (0 + l.length * 1 + j) (by omega)
    · have hlen : (nums .u8 M).length = M.length := by simp [nums]
      refine h _ ⟨hB, Nat.lt_of_lt_of_le hg (grown_setCells g _ _ W).size, by rw [List.length_append]; exact hfit, hm, fun j hj => ⟨some_setCells g _ _ W _ (hsp j hj).1, by rw [World.frozen?_setCells]; exact (hsp j hj).2⟩, fun j hj => ?_⟩ ?_
      · rw [List.length_append] at hj
        by_cases hjl : j < l.length
        · rw [World.cell?_setCells_out g _ _ _ _ (fun _ _ => .inl (by show j < 0 + l.length * 1; omega)), hcell j hjl, List.getElem_append_left hjl]
        · obtain ⟨q, rfl⟩ : ∃ q, j = 0 + l.length * 1 + q := ⟨j - l.length, by omega⟩
          rw [World.cell?_setCells_in g _ _ W (fun p hp => (hsp _ (by rw [hlen] at hp; omega)).1) q (by rw [hlen]; omega)]
          have e1 : 0 + l.length * 1 + q - l.length = q := by omega
          simp [nums, List.getElem_append, show ¬ (0 + l.length * 1 + q < l.length) by omega, e1]
      · exact ⟨(grown_setCells g _ _ W).os, (grown_setCells g _ _ W).tape, (grown_setCells g _ _ W).output, (grown_setCells g _ _ W).size, fun k hk => (grown_setCells g _ _ W).block k (by omega) (by intro e; injection e with e; omega)⟩
end
theorem cut_room (g n c : Nat) (j : Int) (h0 : 0 ≤ j) (hj : j ≤ c) : ∀ W : World, (Instr.slice 22 (.slice (some ⟨g, 0, none⟩) n c) none (some (.int .i64 j)) none).run Tryd.prog W = .ok (.slice (some ⟨g, 0, none⟩) j.toNat c) W := by
  intro W
  obtain ⟨i0, hi, _, hsz, _⟩ := info_parts info_u8
  have hel : Tryd.prog.elem 22 = 5 := by simp [Program.elem, Tryd.underlying22]
  have hu : Tryd.prog.underlying 22 = some (.slice (Tryd.prog.elem 22)) := by rw [hel]; exact Tryd.underlying22
  rw [run_slice_h W 22 (some ⟨g, 0, none⟩) n c hu .i64 j h0 hj, hel]
  simp [sizeOf, typeInfo, hi, sliced, Addr.add]
set_option maxHeartbeats 3200000 in
set_option maxRecDepth 100000 in
theorem help_Own (A : Option Addr) (c : Nat) (l : List Int) (w : World) (hr : RB w A l) (hl : l.length ≤ 100000) :
    Calls Tryd.prog 18 #[.slice A l.length c, .int .u8 71] w fun e w' => (∃ g, e = .returned (.slice (some ⟨g, 0, none⟩) l.length (l.length + 3)) ∧ Room w' w.heap.size g (l.length + 3) (l ++ [71, 71, 71])) ∧ Below w.heap.size w w' := by
  obtain ⟨n3, hn3⟩ : ∃ n3, n3 = l.length + 3 := ⟨_, rfl⟩
  obtain ⟨n, hn⟩ : ∃ n, n = l.length := ⟨_, rfl⟩
  have e1 : IntKind.i64.wrap ((n : Int) + 3) = (n3 : Int) := by rw [IntKind.wrap_i64]; omega
  have hmk : ∀ W : World, (Instr.makeSlice 22 (.int .i64 0) (.int .i64 (n3 : Int))).run Tryd.prog W = .ok (.slice (some ⟨W.heap.size, 0, none⟩) 0 n3) (W.alloc (.cells (madeCells #[.int .u8 0] n3) 5)) := by
    intro W
    obtain ⟨i0, hi, hz0, hz1, hz2⟩ := info_parts info_u8
    have h := run_makeSlice (P := Tryd.prog) (w := W) 22 5 i0 (.int .u8 0) Tryd.underlying22 hi hz0 .i64 .i64 0 (n3 : Int) (by decide) (by omega) (by rw [hz1, Int.toNat_natCast]; omega) (by rw [hz2]; omega) (by omega)
    rw [hz1] at h
    simp at h
    exact h
  have hcut := cut_room w.heap.size n n3 (n3 : Int) (by omega) (Int.le_refl _)
  rw [Int.toNat_natCast] at hcut
  have HR := Lib.hid hr
  have HN3 := Lib.hid hn3
  have HN := Lib.hid hn
  rw [← hn3, ← hn]
  have hnn : n ≤ 100000 := by omega
  have hn9 : n3 ≤ 9223372036854775807 := by omega
  clear hr hn3 hn
  go_enter Tryd.func18, Tryd.ntmps18
  go_wp2_with ((with_reducible refine gate_dst (N := 14) rfl ?_); rw [HN.out]; refine wpList_room_append (w.alloc (.cells (madeCells #[.int .u8 0] n3) 5)) rfl (.tmp 12) (.tmp 13) rfl w.heap.size w.heap.size n3 [] rfl (Room.new w n3 hn9) A c l rfl (Kd.C_alloc HR.out _) (by have := HN3.out; simp; omega) (by simp; omega) ?_; intro w1 hR1 hb1; simp only [List.length_nil, Nat.zero_add, List.nil_append] at hR1 ⊢; rw [← HN.out]; have HR1 := Lib.hid hR1; have HB1 := Lib.hid ((below_alloc (Below.refl w.heap.size w) _).trans hb1); clear hR1 hb1)
  have HM0 : Hid (Room w1 w.heap.size w.heap.size n3 (l ++ List.replicate (n - n) 71)) := by rw [Nat.sub_self, List.replicate_zero, List.append_nil]; exact HR1
  go_loopw [7] (fun v7 wr => ∃ m : Nat, n ≤ m ∧ m ≤ n3 ∧ v7 = .int .i64 (m : Int) ∧ Hid (Room wr w.heap.size w.heap.size n3 (l ++ List.replicate (m - n) 71)) ∧ Hid (Below w.heap.size w wr)) (fun v _ => n3 - (intOf v).toNat)
  case atStart => exact ⟨n, Nat.le_refl _, by have := HN3.out; have := HN.out; omega, rfl, HM0, HB1⟩
  case round =>
    obtain ⟨m, hm1, hm2, rfl, hR, hbel⟩ := hrel
    obtain ⟨wo, rfl⟩ : ∃ wo : World, wo = wr := ⟨_, rfl⟩
    by_cases hlt : m < n3
    · obtain ⟨hs1, hs2⟩ := hR.out.sp m hlt
      obtain ⟨u, hu⟩ := Option.isSome_iff_exists.mp hs1
      have hlen : (l ++ List.replicate (m - n) (71 : Int)).length = m := by rw [List.length_append, List.length_replicate, ← HN.out]; omega
      have hput := hR.out.put 71 (by rw [hlen]; exact hlt)
      rw [hlen] at hput
      have hl2 : (l ++ List.replicate (m - n) (71 : Int)) ++ [71] = l ++ List.replicate (m + 1 - n) 71 := by
        have e : m + 1 - n = (m - n) + 1 := by omega
        rw [e, List.replicate_succ', List.append_assoc]
      rw [hl2] at hput
      have HPut := Lib.hid hput
      have HBs := Lib.hid (below_set hbel.out (Nat.le_refl _) (j := m) (v := .int .u8 71))
      have e8 : IntKind.i64.wrap ((m : Int) + 1) = (m : Int) + 1 := by rw [IntKind.wrap_i64]; omega
      clear hs1 hlen hput hl2
      go_wp2_with fail
      exact ⟨⟨m + 1, by omega, by omega, rfl, HPut, HBs⟩, by simp [intOf]; omega⟩
    · obtain rfl : m = n3 := by omega
      have hf : l ++ List.replicate (m - n) (71 : Int) = l ++ [71, 71, 71] := by
        have e : m - n = 3 := by have := HN3.out; have := HN.out; omega
        rw [e]
        rfl
      have hR2 := hR.out
      rw [hf] at hR2
      have HR2 := Lib.hid hR2
      clear hR hR2 hf
      go_wp2_with fail
      go_ret
      exact ⟨⟨_, rfl, HR2.out⟩, hbel.out⟩
set_option maxHeartbeats 800000 in
set_option maxRecDepth 100000 in
theorem help_eq (x : Int) (w : World) : Calls Tryd.prog 66 #[.int .u8 x, .int .u8 x] w fun e w' => e = .returned (.bool true) ∧ w = w' := by
  have b1 : (x == x) = true := by simp
  go_enter Tryd.func66, Tryd.ntmps66
  go_wp2_with fail
  go_ret
  exact ⟨rfl, rfl⟩
set_option maxHeartbeats 3200000 in
set_option maxRecDepth 100000 in
theorem help_Same8 (A B : Option Addr) (c c' : Nat) (l : List Int) (w : World) (ha : RB w A l) (hb : RB w B l) :
    Calls Tryd.prog 65 #[.slice A l.length c, .slice B l.length c', .func (.func 66) #[] #[]] w fun e w' => e = .returned (.bool true) ∧ Below w.heap.size w w' := by
  have eg : ∀ args w, (callFunc 66 args).run Tryd.prog w = .ok (.enter 66 args) w := enters_of Tryd.func66 (by kernel_rfl) rfl
  have hmax : l.length ≤ 9223372036854775807 := Kd.C_max ha
  have HA := Lib.hid ha
  have HB := Lib.hid hb
  have b1 : ((l.length : Int) != (l.length : Int)) = false := by simp
  clear ha hb
  go_enter Tryd.func65, Tryd.ntmps65
  go_wp2_with fail
  go_loopw [7] (fun v7 wr => ∃ k : Nat, k ≤ l.length ∧ v7 = .int .i64 k ∧ Hid (Below w.heap.size w wr)) (fun v _ => l.length - (intOf v).toNat)
  case atStart => exact ⟨0, Nat.zero_le _, rfl, Lib.hid (Below.refl _ _)⟩
  case round =>
    obtain ⟨k, hk, rfl, hbel⟩ := hrel
    obtain ⟨wo, rfl⟩ : ∃ wo : World, wo = wr := ⟨_, rfl⟩
    by_cases hlt : k < l.length
    · obtain ⟨ad, rfl, x0⟩ := RB.at_ (RB.below HA.out hbel.out) k hlt
      obtain ⟨bd, rfl, y0⟩ := RB.at_ (RB.below HB.out hbel.out) k hlt
      generalize l[k] = x at x0 y0
      go_wp2_with fail
      go_region_held3 (fun w' => w'.cell? (ad.add k) = some (.int .u8 x) ∧ w'.cell? (bd.add k) = some (.int .u8 x) ∧ Below wo.heap.size wo w')
          (first
            | ((try dsimp only); first | assumption | (go_split_ands; exact ⟨by assumption, by assumption, by assumption⟩))
            | (exact ⟨by go_simp, by go_simp, below_drew (Below.refl _ _)⟩))
          (first
            | (go_at_call 66; with_reducible refine (help_eq x _).mono ?_; rintro e w' ⟨rfl, rfl⟩))
      all_goals
        go_split_ands
        go_wp2_with fail
        exact ⟨⟨k + 1, hlt, rfl, Lib.hid (below_then hbel.out hbel.out.size (by assumption))⟩, by simp [intOf]; omega⟩
    · obtain rfl : k = l.length := by omega
      go_wp2_with fail
      go_ret
      exact ⟨rfl, hbel.out⟩
set_option maxHeartbeats 800000 in
set_option maxRecDepth 100000 in
theorem help_Plain8 (A B : Option Addr) (c c' : Nat) (l : List Int) (w : World) (ha : RB w A l) (hb : RB w B l) :
    Calls Tryd.prog 46 #[.slice A l.length c, .slice B l.length c'] w fun e w' => e = .returned (.bool true) ∧ Below w.heap.size w w' := by
  have H := Lib.hid (help_Same8 A B c c' l w ha hb)
  clear ha hb
  go_enter Tryd.func46, Tryd.ntmps46
  go_wp2_with fail
  refine H.out.mono ?_
  rintro e w1 ⟨rfl, hb1⟩
  dsimp only
  go_wp2_with fail
  go_ret
  exact ⟨rfl, hb1⟩
set_option maxHeartbeats 3200000 in
set_option maxRecDepth 100000 in
theorem help_Kept (g : Nat) (A : Option Addr) (c : Nat) (l : List Int) (B : Nat) (w : World) (hR : Room w B g (l.length + 3) (l ++ [71, 71, 71])) (hr : RB w A l) (hl : l.length ≤ 100000) :
    Calls Tryd.prog 25 #[.slice (some ⟨g, 0, none⟩) l.length (l.length + 3), .slice A l.length c, .int .u8 71] w fun e w' => e = .returned (.bool true) ∧ Below w.heap.size w w' := by
  obtain ⟨n3, hn3⟩ : ∃ n3, n3 = l.length + 3 := ⟨_, rfl⟩
  have hin : RB w (some ⟨g, 0, none⟩) l := by
    have h := hR.reads l.length (by rw [List.length_append]; omega)
    rwa [List.take_left] at h
  have hc71 : ∀ m, l.length ≤ m → m < n3 → w.cell? ⟨g, m, none⟩ = some (.int .u8 71) := fun m h1 h2 => by
    rw [hR.cells m (by rw [List.length_append]; simp; omega), List.getElem_append_right h1]
    have : ∀ (i : Nat) (hi : i < 3), ([71, 71, 71] : List Int)[i]'(by simpa using hi) = 71 := by decide
    rw [this _ (by omega)]
  have HP := Lib.hid (help_Plain8 (some ⟨g, 0, none⟩) A (l.length + 3) c l w hin hr)
  rw [← hn3] at HP ⊢
  have hg := hR.hg
  obtain ⟨n, hn⟩ : ∃ n, n = l.length := ⟨_, rfl⟩
  rw [← hn] at HP hc71 ⊢
  have e1 : IntKind.i64.wrap ((n : Int) + 3) = (n3 : Int) := by rw [IntKind.wrap_i64]; omega
  have b1 : decide ((n3 : Int) < (n3 : Int)) = false := decide_eq_false (by omega)
  have hcut := cut_room g n n3 (n3 : Int) (by omega) (Int.le_refl _)
  rw [Int.toNat_natCast] at hcut
  have HC := Lib.hid hc71
  have hnn : n ≤ n3 := by omega
  have hn9 : n3 ≤ 200000 := by omega
  clear hR hr hl hin hc71 hn3 hn
  go_enter Tryd.func25, Tryd.ntmps25
  go_wp2_with fail
  refine HP.out.mono ?_
  rintro e w1 ⟨rfl, hb1⟩
  have HB1 := Lib.hid hb1
  clear hb1 HP
  dsimp only
  go_wp2_with fail
  go_loop [8] (fun v8 => ∃ m : Nat, n ≤ m ∧ m ≤ n3 ∧ v8 = .int .i64 (m : Int)) (fun v => n3 - (intOf v).toNat)
  case atStart => exact ⟨n, Nat.le_refl _, hnn, rfl⟩
  case round =>
    obtain ⟨m, hm1, hm2, rfl⟩ := hrel
    by_cases hlt : m < n3
    · have hcell : w1.cell? ⟨g, m, none⟩ = some (.int .u8 71) := (HB1.out.cell (p := ⟨g, m, none⟩) hg).trans (HC.out m hm1 hlt)
      go_wp2_with fail
      go_round
      case rel => exact ⟨m + 1, by omega, by omega, by go_num⟩
      case measure => simp [intOf]; omega
    · obtain rfl : m = n3 := by omega
      go_wp2_with fail
      go_ret
      exact ⟨rfl, HB1.out⟩
end Go.Proofs.YtonhmaklnkidhaaDoor.G

namespace Go.Proofs.YtonhmaklnkidhaaDoor.G
open Go.RowKit Go.Proofs.YtonhmaklnkidhaaDoorW.PrintWords

set_option maxHeartbeats 6400000 in
set_option maxRecDepth 100000 in
theorem tells_law (w : World) (Ab : Option Addr) (cb : Nat) (b : List Int) (hb : RB w Ab b) (hbc : b.length ≤ cb) (hbB : Byt b) (_ : b.length ≤ maxLen)
    (mti : ByteArray) (A : Option Addr) (c : Nat) (fs : List (Int × List Int)) (hC : Kd.C kE w A fs.length fs) (_ : fs.length ≤ c) (hmti : mti.size ≤ maxLen) (hfs : ∀ y ∈ fs, (Lit.int .i64 y.1).wf = true ∧ Byt y.2 ∧ y.2.length ≤ maxLen) (P : Pow w) :
    Calls Tryd.prog 6 #[.slice Ab b.length cb, .agg #[.string mti, .slice A fs.length c]] w fun e w' => e = .returned (.bool true) ∧ Below w.heap.size w w' := by
  have hmx : mti.size ≤ 9223372036854775807 := by simpa [maxLen] using hmti
  have hfl : ∀ y ∈ fs, y.2.length ≤ 9223372036854775807 := fun y hy => by simpa [maxLen] using (hfs y hy).2.2
  have H0 := Lib.hid (below_alloc (Below.refl w.heap.size w) (.cells #[.string mti, .slice A fs.length c] 46))
  have HC := Lib.hid hC
  have HB := Lib.hid hb
  have HPw := Lib.hid P
  have HBy := Lib.hid hbB
  have HFl := Lib.hid hfl
  clear hC hb P hmti hbB hfl hfs
  by_cases g : 5000 < b.length ∨ 60 < fs.length
  · have g' : (decide ((5000 : Int) < (b.length : Int)) = true) ∨ (decide ((5000 : Int) < (b.length : Int)) = false ∧ decide ((60 : Int) < (fs.length : Int)) = true) := by
      simp only [decide_eq_true_eq, decide_eq_false_iff_not]
      omega
    clear g
    rcases g' with b1 | ⟨b1, b2⟩
    all_goals
      go_enter Tryd.func6, Tryd.ntmps6
      go_wp2_with fail
      refine (awake17 _).mono ?_
      rintro e w2 ⟨rfl, hb2⟩
      have HB2 := Lib.hid (below_step H0.out hb2)
      clear hb2
      dsimp only
      go_wp2_with fail
      go_ret
      exact ⟨rfl, HB2.out⟩
  have b1 : decide ((5000 : Int) < (b.length : Int)) = false := decide_eq_false (by omega)
  have b2 : decide ((60 : Int) < (fs.length : Int)) = false := decide_eq_false (by omega)
  have L1 : b.length ≤ 5000 := by omega
  have L2 : fs.length ≤ 60 := by omega
  clear g
  go_enter Tryd.func6, Tryd.ntmps6
  go_wp2_with fail
  refine (help_Own Ab cb b _ (RB.below HB.out H0.out) (by omega)).mono ?_
  rintro e w1 ⟨⟨g, rfl, hroom⟩, hb1⟩
  have q0 : w1.cell? ⟨w.heap.size, 0, none⟩ = some (.string mti) := by rw [(bcell hb1).1 _ _ (by simp)]; go_simp
  have q1 : w1.cell? ⟨w.heap.size, 1, none⟩ = some (.slice A fs.length c) := by rw [(bcell hb1).1 _ _ (by simp)]; go_simp
  have hz1 : w.heap.size < w1.heap.size := Nat.lt_of_lt_of_le (by simp) hb1.size
  have HZ := Lib.hid (below_step H0.out hb1)
  have hin := hroom.reads b.length (by rw [List.length_append]; omega)
  rw [List.take_left] at hin
  have HRoom := Lib.hid hroom
  have HIn := Lib.hid hin
  have HI := Lib.hid (iso_Parse (some ⟨g, 0, none⟩) (b.length + 3) b w1 hin (by omega) (by omega))
  obtain ⟨cc, hcc⟩ : ∃ cc, cc = b.length + 3 := ⟨_, rfl⟩
  rw [← hcc] at HI HRoom ⊢
  have HCC := Lib.hid hcc
  clear hb1 hroom hin hcc
  dsimp only
  go_wp2_with fail
  refine HI.out.mono ?_
  rintro e w2 ⟨v2, rfl, hr2, hb2⟩
  have HRf := Lib.hid (fun W hW => ref_Parse Ab cb b W hW hbc HBy.out)
  have N2 := Lib.hid hb2
  generalize parseOf b = Y at hr2 HRf
  obtain ⟨m0, f0, er⟩ := Y
  obtain ⟨A2, c2, hv2', _, hC2'⟩ := Kd.R_reads hr2
  have hv2 : v2 = .slice A2 f0.length c2 := hv2'
  have hC2 : Kd.C kE w2 A2 f0.length f0 := hC2'
  subst hv2
  have HC2 := Lib.hid hC2
  have N2a := Lib.hid (below_alloc hb2 (.cells #[.string m0, .slice A2 f0.length c2] 46))
  clear hr2 hb2 hv2' hC2 hC2' HI
  dsimp only
  go_wp2_with fail
  refine (HRf.out _ (RB.below HB.out (below_step HZ.out N2a.out))).mono ?_
  rintro e w3 ⟨v3, rfl, hr3, hb3⟩
  obtain ⟨A3, c3, hv3', _, hC3'⟩ := Kd.R_reads hr3
  have hv3 : v3 = .slice A3 f0.length c3 := hv3'
  have hC3 : Kd.C kE w3 A3 f0.length f0 := hC3'
  subst hv3
  have HC3 := Lib.hid hC3
  have N3 := Lib.hid (below_step N2a.out hb3)
  have Q3 := Lib.hid hb3
  have q0a : w3.cell? ⟨w.heap.size, 0, none⟩ = some (.string mti) := (N3.out.cell (p := ⟨w.heap.size, 0, none⟩) hz1).trans q0
  have q1a : w3.cell? ⟨w.heap.size, 1, none⟩ = some (.slice A fs.length c) := (N3.out.cell (p := ⟨w.heap.size, 1, none⟩) hz1).trans q1
  have hz3 : w.heap.size < w3.heap.size := Nat.lt_of_lt_of_le hz1 N3.out.size
  have N3a := Lib.hid (below_alloc N3.out (.cells #[.string m0, .slice A3 f0.length c3] 46))
  have Q3a := Lib.hid (below_alloc Q3.out (.cells #[.string m0, .slice A3 f0.length c3] 46))
  clear hr3 hb3 hv3' hC3 hC3' HRf
  dsimp only
  go_wp2_with fail
  refine (iso_Pack mti A c fs _ hmx (Kd.C_below HC.out (below_step HZ.out N3a.out)) (by omega) (fun x hx h => HPw.out.on (below_step HZ.out N3a.out))).mono ?_
  rintro e w4 ⟨v4, rfl, hv4, hb4⟩
  have N4 := Lib.hid (below_step N3a.out hb4)
  have Q4 := Lib.hid (below_step Q3a.out hb4)
  have S4 := Lib.hid hb4
  have q0b : w4.cell? ⟨w.heap.size, 0, none⟩ = some (.string mti) := (N4.out.cell (p := ⟨w.heap.size, 0, none⟩) hz1).trans q0
  have q1b : w4.cell? ⟨w.heap.size, 1, none⟩ = some (.slice A fs.length c) := (N4.out.cell (p := ⟨w.heap.size, 1, none⟩) hz1).trans q1
  have HRp := Lib.hid (ref_Pack mti A c fs w4 hmx (Kd.C_below HC.out (below_step HZ.out N4.out)) (by omega) HFl.out)
  generalize packOf mti fs = Z at hv4 HRp
  obtain ⟨x, gr⟩ := Z
  obtain ⟨A4, c4, hv4', _, hr4'⟩ := hv4.reads
  have hv4e : v4 = .slice A4 x.length c4 := hv4'
  have hr4 : RB w4 A4 x := hr4'
  subst hv4e
  have HR4 := Lib.hid hr4
  clear hv4 hb4 hv4' hr4 hr4' q0a q1a
  dsimp only
  go_wp2_with fail
  refine HRp.out.mono ?_
  rintro e w5 ⟨v5, rfl, hv5, hb5⟩
  obtain ⟨A5, c5, hv5', _, hr5'⟩ := hv5.reads
  have hv5e : v5 = .slice A5 x.length c5 := hv5'
  have hr5 : RB w5 A5 x := hr5'
  subst hv5e
  have HR5 := Lib.hid hr5
  have HR45 := Lib.hid (RB.below HR4.out hb5)
  have N5 := Lib.hid (below_step N4.out hb5)
  have Q5 := Lib.hid (below_step Q4.out hb5)
  have S5 := Lib.hid (below_step S4.out hb5)
  clear hv5 hb5 hv5' hr5 hr5' HRp q0b q1b q0 q1
  dsimp only
  go_wp2_with fail
  refine (awake17 _).mono ?_
  rintro e w6 ⟨rfl, hb6⟩
  have N6 := Lib.hid (below_step N5.out hb6)
  have Q6 := Lib.hid (below_step Q5.out hb6)
  have S6 := Lib.hid (below_step S5.out hb6)
  have HR46 := Lib.hid (RB.below HR45.out hb6)
  have HR56 := Lib.hid (RB.below HR5.out hb6)
  have r0 : w6.cell? ⟨w2.heap.size, 0, none⟩ = some (.string m0) := (Q6.out.cell (p := ⟨w2.heap.size, 0, none⟩) (by simp)).trans (by rw [World.cell?_alloc_new]; rfl)
  have r1 : w6.cell? ⟨w2.heap.size, 1, none⟩ = some (.slice A2 f0.length c2) := (Q6.out.cell (p := ⟨w2.heap.size, 1, none⟩) (by simp)).trans (by rw [World.cell?_alloc_new]; rfl)
  have s0 : w6.cell? ⟨w3.heap.size, 0, none⟩ = some (.string m0) := (S6.out.cell (p := ⟨w3.heap.size, 0, none⟩) (by simp)).trans (by rw [World.cell?_alloc_new]; rfl)
  have s1 : w6.cell? ⟨w3.heap.size, 1, none⟩ = some (.slice A3 f0.length c3) := (S6.out.cell (p := ⟨w3.heap.size, 1, none⟩) (by simp)).trans (by rw [World.cell?_alloc_new]; rfl)
  have HI2 := Lib.hid (help_Iso m0 A2 A3 c2 c3 f0 w6 (Kd.C_below (Kd.C_alloc HC2.out _) Q6.out) (Kd.C_below (Kd.C_alloc HC3.out _) S6.out))
  have be : (er == er) = true := by simp
  have bg : (gr == gr) = true := by simp
  clear hb6 N5 Q5 S5 HR45 HR5 HR4 HC2 HC3 Q6 S6 N4 Q4 S4 N3 N3a Q3 Q3a N2 N2a
  dsimp only
  go_wp2_with fail
  refine HI2.out.mono ?_
  rintro e w7 ⟨rfl, hb7⟩
  have N7 := Lib.hid (below_step N6.out hb7)
  have HR47 := Lib.hid (RB.below HR46.out hb7)
  have HR57 := Lib.hid (RB.below HR56.out hb7)
  clear hb7 r0 r1 s0 s1 HI2 HR46 HR56
  dsimp only
  go_wp2_with fail
  refine (help_Bytes A4 A5 c4 c5 x w7 HR47.out HR57.out).mono ?_
  rintro e w8 ⟨rfl, rfl⟩
  have hK := help_Kept g Ab cb b (w.alloc (.cells #[.string mti, .slice A fs.length c] 46)).heap.size w7 (by rw [← HCC.out]; exact HRoom.out.below N7.out) (RB.below HB.out (below_step HZ.out N7.out)) (by omega)
  rw [← HCC.out] at hK
  have HK := Lib.hid hK
  clear hK
  dsimp only
  go_wp2_with fail
  refine HK.out.mono ?_
  rintro e w9 ⟨rfl, hb9⟩
  have HBf := Lib.hid (below_step (below_step HZ.out N7.out) hb9)
  clear hb9
  dsimp only
  go_wp2_with fail
  go_ret
  exact ⟨rfl, HBf.out⟩
end Go.Proofs.YtonhmaklnkidhaaDoor.G
