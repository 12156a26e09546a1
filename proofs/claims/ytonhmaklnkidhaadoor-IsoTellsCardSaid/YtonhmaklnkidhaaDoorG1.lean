/- What the functions of package element and of the verifier do, one contract each: a part of the proof; no conditions of its own (my own text, filled from XG1.lean.tpl). -/
import Derived.Test.YtonhmaklnkidhaaDoorProg
import Derived.Test.YtonhmaklnkidhaaDoorWWords
import Derived.Test.YtonhmaklnkidhaaDoorShelf
import Derived.Lib.Hide
namespace Go.Proofs.YtonhmaklnkidhaaDoor.G
open Go.RowKit Go.Proofs.YtonhmaklnkidhaaDoorW.PrintWords

/-- what a test of a byte tells, wherever it is called -/
def ByteTest (P : Program) (g : Nat) (first cap : Array Value) (p : Int → Bool) : Prop :=
  ∀ (c : Int) (w : World), 0 ≤ c → c ≤ 255 → Calls P g (first.push (.int .u8 c) ++ cap) w fun e w' => e = .returned (.bool (p c)) ∧ w = w'

def allB (p : Int → Bool) (s : ByteArray) : Bool := s.data.toList.all fun c => p (c.toNat : Int)

theorem allB_true {p : Int → Bool} {s : ByteArray} (h : ∀ j (hj : j < s.size), p (s[j].toNat : Int) = true) : allB p s = true := by
  unfold allB
  rw [List.all_eq_true]
  intro c hc
  obtain ⟨j, hj, rfl⟩ := List.getElem_of_mem hc
  exact h j (by simpa using hj)
theorem allB_false {p : Int → Bool} {s : ByteArray} (j : Nat) (hj : j < s.size) (h : p (s[j].toNat : Int) = false) : allB p s = false := by
  unfold allB
  rw [List.all_eq_false]
  exact ⟨s[j], by simp [ByteArray.getElem_eq_getElem_data], by simp [h]⟩

set_option maxHeartbeats 400000 in
set_option maxRecDepth 100000 in
theorem all_calls (g : Nat) (first cap : Array Value) (p : Int → Bool) (eg : ∀ args w, (callFunc g args).run Tryd.prog w = .ok (.enter g args) w) (hp : ByteTest Tryd.prog g first cap p) (s : ByteArray) (w : World) (hs : s.size ≤ 9223372036854775807) :
    Calls Tryd.prog 54 #[.string s, .func (.func g) first cap] w fun e w' => e = .returned (.bool (allB p s)) ∧ w = w' := by
  have HP := Lib.hid hp
  clear hp
  go_enter Tryd.func54, Tryd.ntmps54
  go_wp2_with fail
  go_loop [5, 8] (fun _ v => ∃ k : Nat, k ≤ s.size ∧ v = .int .i64 k ∧ Hid (∀ j (hj : j < s.size), j < k → p (s[j].toNat : Int) = true)) (fun _ v => s.size - (intOf v).toNat)
  case atStart => exact ⟨0, Nat.zero_le _, rfl, Lib.hid fun j _ h => absurd h (by omega)⟩
  case round =>
    obtain ⟨k, hk, rfl, hall⟩ := hrel
    by_cases hlt : k < s.size
    · have hb := s[k].toNat_lt
      cases hpk : p (s[k].toNat : Int)
      · go_wp2_with fail
        refine (HP.out _ _ (by omega) (by omega)).mono ?_
        rintro e w' ⟨rfl, rfl⟩
        go_wp2_with fail
        go_ret
        exact ⟨by rw [allB_false k hlt hpk]; rfl, rfl⟩
      · go_wp2_with fail
        refine (HP.out _ _ (by omega) (by omega)).mono ?_
        rintro e w' ⟨rfl, rfl⟩
        go_wp2_with fail
        go_round
        case rel => exact ⟨k + 1, by omega, by go_num, Lib.hid fun j hj h => by
          by_cases e : j = k
          · subst e; exact hpk
          · exact hall.out j hj (by omega)⟩
        case measure => simp [intOf]; omega
    · go_wp2_with fail
      go_ret
      exact ⟨by rw [allB_true fun j hj => hall.out j hj (by omega)]; rfl, rfl⟩

set_option maxRecDepth 100000 in
theorem has_calls (s : ByteArray) (c : Int) (w : World) :
    Calls Tryd.prog 55 #[.string s, .int .u8 c] w fun e w' => e = .returned (.bool (decide (0 ≤ Lib.indexByte s.data.toList c.toNat.toUInt8))) ∧ w = w' := by
  go_enter Tryd.func55, Tryd.ntmps55
  go_wp2_with (go_at_call 79; refine (Tryd.strings_IndexByte _ _ _).mono ?_; rintro e w' ⟨rfl, hw⟩; rw [hw])
  go_ret
  exact ⟨rfl, rfl⟩

def digit (c : Int) : Bool := decide (48 ≤ c) && decide (c ≤ 57)
theorem byte_all {q : UInt8 → Bool} (h : (List.range 256).all (fun n => q (UInt8.ofNat n)) = true) (c : UInt8) : q c = true := by
  have := List.all_eq_true.1 h c.toNat (List.mem_range.2 c.toNat_lt)
  simpa using this
theorem tens_has (c : UInt8) : decide (0 ≤ Lib.indexByte [48, 49, 50, 51, 52, 53, 54, 55, 56, 57] c) = digit (c.toNat : Int) :=
  beq_iff_eq.1 (byte_all (q := fun c => decide (0 ≤ Lib.indexByte [48, 49, 50, 51, 52, 53, 54, 55, 56, 57] c) == digit (c.toNat : Int)) (by decide +kernel) c)
theorem byte_of (c : Int) (h0 : 0 ≤ c) (h1 : c ≤ 255) : ∃ u : UInt8, c = u.toNat ∧ c.toNat.toUInt8 = u := ⟨c.toNat.toUInt8, by simp; omega, rfl⟩
theorem tens_test : ByteTest Tryd.prog 55 #[.string ⟨#[48, 49, 50, 51, 52, 53, 54, 55, 56, 57]⟩] #[] digit := fun c w h0 h1 =>
  (has_calls _ c w).mono fun e w' ⟨he, hw⟩ => ⟨by
    rw [he]
    obtain ⟨u, rfl, hu⟩ := byte_of c h0 h1
    rw [hu, ← tens_has u], hw⟩

def digits_Right.f (a0 : ByteArray) (a1 a2 : Int) : Option Bool := if a0.size ≤ 9223372036854775807 then some (decide (a1 ≤ a0.size) && decide ((a0.size : Int) ≤ a2) && allB digit a0) else none
set_option maxRecDepth 100000 in
theorem digits_Right.calls (a0 : ByteArray) (a1 a2 : Int) (r : Bool) (w : World) (h : digits_Right.f a0 a1 a2 = some r) :
    Calls Tryd.prog 33 #[.string a0, .int .i64 a1, .int .i64 a2] w fun e w' => e = .returned (.bool r) ∧ Drawn0 w w' := by
  unfold digits_Right.f at h
  split at h
  case isFalse => simp at h
  rename_i hs
  obtain rfl := Option.some.inj h
  clear h
  have hmf : ∀ (fn : Fn) (first cap : Array Value) (w : World), (Instr.makeFunc fn first cap).run Tryd.prog w = .ok (.func fn first cap) w := fun _ _ _ _ => rfl
  go_enter Tryd.func33, Tryd.ntmps33
  go_wp2_with (go_at_call 54; refine (all_calls 55 _ _ digit (enters_of Tryd.func55 (by kernel_rfl) rfl) tens_test a0 _ hs).mono ?_; rintro e w' ⟨rfl, rfl⟩)
  all_goals
    go_ret
    refine ⟨?_, Drawn0.refl _⟩
    first | (simp_all; done) | (simp; omega) | (congr 2; simp; omega)

/-! text -/
def span_in (a b c : Int) : Bool := decide (a ≤ c) && decide (c ≤ b)
set_option maxRecDepth 100000 in
theorem span_has (a b c : Int) (w : World) :
    Calls Tryd.prog 98 #[.agg #[.int .u8 a, .int .u8 b], .int .u8 c] w fun e w' => e = .returned (.bool (span_in a b c)) ∧ Below w.heap.size w w' := by
  go_enter Tryd.func98, Tryd.ntmps98
  go_wp2
  all_goals
    go_ret
    refine ⟨?_, (Below.refl _ _).alloc (Nat.le_refl _) _⟩
    unfold span_in
    first | (simp_all; done) | (simp; omega) | (congr 2; simp; omega)

def inSpans (l : List (Int × Int)) (c : Int) : Bool := l.any fun x => span_in x.1 x.2 c
theorem inSpans_take (l : List (Int × Int)) (m : Nat) (h : m < l.length) (c : Int) : inSpans (l.take (m + 1)) c = (inSpans (l.take m) c || span_in l[m].1 l[m].2 c) := by
  unfold inSpans
  rw [List.take_succ_eq_append_getElem h, List.any_append]
  simp only [List.any_cons, List.any_nil, Bool.or_false]
/-- spans' tests lie in a row -/
def SpanRow (w : World) (b : Nat) (l : List (Int × Int)) : Prop :=
  ∀ j (hj : j < l.length), w.cell? ⟨b, j, none⟩ = some (.func (.func 98) #[.agg #[.int .u8 l[j].1, .int .u8 l[j].2]] #[])

set_option maxHeartbeats 800000 in
set_option maxRecDepth 100000 in
theorem text_all (l : List (Int × Int)) (b : Nat) (s : ByteArray) (w : World) (hs : s.size ≤ 9223372036854775807) (hl : l.length ≤ 9223372036854775807) (hb : b < w.heap.size) (hrow : SpanRow w b l) :
    Calls Tryd.prog 97 #[.string s, .slice (some ⟨b, 0, none⟩) l.length l.length] w fun e w' => e = .returned (.bool (allB (inSpans l) s)) ∧ Below w.heap.size w w' := by
  have HR := Lib.hid hrow
  clear hrow
  have eg : ∀ args w, (callFunc 98 args).run Tryd.prog w = .ok (.enter 98 args) w := enters_of Tryd.func98 (by kernel_rfl) rfl
  go_enter Tryd.func97, Tryd.ntmps97
  go_wp2_with fail
  go_loopw [11] (fun v wr => ∃ k : Nat, k ≤ s.size ∧ v = .int .i64 k ∧ Hid (∀ j (hj : j < s.size), j < k → inSpans l (s[j].toNat : Int) = true) ∧ Hid (Below w.heap.size w wr)) (fun v _ => s.size - (intOf v).toNat)
  case atStart => exact ⟨0, Nat.zero_le _, rfl, Lib.hid fun j _ h => absurd h (by omega), Lib.hid (Below.refl _ _)⟩
  case round =>
    obtain ⟨k, hk, rfl, hall, hbel⟩ := hrel
    obtain ⟨wo, rfl⟩ : ∃ wo : World, wo = wr := ⟨_, rfl⟩
    by_cases hlt : k < s.size
    · have hbt := s[k].toNat_lt
      obtain ⟨c, hc⟩ : ∃ c : Int, c = (s[k].toNat : Int) := ⟨_, rfl⟩
      go_wp2_with fail
      go_loopw [6, 16] (fun o v wr => ∃ m : Nat, m ≤ l.length ∧ v = .int .i64 m ∧ o = .bool (inSpans (l.take m) c) ∧ Hid (Below w.heap.size w wr)) (fun _ v _ => l.length - (intOf v).toNat)
      case atStart => exact ⟨0, Nat.zero_le _, rfl, rfl, hbel⟩
      case round =>
        obtain ⟨m, hm, rfl, rfl, hbe⟩ := hrel
        by_cases hml : m < l.length
        · have htk : Hid (inSpans (l.take (m + 1)) c = (inSpans (l.take m) c || span_in l[m].1 l[m].2 c)) := Lib.hid (inSpans_take l m hml c)
          have hcell : wr.cell? ⟨b, m, none⟩ = some (.func (.func 98) #[.agg #[.int .u8 l[m].1, .int .u8 l[m].2]] #[]) := (hbe.out.cell (p := ⟨b, m, none⟩) hb).trans (HR.out m hml)
          cases ho : inSpans (l.take m) c
          · go_wp2_with fail
            subst hc
            refine (span_has _ _ _ _).mono ?_
            rintro e w1 ⟨rfl, hb1⟩
            have hB1 := Lib.hid (hbe.out.trans (hb1.mono hbe.out.size))
            clear hb1
            go_wp2_with fail
            go_roundw
            case rel => exact ⟨m + 1, by omega, by go_num, by rw [htk.out, ho]; simp, hB1⟩
            case measure => simp [intOf]; omega
          · go_wp2_with fail
            go_roundw
            case rel => exact ⟨m + 1, by omega, by go_num, by rw [htk.out, ho]; simp, hbe⟩
            case measure => simp [intOf]; omega
        · obtain rfl : m = l.length := by omega
          have hlall : l.take l.length = l := List.take_length
          rw [hlall]
          clear hlall
          cases ho : inSpans l c
          · go_wp2_with fail
            go_ret
            refine ⟨?_, hbe.out⟩
            rw [allB_false k hlt (by rw [← hc]; exact ho)]; rfl
          · go_wp2_with fail
            go_roundw
            case rel => exact ⟨k + 1, by omega, by go_num, Lib.hid fun j hj h => by
              by_cases e : j = k
              · subst e; rw [← hc]; exact ho
              · exact hall.out j hj (by omega), hbe⟩
            case measure => simp [intOf]; omega
    · go_wp2_with fail
      go_ret
      exact ⟨by rw [allB_true fun j hj => hall.out j hj (by omega)]; rfl, hbel.out⟩
end Go.Proofs.YtonhmaklnkidhaaDoor.G
