/- What the functions of package element and of the verifier do, one contract each: a part of the proof; no conditions of its own (my own text, filled from XU5.lean.tpl). -/
import Derived.Test.YtonhmaklnkidhaaDoorU4
namespace Go.Proofs.YtonhmaklnkidhaaDoor.G
open Go.RowKit Go.Proofs.YtonhmaklnkidhaaDoorW.PrintWords

/-- a bit that is set -/
def setAt (xs : List Int) (q r : Nat) : List Int := xs.set q (Go.bits .or .u8 (xs.getD q 0) (2 ^ (7 - r) % 256))
def setN (xs : List Int) (n : Int) : List Int := setAt xs ((n - 1).toNat / 8) ((n - 1).toNat % 8)
theorem setN_len (xs : List Int) (n : Int) : (setN xs n).length = xs.length := by simp [setN, setAt]
set_option maxHeartbeats 1600000 in
set_option maxRecDepth 100000 in
theorem bits_set_at (g cap base : Nat) (xs : List Int) (q r : Nat) (n : Int) (hr8 : r < 8) (hq : q < xs.length) (hlen : xs.length ≤ 1000) (hn : n = 8 * q + r + 1) (w : World) (h : Kd.R (Kd.int .u8) 5 w base (fun _ => True) (.slice (some ⟨g, 0, none⟩) xs.length cap) xs) :
    Calls Tryd.prog 62 #[.slice (some ⟨g, 0, none⟩) xs.length cap, .int .i64 n] w fun e w' => e = .returned (.tuple #[]) ∧ Kd.R (Kd.int .u8) 5 w' base (fun _ => True) (.slice (some ⟨g, 0, none⟩) xs.length cap) (setAt xs q r) ∧ w.grownBy w' (some g) := by
  have hqi := Kd.R_cell (enc := Value.int .u8) (h1 := fun _ => rfl) (g := g) (cap := cap) (xs := xs) 0 h (q : Int) (by omega) (by omega)
  simp only [Int.toNat_natCast] at hqi
  obtain ⟨hq1, hq2⟩ := hqi
  obtain ⟨M, hM⟩ : ∃ M : Int, M = 8 * q + r := ⟨_, rfl⟩
  obtain ⟨s, hs⟩ : ∃ s : Nat, s = 7 - r := ⟨_, rfl⟩
  have e1 : IntKind.i64.wrap (n - 1) = M := by rw [IntKind.wrap_i64]; omega
  have e2 : M.tdiv 8 = (q : Int) := by rw [Int.tdiv_eq_ediv_of_nonneg (by omega)]; omega
  have e3 : M.tmod 8 = (r : Int) := by rw [Int.tmod_eq_emod_of_nonneg (by omega)]; omega
  have e4 : IntKind.i64.wrap (7 - (r : Int)) = (s : Int) := by rw [IntKind.wrap_i64]; omega
  have hs8 : s < 8 := by omega
  have e5 : IntKind.i64.wrap (q : Int) = q := by rw [IntKind.wrap_i64]; omega
  have e6 : IntKind.i64.wrap (r : Int) = r := by rw [IntKind.wrap_i64]; omega
  have e7 : IntKind.i64.wrap (s : Int) = s := by rw [IntKind.wrap_i64]; omega
  have b0 : (0 : Int) ≤ (q : Int) := by omega
  have b1 : (q : Int) < (xs.length : Int) := by omega
  have HS := Lib.hid hs
  have HH := Lib.hid h
  generalize hx : rdOf 0 xs (q : Int) = x at hq1
  have HXx := Lib.hid hx
  clear h hM hs hn hx
  go_enter Tryd.func62, Tryd.ntmps62
  go_wp2_with fail
  refine still_tail 13 (by kernel_rfl) (by kernel_rfl) ?_
  simp only [List.take_succ_cons, List.take_zero, List.drop_succ_cons, List.drop_zero]
  still_step
  still_step
  still_step
  still_step
  still_step
  still_step
  still_step
  still_step
  still_step
  still_step
  still_step
  still_step
  still_step
  refine wpStill_nil ?_
  go_wp2_with fail
  go_end0
  obtain rfl := HS.out
  obtain rfl := HXx.out
  have hp := Kd.R_put (enc := Value.int .u8) (h1 := fun _ => rfl) (g := g) (cap := cap) (xs := xs) HH.out (q : Int) (Go.bits .or .u8 (rdOf 0 xs (q : Int)) (2 ^ (7 - r) % 256))
  simp only [Int.toNat_natCast] at hp
  refine ⟨rfl, Kd.R_drew hp.1, ?_⟩
  exact hp.2.trans (grown_of_below (below_drew (Below.refl _ _)))
theorem bits_set (g cap base : Nat) (xs : List Int) (n : Int) (h1 : 1 ≤ n) (h2 : n ≤ 8 * xs.length) (hlen : xs.length ≤ 1000) (w : World) (h : Kd.R (Kd.int .u8) 5 w base (fun _ => True) (.slice (some ⟨g, 0, none⟩) xs.length cap) xs) :
    Calls Tryd.prog 62 #[.slice (some ⟨g, 0, none⟩) xs.length cap, .int .i64 n] w fun e w' => e = .returned (.tuple #[]) ∧ Kd.R (Kd.int .u8) 5 w' base (fun _ => True) (.slice (some ⟨g, 0, none⟩) xs.length cap) (setN xs n) ∧ w.grownBy w' (some g) :=
  bits_set_at g cap base xs ((n - 1).toNat / 8) ((n - 1).toNat % 8) n (Nat.mod_lt _ (by decide)) (by omega) hlen (by omega) w h

/-- the numbers of a map stand in order, and are such as may be: the last one -/
def lastOk (was : Int) : List Int → Option Int
  | [] => some was
  | n :: r => if n ≤ was ∨ 128 < n ∨ n = 65 then none else lastOk n r
theorem lastOk_append (was : Int) (l r : List Int) : lastOk was (l ++ r) = (lastOk was l).bind fun x => lastOk x r := by
  induction l generalizing was with
  | nil => rfl
  | cons n l ih =>
    rw [List.cons_append, lastOk, lastOk]
    split
    · rfl
    · exact ih n
theorem lastOk_bounds (was : Int) (l : List Int) (x : Int) (h0 : 1 ≤ was) (h1 : was ≤ 128) (h : lastOk was l = some x) : was ≤ x ∧ x ≤ 128 ∧ ∀ n ∈ l, 1 ≤ n ∧ n ≤ x := by
  induction l generalizing was with
  | nil => 
    have : was = x := by simpa [lastOk] using h
    subst this
    exact ⟨Int.le_refl _, h1, fun n hn => by cases hn⟩
  | cons n l ih =>
    rw [lastOk] at h
    split at h
    · cases h
    · rename_i hc
      obtain ⟨a1, a2, a3⟩ := ih n (by omega) (by omega) h
      refine ⟨by omega, a2, fun k hk => ?_⟩
      rcases List.mem_cons.1 hk with rfl | hk
      · exact ⟨by omega, a1⟩
      · exact a3 k hk
/-- numbers as a map of bits, and why not -/
def mapB (l : List Int) : List Int × Int :=
  match lastOk 1 l with
  | none => ([], 1)
  | some x => (l.foldl setN (if 64 < x then setN (List.replicate 16 0) 1 else List.replicate 8 0), 0)
theorem foldl_setN_len (l xs : List Int) : (l.foldl setN xs).length = xs.length := by
  induction l generalizing xs with
  | nil => rfl
  | cons n l ih => rw [List.foldl_cons, ih, setN_len]
end Go.Proofs.YtonhmaklnkidhaaDoor.G
