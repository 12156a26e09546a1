/- What the functions of package element and of the verifier do, one contract each: a part of the proof; no conditions of its own (my own text, filled from XU1.lean.tpl). -/
import Derived.Test.YtonhmaklnkidhaaDoorG11
import Derived.BigGuard
namespace Go.Proofs.YtonhmaklnkidhaaDoor.G
open Go.RowKit Go.Proofs.YtonhmaklnkidhaaDoorW.PrintWords

theorem info_int : (Tryd.prog.info? 3).map (fun i => (i.zero, i.size, i.bytes)) = some (some (.int .i64 0), 1, 8) := by kernel_rfl
/-- a bit of a byte -/
def bitAt (x : Int) (r : Nat) : Bool := Go.bits .and .u8 (x / 2 ^ (7 - r)) 1 == 1
set_option maxHeartbeats 1600000 in
set_option maxRecDepth 100000 in
theorem bits_has (A : Option Addr) (c : Nat) (l : List Int) (q r : Nat) (n : Int) (hr8 : r < 8) (hq : q < l.length) (hlen : l.length ≤ 1000) (hn : n = 8 * q + r + 1) (w : World) (h : RB w A l) :
    Calls Tryd.prog 56 #[.slice A l.length c, .int .i64 n] w fun e w' => e = .returned (.bool (bitAt (l.getD q 0) r)) ∧ w = w' := by
  obtain ⟨ad, rfl, hcell⟩ := (Kd.reads_of_C (enc := Value.int .u8) (d := (0 : Int)) (h1 := fun _ => rfl) h).2.2 (by omega)
  have hc := hcell q hq
  obtain ⟨M, hM⟩ : ∃ M : Int, M = 8 * q + r := ⟨_, rfl⟩
  obtain ⟨s, hs⟩ : ∃ s : Nat, s = 7 - r := ⟨_, rfl⟩
  have e1 : IntKind.i64.wrap (n - 1) = M := by rw [IntKind.wrap_i64]; omega
  have e2 : M.tdiv 8 = (q : Int) := by rw [Int.tdiv_eq_ediv_of_nonneg (by omega)]; omega
  have e3 : M.tmod 8 = (r : Int) := by rw [Int.tmod_eq_emod_of_nonneg (by omega)]; omega
  have e4 : IntKind.i64.wrap (7 - (r : Int)) = (s : Int) := by rw [IntKind.wrap_i64]; omega
  have hs8 : s < 8 := by omega
  have HS := Lib.hid hs
  clear hcell h hM hs hn
  go_enter Tryd.func56, Tryd.ntmps56
  go_wp2_with fail
  go_ret
  obtain rfl := HS.out
  refine ⟨?_, rfl⟩
  have hg : l.getD q 0 = l[q] := by simp [List.getD_eq_getElem?_getD, hq]
  rw [bitAt, hg]
  rfl

/-- a test of a number, wherever it is called: it writes nothing -/
def NumTest (g : FuncId) (first cap : Array Value) (a b : Int) (p : Int → Bool) (w : World) : Prop :=
  ∀ n w1, a ≤ n → n ≤ b → Below w.heap.size w w1 → Calls Tryd.prog g ((first.push (.int .i64 n)) ++ cap) w1 fun e w' => e = .returned (.bool (p n)) ∧ w1 = w'
/-- the numbers from a on, k of them, that are let -/
def whichL (p : Int → Bool) (a : Int) (k : Nat) : List Int := ((List.range k).map fun j : Nat => a + (j : Int)).filter p
theorem whichL_succ (p : Int → Bool) (a : Int) (k : Nat) : whichL p a (k + 1) = if p (a + k) then whichL p a k ++ [a + k] else whichL p a k := by
  unfold whichL
  rw [List.range_succ, List.map_append, List.filter_append]
  cases h : p (a + k) <;> simp [h]
theorem whichL_le (p : Int → Bool) (a : Int) (k : Nat) : (whichL p a k).length ≤ k := by
  have := List.length_filter_le p ((List.range k).map fun j : Nat => a + (j : Int))
  simpa [whichL] using this
set_option maxHeartbeats 1600000 in
set_option maxRecDepth 100000 in
theorem bitmap_which (g : FuncId) (cap : Array Value) (first : Array Value) (a b : Int) (ha0 : 0 ≤ a) (hab : a ≤ b) (hb1 : b ≤ 1000) (p : Int → Bool) (eg : ∀ args w, (callFunc g args).run Tryd.prog w = .ok (.enter g args) w) (w : World) (ht : NumTest g first cap a b p w) :
    Calls Tryd.prog 57 #[.int .i64 a, .int .i64 b, .func (.func g) first cap] w fun e w' => (∃ v, e = .returned v ∧ Kd.R (Kd.int .i64) 3 w' w.heap.size (fun _ => True) v (whichL p a (b - a + 1).toNat)) ∧ Below w.heap.size w w' := by
  have HT := Lib.hid ht
  clear ht
  obtain ⟨N, hN⟩ : ∃ N : Nat, (N : Int) = b - a + 1 := ⟨(b - a + 1).toNat, by omega⟩
  have HN : Hid ((b - a + 1).toNat = N) := Lib.hid (by omega)
  go_enter Tryd.func57, Tryd.ntmps57
  go_wp2_with fail
  go_loopw [7, 8] (fun v7 v8 wr => ∃ k : Nat, k ≤ N ∧ v8 = .int .i64 (a + k) ∧ Hid (Kd.R (Kd.int .i64) 3 wr w.heap.size (fun _ => True) v7 (whichL p a k)) ∧ Hid (Below w.heap.size w wr)) (fun _ v _ => N - (intOf v - a).toNat)
  case atStart => exact ⟨0, Nat.zero_le _, by simp, Lib.hid (Kd.R_nil _ _ _ _ _), Lib.hid (Below.refl _ _)⟩
  case round =>
    obtain ⟨k, hk, rfl, hR, hbel⟩ := hrel
    obtain ⟨wo, rfl⟩ : ∃ wo : World, wo = wr := ⟨_, rfl⟩
    obtain ⟨n, hn⟩ : ∃ n : Int, n = a + k := ⟨_, rfl⟩
    have hs := whichL_succ p a k
    rw [← hn] at hs ⊢
    have e1 : IntKind.i64.wrap (n + 1) = n + 1 := by rw [IntKind.wrap_i64]; omega
    have hkn : Hid (n = a + k) := Lib.hid hn
    by_cases hlt : k < N
    · have hnb : n ≤ b := by omega
      have hna : a ≤ n := by omega
      have HC := Lib.hid (HT.out n wo hna hnb hbel.out)
      clear hn
      cases hp : p n
      · have HS : Hid (whichL p a (k + 1) = whichL p a k) := Lib.hid (by rw [hs, hp]; rfl)
        rw [hp] at HC
        clear hs hp
        go_wp2_with fail
        refine HC.out.mono ?_
        rintro e w1 ⟨rfl, rfl⟩
        dsimp only
        go_wp2_with fail
        exact ⟨⟨k + 1, hlt, by rw [hkn.out]; simp; omega, Lib.hid (by rw [HS.out]; exact hR.out), hbel⟩, by have := hkn.out; simp [intOf]; omega⟩
      · have HS : Hid (whichL p a (k + 1) = whichL p a k ++ [n]) := Lib.hid (by rw [hs, hp]; rfl)
        rw [hp] at HC
        clear hs hp
        go_wp2_with fail
        refine HC.out.mono ?_
        rintro e w1 ⟨rfl, rfl⟩
        dsimp only
        go_wp2_with (at_builtin; refine Kd.R_append (Kd.int .i64) (w0 := w) w.heap.size rfl (.tmp 18) (.tmp 20) 43 3 (.int .i64 0) 8 rfl Tryd.underlying43 info_int rfl (by decide) (by omega) _ (whichL p a k) n [.int .i64 n] (fun _ => True) (fun _ => False) rfl rfl rfl (fun _ hk => hk.elim) (fun _ _ => trivial) hR.out hbel.out hbel.out.size (by have := whichL_le p a k; have := hkn.out; omega) ?_; intro v5 w5 ho5 hb5 hg5 hat5; clear hg5 hat5; have HO5 := Lib.hid ho5; have HB5 := Lib.hid hb5; clear ho5 hb5)
        exact ⟨⟨k + 1, hlt, by rw [hkn.out]; simp; omega, Lib.hid (by rw [HS.out]; exact HO5.out), HB5⟩, by have := hkn.out; simp [intOf]; omega⟩
    · have hnb : ¬ n ≤ b := by omega
      have hkN : k = N := by omega
      clear hn hs
      go_wp2_with fail
      go_ret
      exact ⟨⟨_, rfl, by rw [HN.out, ← hkN]; exact hR.out⟩, hbel.out⟩
end Go.Proofs.YtonhmaklnkidhaaDoor.G
