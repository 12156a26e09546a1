/- What the functions of package element and of the verifier do, one contract each: a part of the proof; no conditions of its own (my own text, filled from XU4.lean.tpl). -/
import Derived.Test.YtonhmaklnkidhaaDoorU3
namespace Go.Proofs.YtonhmaklnkidhaaDoor.G
open Go.RowKit Go.Proofs.YtonhmaklnkidhaaDoorW.PrintWords

/-- a bit, by its number from 1 on -/
def hasN (l : List Int) (n : Int) : Bool := bitAt (l.getD ((n - 1).toNat / 8) 0) ((n - 1).toNat % 8)
theorem bit_calls (A : Option Addr) (c : Nat) (l : List Int) (n : Int) (h1 : 1 ≤ n) (h2 : n ≤ 8 * l.length) (hlen : l.length ≤ 1000) (w : World) (h : RB w A l) :
    Calls Tryd.prog 56 #[.slice A l.length c, .int .i64 n] w fun e w' => e = .returned (.bool (hasN l n)) ∧ w = w' :=
  bits_has A c l ((n - 1).toNat / 8) ((n - 1).toNat % 8) n (Nat.mod_lt _ (by decide)) (by omega) hlen (by omega) w h
theorem bit_test (A : Option Addr) (c : Nat) (l : List Int) (a b : Int) (h1 : 1 ≤ a) (h2 : b ≤ 8 * l.length) (hlen : l.length ≤ 1000) (w : World) (h : RB w A l) :
    NumTest 56 #[.slice A l.length c] #[] a b (hasN l) w :=
  fun n w1 ha hb hbel => bit_calls A c l n (by omega) (by omega) hlen w1 (RB.below h hbel)
/-- a map of bits as numbers, how long it is, and why not -/
def mapOf (l : List Int) : List Int × Int × Int :=
  if l.length < 8 then ([], 0, 3) else
  if hasN (l.take 8) 1 = false then (whichL (hasN (l.take 8)) 2 63, 8, 0) else
  if l.length < 16 then ([], 0, 3) else
  if hasN (l.take 16) 65 = true then ([], 0, 6) else
  if (whichL (hasN (l.take 16)) 66 63).length = 0 then ([], 0, 6) else
  (whichL (hasN (l.take 16)) 2 127, 16, 0)
/-- numbers handed back, beside plain values -/
def MapPost (w : World) (r : List Int × Int × Int) (e : Ending) (w' : World) : Prop :=
  ∃ v, e = .returned (.tuple #[v, .int .i64 r.2.1, .int .i64 r.2.2]) ∧ Kd.R (Kd.int .i64) 3 w' w.heap.size (fun _ => True) v r.1 ∧ Below w.heap.size w w'
theorem MapPost.none_ {w w' : World} {x : Int} (hb : Below w.heap.size w w') : MapPost w ([], 0, x) (.returned (.tuple #[.slice none 0 0, .int .i64 0, .int .i64 x])) w' := ⟨_, rfl, Kd.R_nil _ _ _ _ _, hb⟩

set_option maxHeartbeats 3200000 in
set_option maxRecDepth 100000 in
theorem bitmap_Parse (A : Option Addr) (c : Nat) (l : List Int) (w : World) (hr : RB w A l) (hm : l.length ≤ 140737488355328) :
    Calls Tryd.prog 34 #[.slice A l.length c] w (MapPost w (mapOf l)) := by
  have hmf : ∀ (fn : Fn) (first cap : Array Value) (w : World), (Instr.makeFunc fn first cap).run Tryd.prog w = .ok (.func fn first cap) w := fun _ _ _ _ => rfl
  have HEg := Lib.hid (enters_of Tryd.func56 (by kernel_rfl) rfl)
  obtain ⟨X, hX⟩ : ∃ X, X = mapOf l := ⟨_, rfl⟩
  rw [← hX]
  unfold mapOf at hX
  have HX0 := Lib.hid hX
  clear hX
  have HN := Lib.hid (cursor_New A c l w hr hm)
  clear hr
  go_enter Tryd.func34, Tryd.ntmps34
  go_wp2_with fail
  refine HN.out.mono ?_
  rintro e w1 ⟨⟨p, v, rfl, hp, hcur⟩, hb⟩
  have HT := Lib.hid (cursor_Take p v l 0 8 w1 hcur (Nat.zero_le _) (by decide) hm)
  have HP := Lib.hid hp
  have hpw : p < w1.heap.size := hcur.lt
  have HB1 := Lib.hid hb
  clear hb hcur HN
  dsimp only
  go_wp2_with fail
  have hX := HX0.out
  clear HX0
  by_cases h8 : l.length < 8
  · rw [if_pos h8] at hX
    have ht : takeOf l 0 8 = ([], 3, 0) := if_pos (by omega)
    rw [ht] at HT
    have HX := Lib.hid hX
    clear hX
    refine HT.out.mono ?_
    rintro e w2 ⟨a, b, rfl, hv, rfl, hcur, hg⟩
    have HB2 := Lib.hid (HB1.out.trans (below_of_grown hg HB1.out.size HP.out))
    clear hv hcur hg HT
    dsimp only
    go_wp2_with fail
    go_ret3
    rw [HX.out]
    exact MapPost.none_ HB2.out
  rw [if_neg h8] at hX
  have ht : takeOf l 0 8 = (l.take 8, 0, 8) := by rw [takeOf, if_neg (by omega)]; simp
  rw [ht] at HT
  obtain ⟨m, hmm⟩ : ∃ m, m = l.take 8 := ⟨_, rfl⟩
  have hm8 : m.length = 8 := by rw [hmm, List.length_take]; omega
  rw [← hmm] at HT hX
  have HX0 := Lib.hid hX
  clear hX
  refine HT.out.mono ?_
  rintro e w2 ⟨a, b, rfl, hv, rfl, hcur, hg⟩
  obtain ⟨A2, c2, rfl, hc2, hr2⟩ := hv.reads
  have HB2 := Lib.hid (HB1.out.trans (below_of_grown hg HB1.out.size HP.out))
  have HH := Lib.hid (bit_calls A2 c2 m 1 (by decide) (by omega) (by omega) w2 hr2)
  have HV2 := Lib.hid hv
  have HR2 := Lib.hid hr2
  have HC2 := Lib.hid hcur
  have HS2 := Lib.hid hg.size
  clear hv hcur hg HT hr2 ht
  dsimp only
  rw [hm8] at HH ⊢
  go_wp2_with fail
  refine HH.out.mono ?_
  rintro e w3 ⟨rfl, rfl⟩
  clear HH
  have hX := HX0.out
  clear HX0
  by_cases hb1 : hasN m 1 = false
  · rw [if_pos hb1] at hX
    rw [hb1]
    have HX := Lib.hid hX
    have HW := Lib.hid (bitmap_which 56 #[] #[.slice A2 m.length c2] 2 64 (by decide) (by decide) (by decide) (hasN m) HEg.out w2 (bit_test A2 c2 m 2 64 (by decide) (by omega) (by omega) w2 HR2.out))
    rw [hm8] at HW
    clear hX
    dsimp only
    go_wp2_with fail
    refine HW.out.mono ?_
    rintro e w3 ⟨⟨v3, rfl, hr3⟩, hb⟩
    have HR3 := Lib.hid (Kd.R_lower hr3 HB2.out.size)
    have HB3 := Lib.hid (below_then HB2.out HB2.out.size hb)
    clear hr3 hb HW
    dsimp only
    go_wp2_with fail
    go_ret3
    rw [HX.out]
    exact ⟨_, rfl, HR3.out, HB3.out⟩
  rw [if_neg hb1] at hX
  have hb2 : hasN m 1 = true := by simpa using hb1
  rw [hb2]
  have hHX := Lib.hid hX
  clear hX hb1 hb2
  have HT := Lib.hid (cursor_Take p v l 8 8 w2 HC2.out (by omega) (by decide) hm)
  dsimp only
  go_wp2_with fail
  have hX := hHX.out
  clear hHX
  by_cases h16 : l.length < 16
  · rw [if_pos h16] at hX
    have ht : takeOf l 8 8 = ([], 3, 8) := if_pos (by omega)
    rw [ht] at HT
    have HX := Lib.hid hX
    clear hX
    refine HT.out.mono ?_
    rintro e w3 ⟨a, b, rfl, hv, rfl, hcur, hg⟩
    have HB3 := Lib.hid (HB2.out.trans (below_of_grown hg HB2.out.size HP.out))
    clear hv hcur hg HT
    dsimp only
    go_wp2_with fail
    go_ret3
    rw [HX.out]
    exact MapPost.none_ HB3.out
  rw [if_neg h16] at hX
  have HX0 := Lib.hid hX
  clear hX
  have ht : takeOf l 8 8 = ((l.take 16).drop 8, 0, 16) := by rw [takeOf, if_neg (by omega)]
  rw [ht] at HT
  obtain ⟨n, hnn⟩ : ∃ n, n = (l.take 16).drop 8 := ⟨_, rfl⟩
  have hn8 : n.length = 8 := by rw [hnn, List.length_drop, List.length_take]; omega
  rw [← hnn] at HT
  have hmn : m ++ n = l.take 16 := by
    rw [hmm, hnn]
    have : l.take 8 = (l.take 16).take 8 := by rw [List.take_take]; rfl
    rw [this, List.take_append_drop]
  have HMN := Lib.hid hmn
  have hlen : (m ++ n).length = 16 := by rw [List.length_append]; omega
  refine HT.out.mono ?_
  rintro e w3 ⟨a, b, rfl, hv, rfl, hcur, hg⟩
  obtain ⟨A3, c3, rfl, hc3, hr3⟩ := hv.reads
  dsimp only at hr3 hc3 hv ⊢
  have HV3 := Lib.hid ((HV2.out.other hg (.inr (fun e => by have := HV2.out.base_ p e; omega))).less HB1.out.size)
  have HR3 := Lib.hid hr3
  have HB3 := Lib.hid (HB2.out.trans (below_of_grown hg HB2.out.size HP.out))
  clear hv hcur hg HT hr3 ht hmm hnn hmn HC2 HR2 HV2
  rw [hm8] at HV3
  rw [hn8] at hc3 ⊢
  go_wp2_with (at_builtin; refine wpList_bytes_append _ rfl (.tmp 34) (.tmp 35) rfl w.heap.size (.slice A2 8 c2) m rfl HV3.out A3 c3 n (by rw [hn8]; rfl) HR3.out (by omega) HB3.out.size ?_; intro v4 w4 hv4 hb4 hgr4 hat4; clear hgr4 hat4; have HV4 := Lib.hid hv4; have HB4 := Lib.hid (HB3.out.trans hb4); clear hv4 hb4)
  obtain ⟨A4, c4, hv4, hc4, hr4⟩ := HV4.out.reads
  subst hv4
  have hX := HX0.out
  rw [← HMN.out] at hX
  have HX1 := Lib.hid hX
  generalize m ++ n = L at *
  rw [hlen] at hc4 ⊢
  have HR4 := Lib.hid hr4
  have H65 := Lib.hid (bit_calls A4 c4 L 65 (by decide) (by omega) (by omega) w4 hr4)
  have HWa := Lib.hid (bitmap_which 56 #[] #[.slice A4 L.length c4] 66 128 (by decide) (by decide) (by decide) (hasN L) HEg.out w4 (bit_test A4 c4 L 66 128 (by decide) (by omega) (by omega) w4 hr4))
  have hwl := whichL_le (hasN L) 66 63
  rw [hlen] at H65 HWa
  clear hr4 hX HX0 HMN HV4 HV3 HR3
  have hX := HX1.out
  clear HX1
  by_cases h65 : hasN L 65 = true
  · rw [if_pos h65] at hX
    rw [h65] at H65
    have HX := Lib.hid hX
    clear hX
    refine H65.out.mono ?_
    rintro e w5 ⟨rfl, rfl⟩
    dsimp only
    go_wp2_with fail
    go_ret3
    rw [HX.out]
    exact MapPost.none_ HB4.out
  rw [if_neg h65] at hX
  have h65' : hasN L 65 = false := by simpa using h65
  rw [h65'] at H65
  have hHX := Lib.hid hX
  clear hX h65 h65'
  refine H65.out.mono ?_
  rintro e w5 ⟨rfl, rfl⟩
  dsimp only
  go_wp2_with fail
  have hX := hHX.out
  clear hHX H65
  refine HWa.out.mono ?_
  rintro e w5 ⟨⟨v5, rfl, hr5⟩, hb5⟩
  have hr5' : Kd.R (Kd.int .i64) 3 w5 w4.heap.size (fun _ => True) v5 (whichL (hasN L) 66 63) := hr5
  obtain ⟨A5, c5, hv5, hc5, _⟩ := Kd.R_reads hr5'
  have HB5 := Lib.hid (below_then HB4.out HB4.out.size hb5)
  have HR5 := Lib.hid (RB.below HR4.out hb5)
  clear hr5 hr5' hb5 HWa
  subst hv5
  obtain ⟨z, hz⟩ : ∃ z, z = (whichL (hasN L) 66 63).length := ⟨_, rfl⟩
  rw [← hz] at hX hc5 hwl ⊢
  clear hz
  by_cases h0 : z = 0
  · rw [if_pos h0] at hX
    have HX := Lib.hid hX
    have b1 : ((z : Int) == 0) = true := by simp [h0]
    clear hX h0
    dsimp only
    go_wp2_with fail
    go_ret3
    rw [HX.out]
    exact MapPost.none_ HB5.out
  rw [if_neg h0] at hX
  have HX := Lib.hid hX
  have b1 : ((z : Int) == 0) = false := by simp; omega
  clear hX h0
  have HWb := Lib.hid (bitmap_which 56 #[] #[.slice A4 L.length c4] 2 128 (by decide) (by decide) (by decide) (hasN L) HEg.out w5 (bit_test A4 c4 L 2 128 (by decide) (by omega) (by omega) w5 HR5.out))
  rw [hlen] at HWb
  dsimp only
  go_wp2_with fail
  refine HWb.out.mono ?_
  rintro e w6 ⟨⟨v6, rfl, hr6⟩, hb6⟩
  have HR6 := Lib.hid (Kd.R_lower hr6 HB5.out.size)
  have HB6 := Lib.hid (below_then HB5.out HB5.out.size hb6)
  clear hr6 hb6 HWb
  dsimp only
  go_wp2_with fail
  go_ret3
  rw [HX.out]
  exact ⟨_, rfl, HR6.out, HB6.out⟩
end Go.Proofs.YtonhmaklnkidhaaDoor.G
