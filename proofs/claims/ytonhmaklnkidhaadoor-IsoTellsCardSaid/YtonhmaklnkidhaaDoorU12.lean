/- What the functions of package element and of the verifier do, one contract each: a part of the proof; no conditions of its own (my own text, filled from XU12.lean.tpl). -/
import Derived.Test.YtonhmaklnkidhaaDoorU11
namespace Go.Proofs.YtonhmaklnkidhaaDoor.G
open Go.RowKit Go.Proofs.YtonhmaklnkidhaaDoorW.PrintWords

/-- the result's own cells, as they lie empty -/
structure Zero (w : World) (B : Nat) : Prop where
  z0 : w.cell? ⟨B, 0, none⟩ = some (.string ⟨#[]⟩)
  z1 : w.cell? ⟨B, 1, none⟩ = some (.slice none 0 0)
  f0 : w.frozen? ⟨B, 0, none⟩ = false
  f1 : w.frozen? ⟨B, 1, none⟩ = false
theorem Zero.lt {w : World} {B : Nat} (h : Zero w B) : B < w.heap.size := World.block_lt_of_cell? w _ h.z0
theorem Zero.grown {w w' : World} {B p : Nat} (h : Zero w B) (hg : w.grownBy w' (some p)) (hp : B < p) : Zero w' B := by
  have hne : some B ≠ some p := fun e => by injection e with e; omega
  exact ⟨(hg.cell_far ⟨B, 0, none⟩ h.lt hne).trans h.z0, (hg.cell_far ⟨B, 1, none⟩ h.lt hne).trans h.z1, (hg.frozen_far ⟨B, 0, none⟩ h.lt hne).trans h.f0, (hg.frozen_far ⟨B, 1, none⟩ h.lt hne).trans h.f1⟩
theorem Zero.below {w w' : World} {B : Nat} (h : Zero w B) (hb : Below w.heap.size w w') : Zero w' B :=
  ⟨(hb.cell (p := ⟨B, 0, none⟩) h.lt).trans h.z0, (hb.cell (p := ⟨B, 1, none⟩) h.lt).trans h.z1, (hb.frozen (p := ⟨B, 0, none⟩) h.lt).trans h.f0, (hb.frozen (p := ⟨B, 1, none⟩) h.lt).trans h.f1⟩
/-- a message handed back, and why not -/
def ParsePost (w : World) (r : ByteArray × List (Int × List Int) × Int) (e : Ending) (w' : World) : Prop :=
  ∃ v, e = .returned (.tuple #[.agg #[.string r.1, v], .int .i64 r.2.2]) ∧ Kd.R kE 26 w' w.heap.size (fun _ => True) v r.2.1 ∧ Below w.heap.size w w'
theorem ParsePost.none_ {w w' : World} {x : Int} (hb : Below w.heap.size w w') : ParsePost w (⟨#[]⟩, [], x) (.returned (.tuple #[.agg #[.string ⟨#[]⟩, .slice none 0 0], .int .i64 x])) w' := ⟨_, rfl, Kd.R_nil _ _ _ _ _, hb⟩

set_option maxHeartbeats 6400000 in
set_option maxRecDepth 100000 in
theorem iso_Parse (A : Option Addr) (c : Nat) (l : List Int) (w : World) (hr : RB w A l) (hc : l.length ≤ c) (hm : l.length ≤ 140737488355328) :
    Calls Tryd.prog 19 #[.slice A l.length c] w (ParsePost w (parseOf l)) := by
  have hmf : ∀ (fn : Fn) (first cap : Array Value) (w : World), (Instr.makeFunc fn first cap).run Tryd.prog w = .ok (.func fn first cap) w := fun _ _ _ _ => rfl
  obtain ⟨X, hX⟩ : ∃ X, X = parseOf l := ⟨_, rfl⟩
  rw [← hX]
  unfold parseOf at hX
  by_cases hbig : 4096 < l.length
  · have HX : Hid (X = (⟨#[]⟩, [], 4)) := Lib.hid (by rw [hX, if_pos hbig])
    have b1 : decide ((4096 : Int) < (l.length : Int)) = true := decide_eq_true (by omega)
    clear hX hbig hr
    go_enter Tryd.func19, Tryd.ntmps19
    go_wp2_with fail
    rw [HX.out]
    refine bodyPost_ret (v := .tuple #[.agg #[.string ⟨#[]⟩, .slice none 0 0], .int .i64 4]) (by simp [results, Tryd.results19, go_sem]) rfl (ParsePost.none_ ?_)
    exact below_alloc (Below.refl _ _) _
  rw [if_neg hbig] at hX
  have b1 : decide ((4096 : Int) < (l.length : Int)) = false := decide_eq_false (by omega)
  have hX0 := Lib.hid hX
  clear hX
  have H0 : Zero (w.alloc (.cells #[.string ⟨#[]⟩, .slice none 0 0] 46)) w.heap.size := ⟨by rw [World.cell?_alloc_new]; rfl, by rw [World.cell?_alloc_new]; rfl, by rw [World.frozen?_alloc_new], by rw [World.frozen?_alloc_new]⟩
  have HZ0 := Lib.hid H0
  have Hb0 := Lib.hid (below_alloc (Below.refl w.heap.size w) (.cells #[.string ⟨#[]⟩, .slice none 0 0] 46))
  have HR := Lib.hid hr
  clear hr H0 hbig
  go_enter Tryd.func19, Tryd.ntmps19
  go_wp2_with fail
  refine (cursor_New A c l _ (RB.below HR.out Hb0.out) hm).mono ?_
  rintro e w1 ⟨⟨p, v, rfl, hp, hcur⟩, hb1⟩
  have hp' : w.heap.size < p := by
    have : (w.alloc (.cells #[.string ⟨#[]⟩, .slice none 0 0] 46)).heap.size = w.heap.size + 1 := by simp
    omega
  have HZ1 := Lib.hid (HZ0.out.below hb1)
  have HB1 := Lib.hid (below_then Hb0.out Hb0.out.size hb1)
  have HT := Lib.hid (cursor_Text p v l 0 4 w1 hcur (Nat.zero_le _) (by decide) hm)
  clear hp hcur hb1
  dsimp only
  go_wp2_with fail
  have hX := hX0.out
  clear hX0
  by_cases h4 : l.length < 4
  · have HXe : Hid (X = (⟨#[]⟩, [], 3)) := Lib.hid (by rw [hX, if_pos h4])
    have ht : takeOf l 0 4 = ([], 3, 0) := if_pos (by omega)
    rw [ht] at HT
    clear hX h4 ht
    refine HT.out.mono ?_
    rintro e w2 ⟨a, b, rfl, rfl, rfl, hcur, hg⟩
    have hZ2 := HZ1.out.grown hg hp'
    have HB2 := Lib.hid (HB1.out.trans (below_of_grown hg HB1.out.size (Nat.le_of_lt hp')))
    obtain ⟨z0, z1, z2, z3⟩ := hZ2
    clear hcur hg HT
    dsimp only
    go_wp2_with fail
    rw [HXe.out]
    refine bodyPost_ret (v := .tuple #[.agg #[.string ⟨#[]⟩, .slice none 0 0], .int .i64 3]) (by simp [results, Tryd.results19, go_sem, z0, z1]) rfl (ParsePost.none_ ?_)
    exact ((HB2.out).setCell (Nat.le_refl _) _).setCell (Nat.le_refl _) _
  rw [if_neg h4] at hX
  have ht : takeOf l 0 4 = (l.take 4, 0, 4) := by rw [takeOf, if_neg (by omega)]; simp
  rw [ht] at HT
  obtain ⟨mti, hmti⟩ : ∃ mti, mti = strOfNums (l.take 4) := ⟨_, rfl⟩
  have hms : mti.size ≤ 9223372036854775807 := by rw [hmti, strOfNums_size, List.length_take]; omega
  rw [← hmti] at hX
  have hX1 := Lib.hid hX
  have HMt := Lib.hid hmti
  clear hX ht
  refine HT.out.mono ?_
  rintro e w2 ⟨a, b, rfl, rfl, rfl, hcur, hg⟩
  have HZ2 := Lib.hid (HZ1.out.grown hg hp')
  have HB2 := Lib.hid (HB1.out.trans (below_of_grown hg HB1.out.size (Nat.le_of_lt hp')))
  clear hcur hg HT
  dsimp only
  rw [← HMt.out]
  clear hmti
  go_wp2_with fail
  refine (digits_Right.calls mti 4 4 (rightB mti 4 4) _ (right_f mti 4 4 hms)).mono ?_
  rintro e w3 ⟨rfl, hd⟩
  have hb3 := hd.below
  have HZ3 := Lib.hid (HZ2.out.below hb3)
  have HB3 := Lib.hid (below_then HB2.out HB2.out.size hb3)
  clear hd hb3
  dsimp only
  have hX := hX1.out
  clear hX1
  by_cases hrt : rightB mti 4 4 = false
  · rw [hrt]
    have HXe : Hid (X = (⟨#[]⟩, [], 5)) := Lib.hid (by rw [hX, if_pos hrt])
    clear hX hrt
    obtain ⟨z0, z1, z2, z3⟩ := HZ3.out
    go_wp2_with fail
    rw [HXe.out]
    refine bodyPost_ret (v := .tuple #[.agg #[.string ⟨#[]⟩, .slice none 0 0], .int .i64 5]) (by simp [results, Tryd.results19, go_sem, z0, z1]) rfl (ParsePost.none_ ?_)
    exact ((HB3.out).setCell (Nat.le_refl _) _).setCell (Nat.le_refl _) _
  rw [if_neg hrt] at hX
  have hrt' : rightB mti 4 4 = true := by simpa using hrt
  rw [hrt']
  obtain ⟨A3, hcut3, hcr3, hcl3⟩ := cut_drop A c l 4 (by decide) (by omega) hc
  have h44 : (4 : Int).toNat = 4 := rfl
  rw [h44] at hcut3 hcr3 hcl3
  have hdl : (l.drop 4).length = l.length - 4 := List.length_drop
  have HP := Lib.hid (bitmap_Parse A3 (c - 4) (l.drop 4) w3 (hcr3 w3 (RB.below HR.out HB3.out)) (by omega))
  have hmb := mapOf_bounds (l.drop 4)
  generalize mapOf (l.drop 4) = mp at HP hX hmb
  obtain ⟨nos, n, er⟩ := mp
  simp only at hX hmb
  obtain ⟨d4, hd4⟩ : ∃ d4, d4 = l.drop 4 := ⟨_, rfl⟩
  obtain ⟨c4, hc4⟩ : ∃ c4, c4 = c - 4 := ⟨_, rfl⟩
  rw [← hd4, ← hc4] at hcut3 HP
  rw [← hd4] at hmb hdl
  have hX1 := Lib.hid hX
  have HMB := Lib.hid hmb
  have HDL := Lib.hid hdl
  clear hX hrt hrt' hcr3 hcl3 hmb hd4 hc4 h44 hdl
  go_wp2_with fail
  refine HP.out.mono ?_
  rintro e w4 ⟨v4, rfl, hr4, hb4⟩
  have HZ4 := Lib.hid (HZ3.out.below hb4)
  have HB4 := Lib.hid (below_then HB3.out HB3.out.size hb4)
  have hr4' : Kd.R (Kd.int .i64) 3 w4 w3.heap.size (fun _ => True) v4 nos := hr4
  obtain ⟨A4, cc4, hv4, hcc4, hC4⟩ := Kd.R_reads hr4'
  subst hv4
  have HN : Hid (∀ w', Below w4.heap.size w4 w' → RI w' A4 nos) := Lib.hid (fun w' hw' => RI.below hC4 hw')
  clear hr4 hr4' hb4 HP hC4 hcc4
  dsimp only
  have hX := hX1.out
  clear hX1
  by_cases he : er ≠ 0
  · have HXe : Hid (X = (⟨#[]⟩, [], er)) := Lib.hid (by rw [hX, if_pos he])
    have b2 : (er != 0) = true := bne_iff_ne.2 he
    clear hX he
    obtain ⟨z0, z1, z2, z3⟩ := HZ4.out
    go_wp2_with fail
    rw [HXe.out]
    refine bodyPost_ret (v := .tuple #[.agg #[.string ⟨#[]⟩, .slice none 0 0], .int .i64 er]) (by simp [results, Tryd.results19, go_sem, z0, z1]) rfl (ParsePost.none_ ?_)
    exact ((HB4.out).setCell (Nat.le_refl _) _).setCell (Nat.le_refl _) _
  rw [if_neg he] at hX
  have he0 : er = 0 := by simpa using he
  have b2 : (er != 0) = false := by simpa using he
  obtain ⟨n, rfl⟩ := Int.eq_ofNat_of_zero_le HMB.out.1
  have hn4 : 4 + n ≤ l.length := by have := HMB.out.2.2 he0; have := HDL.out; omega
  have hn127 := HMB.out.2.1
  rw [Int.toNat_natCast] at hX
  obtain ⟨E, hE⟩ : ∃ E : Int, E = ((4 + n : Nat) : Int) := ⟨_, rfl⟩
  have e1 : IntKind.i64.wrap (4 + (n : Int)) = E := by rw [IntKind.wrap_i64]; omega
  obtain ⟨A5, hcut5, hcr5, hcl5⟩ := cut_drop A c l E (by omega) (by omega) hc
  have hEn : E.toNat = 4 + n := by omega
  rw [hEn] at hcut5 hcr5 hcl5
  obtain ⟨rest, hrest⟩ : ∃ rest, rest = l.drop (4 + n) := ⟨_, rfl⟩
  obtain ⟨c5, hc5⟩ : ∃ c5, c5 = c - (4 + n) := ⟨_, rfl⟩
  rw [← hrest, ← hc5] at hcut5 hcl5
  rw [← hrest] at hcr5 hX
  have hWA : WalkAt w4 (w4.alloc (.cells #[.slice A5 rest.length c5, .slice none 0 0] 69)) w4.heap.size rest [] :=
    ⟨below_alloc (Below.refl _ _) _, Nat.le_refl _, by rw [World.frozen?_alloc_new], by rw [World.frozen?_alloc_new], ⟨A5, c5, by rw [World.cell?_alloc_new]; rfl, hcl5, fun w' hw' => hcr5 w' (RB.below HR.out (below_then HB4.out HB4.out.size hw'))⟩, ⟨_, by rw [World.cell?_alloc_new]; rfl, Kd.R_nil _ _ _ _ _⟩⟩
  have HEa := Lib.hid (iso_each w4 _ w4.heap.size A4 cc4 nos rest [] HN.out hWA (by simp only [List.length_nil]; omega))
  generalize eachOf nos rest [] = ea at HEa hX
  obtain ⟨rest2, els2, er2⟩ := ea
  simp only at hX
  have hX1 := Lib.hid hX
  clear hX he hWA hcr5 hcl5 hEn hE hrest hc5 HN HMB
  go_wp2_with fail
  refine HEa.out.mono ?_
  rintro e w5 ⟨rfl, hw5⟩
  have HW5 := Lib.hid hw5
  have HZ5 := Lib.hid (HZ4.out.grown (p := w4.heap.size) ⟨hw5.bel.os, hw5.bel.tape, hw5.bel.output, hw5.bel.size, fun k hk _ => hw5.bel.block k hk⟩ HZ4.out.lt)
  have HB5 := Lib.hid (below_then HB4.out HB4.out.size hw5.bel)
  clear hw5 HEa
  dsimp only at HW5 ⊢
  have hX := hX1.out
  clear hX1
  by_cases he2 : er2 ≠ 0
  · have HXe : Hid (X = (⟨#[]⟩, [], er2)) := Lib.hid (by rw [hX, if_pos he2])
    have b3 : (er2 != 0) = true := bne_iff_ne.2 he2
    clear hX he2
    obtain ⟨z0, z1, z2, z3⟩ := HZ5.out
    go_wp2_with fail
    rw [HXe.out]
    refine bodyPost_ret (v := .tuple #[.agg #[.string ⟨#[]⟩, .slice none 0 0], .int .i64 er2]) (by simp [results, Tryd.results19, go_sem, z0, z1]) rfl (ParsePost.none_ ?_)
    exact ((HB5.out).setCell (Nat.le_refl _) _).setCell (Nat.le_refl _) _
  rw [if_neg he2] at hX
  have b3 : (er2 != 0) = false := by simpa using he2
  obtain ⟨A6, c6, y0, y1, y2⟩ := HW5.out.left_
  obtain ⟨v6, y3, hR6⟩ := HW5.out.row
  clear y2
  obtain ⟨z, hz⟩ : ∃ z, z = rest2.length := ⟨_, rfl⟩
  rw [← hz] at hX y0
  clear y1
  by_cases hz0 : 0 < z
  · have HXe : Hid (X = (⟨#[]⟩, [], 17)) := Lib.hid (by rw [hX, if_pos hz0])
    have b4 : decide ((0 : Int) < (z : Int)) = true := decide_eq_true (by omega)
    clear hX hz he2 hR6
    obtain ⟨z0, z1, z2, z3⟩ := HZ5.out
    go_wp2_with fail
    rw [HXe.out]
    refine bodyPost_ret (v := .tuple #[.agg #[.string ⟨#[]⟩, .slice none 0 0], .int .i64 17]) (by simp [results, Tryd.results19, go_sem, z0, z1]) rfl (ParsePost.none_ ?_)
    exact ((HB5.out).setCell (Nat.le_refl _) _).setCell (Nat.le_refl _) _
  have HXe : Hid (X = (mti, els2, 0)) := Lib.hid (by rw [hX, if_neg hz0])
  obtain rfl : z = 0 := by omega
  obtain ⟨A7, c7, hv7⟩ := Kd.R_slice hR6
  subst hv7
  have HR6 := Lib.hid (Kd.R_bound hR6)
  clear hX hz0 hz he2 hR6
  have hB0 := HZ4.out.lt
  have HB0 := Lib.hid hB0
  obtain ⟨z0, z1, z2, z3⟩ := HZ5.out
  go_wp2_with fail
  rw [HXe.out]
  refine bodyPost_ret (v := .tuple #[.agg #[.string mti, .slice A7 els2.length c7], .int .i64 0]) (by simp [results, Tryd.results19, go_sem, z0, z1]) rfl ⟨_, rfl, ?_, ?_⟩
  · refine Kd.R_mono (Kd.R_lower (Kd.R_far (Kd.R_far HR6.out (fun k hk => ?_) _) (fun k hk => ?_) _) (Nat.le_of_lt HB0.out)) (fun _ _ => trivial)
    · have := hk.2.1; have := HB0.out; show k ≠ w.heap.size; omega
    · have := hk.2.1; have := HB0.out; show k ≠ w.heap.size; omega
  · exact (HB5.out.setCell (Nat.le_refl _) _).setCell (Nat.le_refl _) _
end Go.Proofs.YtonhmaklnkidhaaDoor.G
