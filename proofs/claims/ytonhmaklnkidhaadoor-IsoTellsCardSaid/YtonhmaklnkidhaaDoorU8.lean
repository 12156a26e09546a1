/- What the functions of package element and of the verifier do, one contract each: a part of the proof; no conditions of its own (my own text, filled from XU8.lean.tpl). -/
import Derived.Test.YtonhmaklnkidhaaDoorU7
namespace Go.Proofs.YtonhmaklnkidhaaDoor.G
open Go.RowKit Go.Proofs.YtonhmaklnkidhaaDoorW.PrintWords

/-- an element: a number, and bytes -/
abbrev kE : Kd (Int × List Int) := Kd.pair (Kd.int .i64) (Kd.slice 5 (Kd.int .u8))
theorem kE_open {w : World} {x : Int × List Int} {cs : List Value} (h : kE.K w x cs) : ∃ A c, cs = [.int .i64 x.1, .slice A x.2.length c] ∧ x.2.length ≤ c ∧ RB w A x.2 := by
  obtain ⟨_, _, rfl, rfl, ⟨A1, c1, rfl, l1, g1⟩⟩ := h
  exact ⟨A1, c1, rfl, l1, g1⟩
theorem kE_at {w : World} {A : Option Addr} {xs : List (Int × List Int)} (h : Kd.C kE w A xs.length xs) (k : Nat) (hk : k < xs.length) :
    ∃ ad B c, A = some ad ∧ w.cell? (ad.add (k * 2)) = some (.int .i64 xs[k].1) ∧ w.cell? ⟨(ad.add (k * 2)).block, (ad.add (k * 2)).off + 1, none⟩ = some (.slice B xs[k].2.length c) ∧ xs[k].2.length ≤ c ∧ RB w B xs[k].2 := by
  obtain ⟨ad, c, e, _, hK, hc0⟩ := Kd.C_get h ((0 : Int), ([] : List Int)) (k : Int) (by omega) (by omega)
  have hx : xs.getD (k : Int).toNat ((0 : Int), ([] : List Int)) = xs[k] := by simp [List.getD_eq_getElem?_getD, hk]
  rw [hx] at hK
  have hc : ∀ j u, c[j]? = some u → w.cell? (ad.add (k * 2 + j)) = some u := hc0
  obtain ⟨A1, c1, rfl, l1, g1⟩ := kE_open hK
  exact ⟨ad, A1, c1, e, hc 0 _ rfl, by rw [← add_field _ _ 1 (by omega)]; exact hc 1 _ rfl, l1, g1⟩
def packGo (acc : List Int) : List (Int × List Int) → List Int × Int
  | [] => if 4096 < acc.length then ([], 4) else (acc, 0)
  | x :: r => if (writeOf x.1 x.2).2 ≠ 0 then ([], (writeOf x.1 x.2).2) else packGo (acc ++ (writeOf x.1 x.2).1) r
/-- a message as bytes, and why not -/
def packOf (mti : ByteArray) (fs : List (Int × List Int)) : List Int × Int :=
  if rightB mti 4 4 = false then ([], 5) else
  if (mapB (fs.map (·.1))).2 ≠ 0 then ([], 1) else
  packGo (bytesOf mti ++ (mapB (fs.map (·.1))).1) fs
/-- all but the last look: what has been written, or why not -/
def accGo (acc : List Int) : List (Int × List Int) → List Int × Int
  | [] => (acc, 0)
  | x :: r => if (writeOf x.1 x.2).2 ≠ 0 then ([], (writeOf x.1 x.2).2) else accGo (acc ++ (writeOf x.1 x.2).1) r
theorem packGo_acc (acc : List Int) (l : List (Int × List Int)) : packGo acc l = if (accGo acc l).2 ≠ 0 then ([], (accGo acc l).2) else if 4096 < (accGo acc l).1.length then ([], 4) else ((accGo acc l).1, 0) := by
  induction l generalizing acc with
  | nil => rfl
  | cons x r ih =>
    rw [packGo, accGo]
    split
    · rename_i h
      simp [h]
    · exact ih _
theorem accGo_append (acc : List Int) (l r : List (Int × List Int)) : accGo acc (l ++ r) = if (accGo acc l).2 ≠ 0 then ([], (accGo acc l).2) else accGo (accGo acc l).1 r := by
  induction l generalizing acc with
  | nil => simp [accGo]
  | cons x l ih =>
    rw [List.cons_append, accGo, accGo]
    split
    · rename_i h
      simp [h]
    · exact ih _
theorem writeOf_len (no : Int) (l : List Int) : (writeOf no l).1.length ≤ 1003 := by
  unfold writeOf
  split
  · simp
  · rename_i h
    obtain ⟨_, hL, _⟩ := check_zero (by simpa using h : checkOf no l = 0)
    have hle := long_le hL
    have hb := fmt_bounds no
    have hfd := fmt_digits no
    have hhd : (headOf (fmtOf no) l.length).length ≤ 4 := by
      unfold headOf
      split
      · rename_i hd
        rcases hfd with hfd | hfd
        · omega
        · obtain ⟨D, hD⟩ := Int.eq_ofNat_of_zero_le hb.1
          have hDn : (fmtOf no).digits.toNat = D := by omega
          rw [hDn] at hfd ⊢
          have hll : l.length < 10 ^ D := by
            have h1 : ((l.length : Nat) : Int) < ((10 ^ D : Nat) : Int) := by
              rw [Int.natCast_pow]
              exact Int.lt_of_le_of_lt hle hfd
            omega
          rw [padded_length _ _ (by rw [Lib.decDigits_length]; exact nDigits_le D _ (by omega) hll)]
          omega
      · simp
    simp only [List.length_append, nums8, List.length_map]
    omega
theorem accGo_len (acc : List Int) (l : List (Int × List Int)) : (accGo acc l).1.length ≤ acc.length + 1003 * l.length := by
  induction l generalizing acc with
  | nil => simp [accGo]
  | cons x r ih =>
    rw [accGo]
    split
    · simp
    · have h1 := ih (acc ++ (writeOf x.1 x.2).1)
      have h2 := writeOf_len x.1 x.2
      rw [List.length_append] at h1
      rw [List.length_cons]
      omega
theorem mapB_len (l : List Int) : (mapB l).1.length ≤ 16 := by
  unfold mapB
  split
  · simp
  · rw [foldl_setN_len]
    split
    · rw [setN_len]; simp
    · simp
end Go.Proofs.YtonhmaklnkidhaaDoor.G
