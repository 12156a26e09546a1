/- What the functions of package element and of the verifier do, one contract each: a part of the proof; no conditions of its own (my own text, filled from XU3.lean.tpl). -/
import Derived.Test.YtonhmaklnkidhaaDoorU2
namespace Go.Proofs.YtonhmaklnkidhaaDoor.G
open Go.RowKit Go.Proofs.YtonhmaklnkidhaaDoorW.PrintWords

/-- two values handed back -/
def PairPost (R : Value → Value → World → Prop) (e : Ending) (w' : World) : Prop := ∃ a b, e = .returned (.tuple #[a, b]) ∧ R a b w'
theorem cursor_read (g : FuncId) (first cap : Array Value) (n : Int) (R : Value → Value → World → Prop) (eg : ∀ args w, (callFunc g args).run Tryd.prog w = .ok (.enter g args) w) (w : World)
    (h : Calls Tryd.prog g ((first.push (.int .i64 n)) ++ cap) w (PairPost R)) :
    Calls Tryd.prog 52 #[.func (.func g) first cap, .int .i64 n] w (PairPost R) := by
  have H := Lib.hid h
  clear h
  go_enter Tryd.func52, Tryd.ntmps52
  go_wp2_with fail
  refine H.out.mono ?_
  rintro e w1 ⟨a, b, rfl, hR⟩
  have HR := Lib.hid hR
  clear hR
  dsimp only
  go_wp2_with fail
  go_ret2
  exact ⟨a, b, rfl, HR.out⟩
/-- what a cursor hands out: a copy -/
def TakenR (w : World) (p : Nat) (v : Value) (l : List Int) (r : List Int × Int × Nat) (a b : Value) (w' : World) : Prop :=
  BRow w' w.heap.size a r.1 ∧ b = .int .i64 r.2.1 ∧ Cur w' p v l (r.2.2 : Nat) ∧ w.grownBy w' (some p)
theorem takeOf_len (l : List Int) (pos n : Nat) : (takeOf l pos n).1.length ≤ l.length := by
  unfold takeOf
  split
  · simp
  · simp
    omega
set_option maxHeartbeats 1600000 in
set_option maxRecDepth 100000 in
theorem cursor_Take (p : Nat) (v : Value) (l : List Int) (pos n : Nat) (w : World) (h : Cur w p v l pos) (h1 : pos ≤ l.length) (hn : n ≤ 1000) (hm : l.length ≤ 140737488355328) :
    Calls Tryd.prog 53 #[.pointer (some ⟨p, 0, none⟩), .int .i64 n] w (PairPost (TakenR w p v l (takeOf l pos n))) := by
  have hmf : ∀ (fn : Fn) (first cap : Array Value) (w : World), (Instr.makeFunc fn first cap).run Tryd.prog w = .ok (.func fn first cap) w := fun _ _ _ _ => rfl
  have hT := cursor_take p v l pos n w h h1 hn hm
  have hl := takeOf_len l pos n
  generalize takeOf l pos n = r at *
  obtain ⟨m, e, q⟩ := r
  simp only at hl
  have hRd := cursor_read 78 #[.pointer (some ⟨p, 0, none⟩)] #[] n (fun a b w' => TakePost w p v l (m, e, q) (.returned (.tuple #[a, b])) w') (enters_of Tryd.func78 (by kernel_rfl) rfl) w (hT.mono fun e' w' hp => by
    obtain ⟨⟨A, c, he, hc, hr⟩, hcur, hg⟩ := hp
    exact ⟨_, _, he, ⟨A, c, rfl, hc, hr⟩, hcur, hg⟩)
  have HRd := Lib.hid hRd
  clear hRd hT h
  go_enter Tryd.func53, Tryd.ntmps53
  go_wp2_with fail
  refine HRd.out.mono ?_
  rintro e' w1 ⟨a, b, rfl, ⟨A, c, hab, hc, hr⟩, hcur, hg⟩
  injection hab with hab
  injection hab with hab
  simp only [Array.mk.injEq, List.cons.injEq, and_true] at hab
  obtain ⟨rfl, rfl⟩ := hab
  have HCl := Lib.hid (slices_Clone A c m w1 hr (by omega))
  have HCu := Lib.hid hcur
  have HG := Lib.hid hg
  clear hr hcur hg HRd
  dsimp only
  go_wp2_with fail
  refine HCl.out.mono ?_
  rintro e' w2 ⟨⟨v2, rfl, hv2⟩, hb2⟩
  have HV := Lib.hid (hv2.less HG.out.size)
  have HB := Lib.hid hb2
  clear hv2 hb2
  dsimp only
  go_wp2_with fail
  go_ret2
  exact ⟨_, _, rfl, HV.out, rfl, HCu.out.below HB.out, HG.out.trans (grown_of_below HB.out)⟩
/-- the same as text -/
def TextR (w : World) (p : Nat) (v : Value) (l : List Int) (r : List Int × Int × Nat) (a b : Value) (w' : World) : Prop :=
  a = .string (strOfNums r.1) ∧ b = .int .i64 r.2.1 ∧ Cur w' p v l (r.2.2 : Nat) ∧ w.grownBy w' (some p)
set_option maxHeartbeats 1600000 in
set_option maxRecDepth 100000 in
theorem cursor_Text (p : Nat) (v : Value) (l : List Int) (pos n : Nat) (w : World) (h : Cur w p v l pos) (h1 : pos ≤ l.length) (hn : n ≤ 1000) (hm : l.length ≤ 140737488355328) :
    Calls Tryd.prog 32 #[.pointer (some ⟨p, 0, none⟩), .int .i64 n] w (PairPost (TextR w p v l (takeOf l pos n))) := by
  have hmf : ∀ (fn : Fn) (first cap : Array Value) (w : World), (Instr.makeFunc fn first cap).run Tryd.prog w = .ok (.func fn first cap) w := fun _ _ _ _ => rfl
  have hRd := cursor_read 53 #[.pointer (some ⟨p, 0, none⟩)] #[] n _ (enters_of Tryd.func53 (by kernel_rfl) rfl) w (cursor_Take p v l pos n w h h1 hn hm)
  generalize takeOf l pos n = r at *
  obtain ⟨m, e, q⟩ := r
  have HRd := Lib.hid hRd
  clear hRd h
  go_enter Tryd.func32, Tryd.ntmps32
  go_wp2_with fail
  refine HRd.out.mono ?_
  rintro e' w1 ⟨a, b, rfl, hv, rfl, hcur, hg⟩
  obtain ⟨A, c, rfl, hc, hr⟩ := hv.reads
  have s1 : (convert 22 9 (.slice A m.length c)).run Tryd.prog w1 = .ok (.string (strOfNums m)) w1 := hr.string c
  have HCu := Lib.hid hcur
  have HG := Lib.hid hg
  clear hr hcur hg HRd hv hc
  dsimp only
  go_wp2_with fail
  go_ret2
  exact ⟨_, _, rfl, rfl, rfl, HCu.out, HG.out⟩
end Go.Proofs.YtonhmaklnkidhaaDoor.G
