/-
  DERIVED. GIVEN WITH THE SEED: THE CARDS: each row of YtonhmaklnkidhaaDoorRows.lean that lists a variable, with what it lists TIED to the program's text (the seventh form; the later family's looks); each row that meets fmt, with fmt's text TOLD by the authors' own Lean function (tested against real Go, not proved from fmt's source: count such statements apart). THE CARD IS WHAT COUNTS. Prove the row's statement (the work); the ties are given (YtonhmaklnkidhaaDoorTie.lean); close each card by the builder's one call (the guide's Derived/Test/ToyasCard.lean, 'card_holds'). Laid BY PROGRAM, IN A SANDBOX (cutbox-door.mjs). By AI agents, Wed Nov 11 2026. No macro, syntax, notation, axiom, sorry.
-/
import Derived.Test.YtonhmaklnkidhaaDoorRows
import GoSem.ClaimSeven
namespace Go.Proofs.YtonhmaklnkidhaaDoor
namespace Rows

/-- THE TIED CARD OF 'comptoirlaw16.ElementKinds'. -/
def elementKindsCard : Claim7 := { stood := { row := elementKindsRow, standIns := [], harness := (true, "99e11a0428a807f6b6f0d67b4ff08afa790a33fee83ccd35006808f485838634"), looks := false }, kinds := [], alts := [], laidByText := true, laidKinds := [.data, .data, .data], laidTests := true, laidLooks := .later }
def ElementKindsCardSaid : Prop := Claim7.holds Tryd.pinned (.plain (OpenSpec.ofChange elementKindsSpec)) elementKindsCard

/-- THE TIED CARD OF 'comptoirlaw16.ElementTable'. -/
def elementTableCard : Claim7 := { stood := { row := elementTableRow, standIns := [], harness := (true, "99e11a0428a807f6b6f0d67b4ff08afa790a33fee83ccd35006808f485838634"), looks := false }, kinds := [], alts := [], laidByText := true, laidKinds := [.data, .data, .data], laidTests := true, laidLooks := .later }
def ElementTableCardSaid : Prop := Claim7.holds Tryd.pinned (.plain (OpenSpec.ofChange elementTableSpec)) elementTableCard

/-- THE TIED CARD OF 'comptoirlaw16.ElementDigits'. -/
def elementDigitsCard : Claim7 := { stood := { row := elementDigitsRow, standIns := [], harness := (true, "99e11a0428a807f6b6f0d67b4ff08afa790a33fee83ccd35006808f485838634"), looks := false }, kinds := [], alts := [], laidByText := true, laidKinds := [.data, .data, .data], laidTests := true, laidLooks := .later }
def ElementDigitsCardSaid : Prop := Claim7.holds Tryd.pinned (.plain (OpenSpec.ofChange elementDigitsSpec)) elementDigitsCard

/-- THE TIED CARD OF 'comptoirlaw17.IsoTells'. -/
def isoTellsCard : Claim7 := { stood := { row := isoTellsRow, standIns := [], harness := (true, "99e11a0428a807f6b6f0d67b4ff08afa790a33fee83ccd35006808f485838634"), looks := false }, kinds := [], alts := [], laidByText := true, laidKinds := [.data, .data, .data], laidTests := true, laidLooks := .later }
def IsoTellsCardSaid : Prop := Claim7.holds Tryd.pinned (.plain (OpenSpec.ofChange isoTellsSpec)) isoTellsCard

/-- THE TIED CARD OF 'comptoirlaw17.IsoBack'. -/
def isoBackCard : Claim7 := { stood := { row := isoBackRow, standIns := [], harness := (true, "99e11a0428a807f6b6f0d67b4ff08afa790a33fee83ccd35006808f485838634"), looks := false }, kinds := [], alts := [], laidByText := true, laidKinds := [.data, .data, .data], laidTests := true, laidLooks := .later }
def IsoBackCardSaid : Prop := Claim7.holds Tryd.pinned (.plain (OpenSpec.ofChange isoBackSpec)) isoBackCard

/-- THE TIED CARD OF 'comptoirlaw17.IsoNeeds'. -/
def isoNeedsCard : Claim7 := { stood := { row := isoNeedsRow, standIns := [], harness := (true, "99e11a0428a807f6b6f0d67b4ff08afa790a33fee83ccd35006808f485838634"), looks := false }, kinds := [], alts := [], laidByText := true, laidKinds := [.data, .data, .data], laidTests := true, laidLooks := .later }
def IsoNeedsCardSaid : Prop := Claim7.holds Tryd.pinned (.plain (OpenSpec.ofChange isoNeedsSpec)) isoNeedsCard

/-- THE SECOND FORM's CARD OF 'comptoirlaw16.ElementKinds'. -/
def elementKindsUptoCard : Claim7 := { stood := { row := elementKindsUptoRow, standIns := [], harness := (true, "99e11a0428a807f6b6f0d67b4ff08afa790a33fee83ccd35006808f485838634"), looks := false }, kinds := [], alts := [], laidByText := true, laidKinds := [.data, .data, .data], laidTests := true, laidLooks := .later }
def ElementKindsUptoCardSaid : Prop := Claim7.holds Tryd.pinned (.plain (OpenSpec.upto elementKindsSpec)) elementKindsUptoCard

/-- THE SECOND FORM's CARD OF 'comptoirlaw16.ElementTable'. -/
def elementTableUptoCard : Claim7 := { stood := { row := elementTableUptoRow, standIns := [], harness := (true, "99e11a0428a807f6b6f0d67b4ff08afa790a33fee83ccd35006808f485838634"), looks := false }, kinds := [], alts := [], laidByText := true, laidKinds := [.data, .data, .data], laidTests := true, laidLooks := .later }
def ElementTableUptoCardSaid : Prop := Claim7.holds Tryd.pinned (.plain (OpenSpec.upto elementTableSpec)) elementTableUptoCard

/-- THE SECOND FORM's CARD OF 'comptoirlaw16.ElementDigits'. -/
def elementDigitsUptoCard : Claim7 := { stood := { row := elementDigitsUptoRow, standIns := [], harness := (true, "99e11a0428a807f6b6f0d67b4ff08afa790a33fee83ccd35006808f485838634"), looks := false }, kinds := [], alts := [], laidByText := true, laidKinds := [.data, .data, .data], laidTests := true, laidLooks := .later }
def ElementDigitsUptoCardSaid : Prop := Claim7.holds Tryd.pinned (.plain (OpenSpec.upto elementDigitsSpec)) elementDigitsUptoCard

/-- THE SECOND FORM's CARD OF 'comptoirlaw17.IsoTells'. -/
def isoTellsUptoCard : Claim7 := { stood := { row := isoTellsUptoRow, standIns := [], harness := (true, "99e11a0428a807f6b6f0d67b4ff08afa790a33fee83ccd35006808f485838634"), looks := false }, kinds := [], alts := [], laidByText := true, laidKinds := [.data, .data, .data], laidTests := true, laidLooks := .later }
def IsoTellsUptoCardSaid : Prop := Claim7.holds Tryd.pinned (.plain (OpenSpec.upto isoTellsSpec)) isoTellsUptoCard

/-- THE SECOND FORM's CARD OF 'comptoirlaw17.IsoBack'. -/
def isoBackUptoCard : Claim7 := { stood := { row := isoBackUptoRow, standIns := [], harness := (true, "99e11a0428a807f6b6f0d67b4ff08afa790a33fee83ccd35006808f485838634"), looks := false }, kinds := [], alts := [], laidByText := true, laidKinds := [.data, .data, .data], laidTests := true, laidLooks := .later }
def IsoBackUptoCardSaid : Prop := Claim7.holds Tryd.pinned (.plain (OpenSpec.upto isoBackSpec)) isoBackUptoCard

/-- THE SECOND FORM's CARD OF 'comptoirlaw17.IsoNeeds'. -/
def isoNeedsUptoCard : Claim7 := { stood := { row := isoNeedsUptoRow, standIns := [], harness := (true, "99e11a0428a807f6b6f0d67b4ff08afa790a33fee83ccd35006808f485838634"), looks := false }, kinds := [], alts := [], laidByText := true, laidKinds := [.data, .data, .data], laidTests := true, laidLooks := .later }
def IsoNeedsUptoCardSaid : Prop := Claim7.holds Tryd.pinned (.plain (OpenSpec.upto isoNeedsSpec)) isoNeedsUptoCard
end Rows
end Go.Proofs.YtonhmaklnkidhaaDoor
