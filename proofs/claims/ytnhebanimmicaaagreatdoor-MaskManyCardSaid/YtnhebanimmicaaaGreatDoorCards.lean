/-
  DERIVED. GIVEN WITH THE SEED: THE CARDS: each row of YtnhebanimmicaaaGreatDoorRows.lean that lists a variable, with what it lists TIED to the program's text (the seventh form; the later family's looks); each row that meets fmt, with fmt's text TOLD by the authors' own Lean function (tested against real Go, not proved from fmt's source: count such statements apart). THE CARD IS WHAT COUNTS. Prove the row's statement (the work); the ties are given (YtnhebanimmicaaaGreatDoorTie.lean); close each card by the builder's one call (the guide's Derived/Test/ToyasCard.lean, 'card_holds'). Laid BY PROGRAM, IN A SANDBOX (cutbox-door.mjs). By AI agents, Wed Nov 11 2026. No macro, syntax, notation, axiom, sorry.
-/
import Derived.Test.YtnhebanimmicaaaGreatDoorRows
import GoSem.ClaimSeven
namespace Go.Proofs.YtnhebanimmicaaaGreatDoor
namespace Rows

/-- THE TIED CARD OF 'entaillaw18.MaskMany'. -/
def maskManyCard : Claim7 := { stood := { row := maskManyRow, standIns := [], harness := (true, "4e2a76446b3aee0210e3cb67f9d4bf7c481e15cf2deee2c4d562c9c6aea18c5a"), looks := false }, kinds := [], alts := [], laidByText := true, laidKinds := [.data, .pinned], laidTests := true, laidLooks := .later }
def MaskManyCardSaid : Prop := Claim7.holds Tryz.pinned (.plain (OpenSpec.ofChange maskManySpec)) maskManyCard

/-- THE TIED CARD OF 'entaillaw18.MaskMask'. -/
def maskMaskCard : Claim7 := { stood := { row := maskMaskRow, standIns := [], harness := (true, "4e2a76446b3aee0210e3cb67f9d4bf7c481e15cf2deee2c4d562c9c6aea18c5a"), looks := false }, kinds := [], alts := [], laidByText := true, laidKinds := [.data, .pinned], laidTests := true, laidLooks := .later }
def MaskMaskCardSaid : Prop := Claim7.holds Tryz.pinned (.plain (OpenSpec.ofChange maskMaskSpec)) maskMaskCard

/-- THE TIED CARD OF 'entaillaw18.MaskNormal'. -/
def maskNormalCard : Claim7 := { stood := { row := maskNormalRow, standIns := [], harness := (true, "4e2a76446b3aee0210e3cb67f9d4bf7c481e15cf2deee2c4d562c9c6aea18c5a"), looks := false }, kinds := [], alts := [], laidByText := true, laidKinds := [.data, .pinned], laidTests := true, laidLooks := .later }
def MaskNormalCardSaid : Prop := Claim7.holds Tryz.pinned (.plain (OpenSpec.ofChange maskNormalSpec)) maskNormalCard

/-- THE TIED CARD OF 'entaillaw18.MaskErrors'. -/
def maskErrorsCard : Claim7 := { stood := { row := maskErrorsRow, standIns := [], harness := (true, "4e2a76446b3aee0210e3cb67f9d4bf7c481e15cf2deee2c4d562c9c6aea18c5a"), looks := false }, kinds := [], alts := [], laidByText := true, laidKinds := [.data, .pinned], laidTests := true, laidLooks := .later }
def MaskErrorsCardSaid : Prop := Claim7.holds Tryz.pinned (.plain (OpenSpec.ofChange maskErrorsSpec)) maskErrorsCard

/-- THE SECOND FORM's CARD OF 'entaillaw18.MaskMany'. -/
def maskManyUptoCard : Claim7 := { stood := { row := maskManyUptoRow, standIns := [], harness := (true, "4e2a76446b3aee0210e3cb67f9d4bf7c481e15cf2deee2c4d562c9c6aea18c5a"), looks := false }, kinds := [], alts := [], laidByText := true, laidKinds := [.data, .pinned], laidTests := true, laidLooks := .later }
def MaskManyUptoCardSaid : Prop := Claim7.holds Tryz.pinned (.plain (OpenSpec.upto maskManySpec)) maskManyUptoCard

/-- THE SECOND FORM's CARD OF 'entaillaw18.MaskMask'. -/
def maskMaskUptoCard : Claim7 := { stood := { row := maskMaskUptoRow, standIns := [], harness := (true, "4e2a76446b3aee0210e3cb67f9d4bf7c481e15cf2deee2c4d562c9c6aea18c5a"), looks := false }, kinds := [], alts := [], laidByText := true, laidKinds := [.data, .pinned], laidTests := true, laidLooks := .later }
def MaskMaskUptoCardSaid : Prop := Claim7.holds Tryz.pinned (.plain (OpenSpec.upto maskMaskSpec)) maskMaskUptoCard

/-- THE SECOND FORM's CARD OF 'entaillaw18.MaskNormal'. -/
def maskNormalUptoCard : Claim7 := { stood := { row := maskNormalUptoRow, standIns := [], harness := (true, "4e2a76446b3aee0210e3cb67f9d4bf7c481e15cf2deee2c4d562c9c6aea18c5a"), looks := false }, kinds := [], alts := [], laidByText := true, laidKinds := [.data, .pinned], laidTests := true, laidLooks := .later }
def MaskNormalUptoCardSaid : Prop := Claim7.holds Tryz.pinned (.plain (OpenSpec.upto maskNormalSpec)) maskNormalUptoCard

/-- THE SECOND FORM's CARD OF 'entaillaw18.MaskErrors'. -/
def maskErrorsUptoCard : Claim7 := { stood := { row := maskErrorsUptoRow, standIns := [], harness := (true, "4e2a76446b3aee0210e3cb67f9d4bf7c481e15cf2deee2c4d562c9c6aea18c5a"), looks := false }, kinds := [], alts := [], laidByText := true, laidKinds := [.data, .pinned], laidTests := true, laidLooks := .later }
def MaskErrorsUptoCardSaid : Prop := Claim7.holds Tryz.pinned (.plain (OpenSpec.upto maskErrorsSpec)) maskErrorsUptoCard
end Rows
end Go.Proofs.YtnhebanimmicaaaGreatDoor
