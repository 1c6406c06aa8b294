/-
  NARROWER THAN 'FOR EVERY INPUT', by the rows' own cells (each row's printed sentence says how): MaskMany: laid · MaskMask: laid · MaskNormal: laid · MaskErrors: laid.
  DERIVED. THE GIVEN ROWS OF THIS SEAT. 4 by the template 'for every input the law returns true; each argument reads behind the call as it read before'; 0 by the template 'total and deterministic' (their statements: YtnhebanimmicaaaGreatDoorTotals.lean).
  GIVEN WITH THE SEED: the statements are not yours to turn. If you find one false, say at which input.
  Laid BY PROGRAM, IN A SANDBOX (cutbox-rows.mjs): the forced cells as the released guide's own fill.sh prints them over the translation 02dff9686cedd362… (all of the seat's roots in one cut). By AI agents, Wed Nov 11 2026. No macro, syntax, notation, axiom, sorry.
-/
import Derived.Test.YtnhebanimmicaaaGreatDoorChecked
import GoSem.PinnedTables
import GoSem.Claim
import GoSem.ClaimJoined
import GoSem.ClaimMapViews
import Derived.JoinedTies
import Derived.KernelRfl
namespace Go.Proofs.YtnhebanimmicaaaGreatDoor
/- THE CELL 'sum', in the pinned program and in every row, IS THE sha256 OF THE DUMP (.gsa) THAT YtnhebanimmicaaaGreatDoorProg.lean LOADS. Nothing in Lean hashes anything: it is a label: what it is worth is what the hold of that sum in a sandbox is worth. -/
noncomputable def Tryz.pinned : Pinned := { name := "ytnhebanimmicaaagreatdoor", sum := "02dff9686cedd362e986fd4bc57f9bc4a6255058765009baa31aa7d39e14c275", checked := Tryz.checked }
namespace Rows
def none {H : Type} : Left H := { results := [], args := [] }

/- WHAT THE LISTED PACKAGE-LEVEL VARIABLES READ AS WHEN THE CALL BEGINS. Each datum BY PROGRAM (the guide's laid-datum.mjs) off the statement by which the dump's own 'gosem.cut.vars' lays the variable. In a bare row this is a premise. The card (YtnhebanimmicaaaGreatDoorCards.lean) ties it to the program's text. -/
def laid_unicode_utf8_acceptRanges {H : Type} : DataW H := .agg [.agg [.lit (.int .u8 128), .lit (.int .u8 191)], .agg [.lit (.int .u8 160), .lit (.int .u8 191)], .agg [.lit (.int .u8 128), .lit (.int .u8 159)], .agg [.lit (.int .u8 144), .lit (.int .u8 191)], .agg [.lit (.int .u8 128), .lit (.int .u8 143)], .agg [.lit (.int .u8 0), .lit (.int .u8 0)], .agg [.lit (.int .u8 0), .lit (.int .u8 0)], .agg [.lit (.int .u8 0), .lit (.int .u8 0)], .agg [.lit (.int .u8 0), .lit (.int .u8 0)], .agg [.lit (.int .u8 0), .lit (.int .u8 0)], .agg [.lit (.int .u8 0), .lit (.int .u8 0)], .agg [.lit (.int .u8 0), .lit (.int .u8 0)], .agg [.lit (.int .u8 0), .lit (.int .u8 0)], .agg [.lit (.int .u8 0), .lit (.int .u8 0)], .agg [.lit (.int .u8 0), .lit (.int .u8 0)], .agg [.lit (.int .u8 0), .lit (.int .u8 0)]]
/-- One of Go's own tables, pinned by name: the form's constant. -/
def laid_unicode_utf8_first : DataW Unit := Go.Pinned.utf8First

/-- 'entaillaw18.MaskMany': WHATEVER THE INPUT: true; the input reads as it did. -/
def maskManySpec : ChangeSpec := { name := "maskMany", fn := fun _ => fun
  | [d1, d2, d3] => { results := [.lit (.bool true)], args := [d1, d2, d3] }
  | _ => none }
def maskManyRow : OpenClaim := { program := "ytnhebanimmicaaagreatdoor", sum := "02dff9686cedd362e986fd4bc57f9bc4a6255058765009baa31aa7d39e14c275", func := "entail/entaillaw18.MaskMany", spec := "maskMany", inPlace := ["internal/bytealg.abigen_runtime_cmpstring", "internal/bytealg.CountString", "internal/bytealg.IndexByteString", "internal/bytealg.IndexString"], unfollowed := true, recurses := true, named := ["unicode/utf8.first", "unicode/utf8.acceptRanges", "internal/bytealg.MaxLen"], apart := false, laid := [("unicode/utf8.acceptRanges", laid_unicode_utf8_acceptRanges), ("unicode/utf8.first", laid_unicode_utf8_first)] }
def MaskManySaid : Prop := maskManyRow.holds Tryz.pinned (OpenSpec.ofChange maskManySpec)

/-- ITS FALSE NEIGHBOUR: 'it returns false'. Refute it at one input. -/
def maskManyWrong : ChangeSpec := { name := "maskMany", fn := fun _ => fun
  | [d1, d2, d3] => { results := [.lit (.bool false)], args := [d1, d2, d3] }
  | _ => none }
def MaskManyWrongFalsely : Prop := maskManyRow.holds Tryz.pinned (OpenSpec.ofChange maskManyWrong)

/-- 'entaillaw18.MaskMask': WHATEVER THE INPUT: true; the input reads as it did. -/
def maskMaskSpec : ChangeSpec := { name := "maskMask", fn := fun _ => fun
  | [d1, d2] => { results := [.lit (.bool true)], args := [d1, d2] }
  | _ => none }
def maskMaskRow : OpenClaim := { program := "ytnhebanimmicaaagreatdoor", sum := "02dff9686cedd362e986fd4bc57f9bc4a6255058765009baa31aa7d39e14c275", func := "entail/entaillaw18.MaskMask", spec := "maskMask", inPlace := ["internal/bytealg.abigen_runtime_cmpstring", "internal/bytealg.CountString", "internal/bytealg.IndexByteString", "internal/bytealg.IndexString"], unfollowed := true, recurses := true, named := ["unicode/utf8.first", "unicode/utf8.acceptRanges", "internal/bytealg.MaxLen"], apart := false, laid := [("unicode/utf8.acceptRanges", laid_unicode_utf8_acceptRanges), ("unicode/utf8.first", laid_unicode_utf8_first)] }
def MaskMaskSaid : Prop := maskMaskRow.holds Tryz.pinned (OpenSpec.ofChange maskMaskSpec)

/-- ITS FALSE NEIGHBOUR: 'it returns false'. Refute it at one input. -/
def maskMaskWrong : ChangeSpec := { name := "maskMask", fn := fun _ => fun
  | [d1, d2] => { results := [.lit (.bool false)], args := [d1, d2] }
  | _ => none }
def MaskMaskWrongFalsely : Prop := maskMaskRow.holds Tryz.pinned (OpenSpec.ofChange maskMaskWrong)

/-- 'entaillaw18.MaskNormal': WHATEVER THE INPUT: true; the input reads as it did. -/
def maskNormalSpec : ChangeSpec := { name := "maskNormal", fn := fun _ => fun
  | [d] => { results := [.lit (.bool true)], args := [d] }
  | _ => none }
def maskNormalRow : OpenClaim := { program := "ytnhebanimmicaaagreatdoor", sum := "02dff9686cedd362e986fd4bc57f9bc4a6255058765009baa31aa7d39e14c275", func := "entail/entaillaw18.MaskNormal", spec := "maskNormal", inPlace := ["internal/bytealg.abigen_runtime_cmpstring", "internal/bytealg.CountString", "internal/bytealg.IndexByteString", "internal/bytealg.IndexString"], unfollowed := true, recurses := true, named := ["unicode/utf8.first", "unicode/utf8.acceptRanges", "internal/bytealg.MaxLen"], apart := false, laid := [("unicode/utf8.acceptRanges", laid_unicode_utf8_acceptRanges), ("unicode/utf8.first", laid_unicode_utf8_first)] }
def MaskNormalSaid : Prop := maskNormalRow.holds Tryz.pinned (OpenSpec.ofChange maskNormalSpec)

/-- ITS FALSE NEIGHBOUR: 'it returns false'. Refute it at one input. -/
def maskNormalWrong : ChangeSpec := { name := "maskNormal", fn := fun _ => fun
  | [d] => { results := [.lit (.bool false)], args := [d] }
  | _ => none }
def MaskNormalWrongFalsely : Prop := maskNormalRow.holds Tryz.pinned (OpenSpec.ofChange maskNormalWrong)

/-- 'entaillaw18.MaskErrors': WHATEVER THE INPUT: true; the input reads as it did. -/
def maskErrorsSpec : ChangeSpec := { name := "maskErrors", fn := fun _ => fun
  | [d] => { results := [.lit (.bool true)], args := [d] }
  | _ => none }
def maskErrorsRow : OpenClaim := { program := "ytnhebanimmicaaagreatdoor", sum := "02dff9686cedd362e986fd4bc57f9bc4a6255058765009baa31aa7d39e14c275", func := "entail/entaillaw18.MaskErrors", spec := "maskErrors", inPlace := ["internal/bytealg.abigen_runtime_cmpstring", "internal/bytealg.CountString", "internal/bytealg.IndexByteString", "internal/bytealg.IndexString"], unfollowed := true, recurses := true, named := ["unicode/utf8.first", "unicode/utf8.acceptRanges", "internal/bytealg.MaxLen"], apart := false, laid := [("unicode/utf8.acceptRanges", laid_unicode_utf8_acceptRanges), ("unicode/utf8.first", laid_unicode_utf8_first)] }
def MaskErrorsSaid : Prop := maskErrorsRow.holds Tryz.pinned (OpenSpec.ofChange maskErrorsSpec)

/-- ITS FALSE NEIGHBOUR: 'it returns false'. Refute it at one input. -/
def maskErrorsWrong : ChangeSpec := { name := "maskErrors", fn := fun _ => fun
  | [d] => { results := [.lit (.bool false)], args := [d] }
  | _ => none }
def MaskErrorsWrongFalsely : Prop := maskErrorsRow.holds Tryz.pinned (OpenSpec.ofChange maskErrorsWrong)

/- THE SECOND FORM. 'bulk': how many values and letters a reading holds, each counted each time it is reached (what is shared counts as often as it is met; a slice's spare places count too). A statement '..UptoSaid' is the law's where the arguments, and the package variables that the reading takes, are together of bulk at most 1048576: NARROWER than '..Said'. Prove '..Said' where nothing that the law and all that it calls make is longer than what came in: it says more and counts as full. Else prove '..UptoSaid'. A law counts once. -/
mutual
def uptoBulk {H : Type} : DataW H → Nat
  | .lit (.string bytes) => bytes.length + 1
  | .lit _ => 1
  | .nil => 1
  | .ptr d => uptoBulk d + 1
  | .slice elems spare => uptoBulkAll elems + uptoBulkAll spare + 1
  | .agg parts => uptoBulkAll parts + 1
  | .iface _ d => uptoBulk d + 1
  | .map entries => uptoBulkEntries entries + 1
  | .held _ => 1
def uptoBulkAll {H : Type} : List (DataW H) → Nat
  | [] => 0
  | d :: r => uptoBulk d + uptoBulkAll r
def uptoBulkEntries {H : Type} : List (Lit × DataW H) → Nat
  | [] => 0
  | x :: r => uptoBulkEntry x + uptoBulkEntries r
def uptoBulkEntry {H : Type} : Lit × DataW H → Nat
  | (.string bytes, d) => bytes.length + uptoBulk d + 1
  | (_, d) => uptoBulk d + 1
 end
def uptoSmall : (H : Type) → List (DataW H) → Bool := fun _ ds => decide (uptoBulkAll ds ≤ 1048576)
def OpenSpec.upto (s : _root_.Go.ChangeSpec) : _root_.Go.OpenSpec := { _root_.Go.OpenSpec.ofChange s with cond := some uptoSmall }

/-- 'entaillaw18.MaskMany', WHERE WHAT IT READS IS OF BULK AT MOST 1048576: true; the input reads as it did. -/
def maskManyUptoRow : OpenClaim := { program := "ytnhebanimmicaaagreatdoor", sum := "02dff9686cedd362e986fd4bc57f9bc4a6255058765009baa31aa7d39e14c275", func := "entail/entaillaw18.MaskMany", spec := "maskMany", inPlace := ["internal/bytealg.abigen_runtime_cmpstring", "internal/bytealg.CountString", "internal/bytealg.IndexByteString", "internal/bytealg.IndexString"], unfollowed := true, recurses := true, named := ["unicode/utf8.first", "unicode/utf8.acceptRanges", "internal/bytealg.MaxLen"], apart := false, laid := [("unicode/utf8.acceptRanges", laid_unicode_utf8_acceptRanges), ("unicode/utf8.first", laid_unicode_utf8_first)], narrowed := true }
def MaskManyUptoSaid : Prop := maskManyUptoRow.holds Tryz.pinned (OpenSpec.upto maskManySpec)

/-- 'entaillaw18.MaskMask', WHERE WHAT IT READS IS OF BULK AT MOST 1048576: true; the input reads as it did. -/
def maskMaskUptoRow : OpenClaim := { program := "ytnhebanimmicaaagreatdoor", sum := "02dff9686cedd362e986fd4bc57f9bc4a6255058765009baa31aa7d39e14c275", func := "entail/entaillaw18.MaskMask", spec := "maskMask", inPlace := ["internal/bytealg.abigen_runtime_cmpstring", "internal/bytealg.CountString", "internal/bytealg.IndexByteString", "internal/bytealg.IndexString"], unfollowed := true, recurses := true, named := ["unicode/utf8.first", "unicode/utf8.acceptRanges", "internal/bytealg.MaxLen"], apart := false, laid := [("unicode/utf8.acceptRanges", laid_unicode_utf8_acceptRanges), ("unicode/utf8.first", laid_unicode_utf8_first)], narrowed := true }
def MaskMaskUptoSaid : Prop := maskMaskUptoRow.holds Tryz.pinned (OpenSpec.upto maskMaskSpec)

/-- 'entaillaw18.MaskNormal', WHERE WHAT IT READS IS OF BULK AT MOST 1048576: true; the input reads as it did. -/
def maskNormalUptoRow : OpenClaim := { program := "ytnhebanimmicaaagreatdoor", sum := "02dff9686cedd362e986fd4bc57f9bc4a6255058765009baa31aa7d39e14c275", func := "entail/entaillaw18.MaskNormal", spec := "maskNormal", inPlace := ["internal/bytealg.abigen_runtime_cmpstring", "internal/bytealg.CountString", "internal/bytealg.IndexByteString", "internal/bytealg.IndexString"], unfollowed := true, recurses := true, named := ["unicode/utf8.first", "unicode/utf8.acceptRanges", "internal/bytealg.MaxLen"], apart := false, laid := [("unicode/utf8.acceptRanges", laid_unicode_utf8_acceptRanges), ("unicode/utf8.first", laid_unicode_utf8_first)], narrowed := true }
def MaskNormalUptoSaid : Prop := maskNormalUptoRow.holds Tryz.pinned (OpenSpec.upto maskNormalSpec)

/-- 'entaillaw18.MaskErrors', WHERE WHAT IT READS IS OF BULK AT MOST 1048576: true; the input reads as it did. -/
def maskErrorsUptoRow : OpenClaim := { program := "ytnhebanimmicaaagreatdoor", sum := "02dff9686cedd362e986fd4bc57f9bc4a6255058765009baa31aa7d39e14c275", func := "entail/entaillaw18.MaskErrors", spec := "maskErrors", inPlace := ["internal/bytealg.abigen_runtime_cmpstring", "internal/bytealg.CountString", "internal/bytealg.IndexByteString", "internal/bytealg.IndexString"], unfollowed := true, recurses := true, named := ["unicode/utf8.first", "unicode/utf8.acceptRanges", "internal/bytealg.MaxLen"], apart := false, laid := [("unicode/utf8.acceptRanges", laid_unicode_utf8_acceptRanges), ("unicode/utf8.first", laid_unicode_utf8_first)], narrowed := true }
def MaskErrorsUptoSaid : Prop := maskErrorsUptoRow.holds Tryz.pinned (OpenSpec.upto maskErrorsSpec)

end Rows
end Go.Proofs.YtnhebanimmicaaaGreatDoor
