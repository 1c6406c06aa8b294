/-
  No cell of these rows narrows 'for every input' (looked for: loops, veiled, ifaces, maps, wideKeys, modest, calm, conditions, laid).
  DERIVED. THE GIVEN ROWS OF THIS SEAT. 3 by the template 'for every input the law returns true; each argument reads behind the call as it read before'; 0 by the template 'total and deterministic' (their statements: YthlhomjiokaabaaGreatTotals.lean).
  GIVEN WITH THE SEED: the statements are not yours to turn. If you find one false, say at which input.
  Laid BY PROGRAM, IN A SANDBOX (cutbox-rows.mjs): the forced cells as the released guide's own fill.sh prints them over the translation fb9d3d0ac11ef660… (all of the seat's roots in one cut). By AI agents, Wed Nov 11 2026. No macro, syntax, notation, axiom, sorry.
-/
import Derived.Test.YthlhomjiokaabaaGreatChecked
import GoSem.Claim
import GoSem.ClaimJoined
import GoSem.ClaimMapViews
import Derived.JoinedTies
import Derived.KernelRfl
namespace Go.Proofs.YthlhomjiokaabaaGreat
/- THE CELL 'sum', in the pinned program and in every row, IS THE sha256 OF THE DUMP (.gsa) THAT YthlhomjiokaabaaGreatProg.lean LOADS. Nothing in Lean hashes anything: it is a label: what it is worth is what the hold of that sum in a sandbox is worth. -/
noncomputable def Tryz.pinned : Pinned := { name := "ythlhomjiokaabaagreat", sum := "fb9d3d0ac11ef6601724553ee79c417de42282f63c0ad69ca44386032b3529cb", checked := Tryz.checked }
namespace Rows
def none {H : Type} : Left H := { results := [], args := [] }

/-- 'entaillaw23.StatErrors': WHATEVER THE INPUT: true; the input reads as it did. -/
def statErrorsSpec : ChangeSpec := { name := "statErrors", fn := fun _ => fun
  | [d] => { results := [.lit (.bool true)], args := [d] }
  | _ => none }
def statErrorsRow : OpenClaim := { program := "ythlhomjiokaabaagreat", sum := "fb9d3d0ac11ef6601724553ee79c417de42282f63c0ad69ca44386032b3529cb", func := "entail/entaillaw23.StatErrors", spec := "statErrors", inPlace := ["internal/bytealg.abigen_runtime_cmpstring"], unfollowed := true, recurses := true, apart := false }
def StatErrorsSaid : Prop := statErrorsRow.holds Tryz.pinned (OpenSpec.ofChange statErrorsSpec)

/-- ITS FALSE NEIGHBOUR: 'it returns false'. Refute it at one input. -/
def statErrorsWrong : ChangeSpec := { name := "statErrors", fn := fun _ => fun
  | [d] => { results := [.lit (.bool false)], args := [d] }
  | _ => none }
def StatErrorsWrongFalsely : Prop := statErrorsRow.holds Tryz.pinned (OpenSpec.ofChange statErrorsWrong)

/-- 'entaillaw23.StatForms': WHATEVER THE INPUT: true; the input reads as it did. -/
def statFormsSpec : ChangeSpec := { name := "statForms", fn := fun _ => fun
  | [d] => { results := [.lit (.bool true)], args := [d] }
  | _ => none }
def statFormsRow : OpenClaim := { program := "ythlhomjiokaabaagreat", sum := "fb9d3d0ac11ef6601724553ee79c417de42282f63c0ad69ca44386032b3529cb", func := "entail/entaillaw23.StatForms", spec := "statForms", inPlace := ["internal/bytealg.abigen_runtime_cmpstring"], unfollowed := true, recurses := true, apart := false }
def StatFormsSaid : Prop := statFormsRow.holds Tryz.pinned (OpenSpec.ofChange statFormsSpec)

/-- ITS FALSE NEIGHBOUR: 'it returns false'. Refute it at one input. -/
def statFormsWrong : ChangeSpec := { name := "statForms", fn := fun _ => fun
  | [d] => { results := [.lit (.bool false)], args := [d] }
  | _ => none }
def StatFormsWrongFalsely : Prop := statFormsRow.holds Tryz.pinned (OpenSpec.ofChange statFormsWrong)

/-- 'entaillaw23.StatBack': WHATEVER THE INPUT: true; the input reads as it did. -/
def statBackSpec : ChangeSpec := { name := "statBack", fn := fun _ => fun
  | [d] => { results := [.lit (.bool true)], args := [d] }
  | _ => none }
def statBackRow : OpenClaim := { program := "ythlhomjiokaabaagreat", sum := "fb9d3d0ac11ef6601724553ee79c417de42282f63c0ad69ca44386032b3529cb", func := "entail/entaillaw23.StatBack", spec := "statBack", inPlace := ["internal/bytealg.abigen_runtime_cmpstring"], unfollowed := true, recurses := true, apart := false }
def StatBackSaid : Prop := statBackRow.holds Tryz.pinned (OpenSpec.ofChange statBackSpec)

/-- ITS FALSE NEIGHBOUR: 'it returns false'. Refute it at one input. -/
def statBackWrong : ChangeSpec := { name := "statBack", fn := fun _ => fun
  | [d] => { results := [.lit (.bool false)], args := [d] }
  | _ => none }
def StatBackWrongFalsely : Prop := statBackRow.holds Tryz.pinned (OpenSpec.ofChange statBackWrong)

/- THE SECOND FORM. 'bulk': how many values and letters a reading holds, each counted each time it is reached (what is shared counts as often as it is met; a slice's spare places count too). A statement '..UptoSaid' is the law's where the arguments, and the package variables that the reading takes, are together of bulk at most 1048576: NARROWER than '..Said'. Prove '..Said' where nothing that the law and all that it calls make is longer than what came in: it says more and counts as full. Else prove '..UptoSaid'. A law counts once. -/
mutual
def uptoBulk {H : Type} : DataW H → Nat
  | .lit (.string bytes) => bytes.length + 1
  | .lit _ => 1
  | .nil => 1
  | .ptr d => uptoBulk d + 1
  | .slice elems spare => uptoBulkAll elems + uptoBulkAll spare + 1
  | .agg parts => uptoBulkAll parts + 1
  | .iface _ d => uptoBulk d + 1
  | .map entries => uptoBulkEntries entries + 1
  | .held _ => 1
def uptoBulkAll {H : Type} : List (DataW H) → Nat
  | [] => 0
  | d :: r => uptoBulk d + uptoBulkAll r
def uptoBulkEntries {H : Type} : List (Lit × DataW H) → Nat
  | [] => 0
  | x :: r => uptoBulkEntry x + uptoBulkEntries r
def uptoBulkEntry {H : Type} : Lit × DataW H → Nat
  | (.string bytes, d) => bytes.length + uptoBulk d + 1
  | (_, d) => uptoBulk d + 1
 end
def uptoSmall : (H : Type) → List (DataW H) → Bool := fun _ ds => decide (uptoBulkAll ds ≤ 1048576)
def OpenSpec.upto (s : _root_.Go.ChangeSpec) : _root_.Go.OpenSpec := { _root_.Go.OpenSpec.ofChange s with cond := some uptoSmall }

/-- 'entaillaw23.StatErrors', WHERE WHAT IT READS IS OF BULK AT MOST 1048576: true; the input reads as it did. -/
def statErrorsUptoRow : OpenClaim := { program := "ythlhomjiokaabaagreat", sum := "fb9d3d0ac11ef6601724553ee79c417de42282f63c0ad69ca44386032b3529cb", func := "entail/entaillaw23.StatErrors", spec := "statErrors", inPlace := ["internal/bytealg.abigen_runtime_cmpstring"], unfollowed := true, recurses := true, apart := false, narrowed := true }
def StatErrorsUptoSaid : Prop := statErrorsUptoRow.holds Tryz.pinned (OpenSpec.upto statErrorsSpec)

/-- 'entaillaw23.StatForms', WHERE WHAT IT READS IS OF BULK AT MOST 1048576: true; the input reads as it did. -/
def statFormsUptoRow : OpenClaim := { program := "ythlhomjiokaabaagreat", sum := "fb9d3d0ac11ef6601724553ee79c417de42282f63c0ad69ca44386032b3529cb", func := "entail/entaillaw23.StatForms", spec := "statForms", inPlace := ["internal/bytealg.abigen_runtime_cmpstring"], unfollowed := true, recurses := true, apart := false, narrowed := true }
def StatFormsUptoSaid : Prop := statFormsUptoRow.holds Tryz.pinned (OpenSpec.upto statFormsSpec)

/-- 'entaillaw23.StatBack', WHERE WHAT IT READS IS OF BULK AT MOST 1048576: true; the input reads as it did. -/
def statBackUptoRow : OpenClaim := { program := "ythlhomjiokaabaagreat", sum := "fb9d3d0ac11ef6601724553ee79c417de42282f63c0ad69ca44386032b3529cb", func := "entail/entaillaw23.StatBack", spec := "statBack", inPlace := ["internal/bytealg.abigen_runtime_cmpstring"], unfollowed := true, recurses := true, apart := false, narrowed := true }
def StatBackUptoSaid : Prop := statBackUptoRow.holds Tryz.pinned (OpenSpec.upto statBackSpec)

end Rows
end Go.Proofs.YthlhomjiokaabaaGreat
