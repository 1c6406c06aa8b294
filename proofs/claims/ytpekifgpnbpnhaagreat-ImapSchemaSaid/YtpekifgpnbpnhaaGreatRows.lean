/-
  No cell of these rows narrows 'for every input' (looked for: loops, veiled, ifaces, maps, wideKeys, modest, calm, conditions, laid).
  DERIVED. THE GIVEN ROWS OF THIS SEAT. 7 by the template 'for every input the law returns true; each argument reads behind the call as it read before'; 0 by the template 'total and deterministic' (their statements: YtpekifgpnbpnhaaGreatTotals.lean).
  GIVEN WITH THE SEED: the statements are not yours to turn. If you find one false, say at which input.
  Laid BY PROGRAM, IN A SANDBOX (cutbox-rows.mjs): the forced cells as the released guide's own fill.sh prints them over the translation ea3697d0661e32cb… (all of the seat's roots in one cut). By AI agents, Wed Nov 11 2026. No macro, syntax, notation, axiom, sorry.
-/
import Derived.Test.YtpekifgpnbpnhaaGreatChecked
import GoSem.Claim
import GoSem.ClaimJoined
import GoSem.ClaimMapViews
import Derived.JoinedTies
import Derived.KernelRfl
namespace Go.Proofs.YtpekifgpnbpnhaaGreat
/- THE CELL 'sum', in the pinned program and in every row, IS THE sha256 OF THE DUMP (.gsa) THAT YtpekifgpnbpnhaaGreatProg.lean LOADS. Nothing in Lean hashes anything: it is a label: what it is worth is what the hold of that sum in a sandbox is worth. -/
noncomputable def Tryz.pinned : Pinned := { name := "ytpekifgpnbpnhaagreat", sum := "ea3697d0661e32cb487f5859a22f804dd7d2fc682069bb198c6ad1025de7b56b", checked := Tryz.checked }
namespace Rows
def none {H : Type} : Left H := { results := [], args := [] }

/-- 'entaillaw25.ImapStars': WHATEVER THE INPUT: true; the input reads as it did. -/
def imapStarsSpec : ChangeSpec := { name := "imapStars", fn := fun _ => fun
  | [d1, d2] => { results := [.lit (.bool true)], args := [d1, d2] }
  | _ => none }
def imapStarsRow : OpenClaim := { program := "ytpekifgpnbpnhaagreat", sum := "ea3697d0661e32cb487f5859a22f804dd7d2fc682069bb198c6ad1025de7b56b", func := "entail/entaillaw25.ImapStars", spec := "imapStars", inPlace := ["internal/bytealg.abigen_runtime_cmpstring", "internal/abi.NoEscape", "internal/bytealg.MakeNoZero", "internal/bytealg.IndexByteString", "internal/bytealg.IndexString"], unfollowed := true, recurses := true, named := ["internal/bytealg.MaxLen"], apart := false }
def ImapStarsSaid : Prop := imapStarsRow.holds Tryz.pinned (OpenSpec.ofChange imapStarsSpec)

/-- ITS FALSE NEIGHBOUR: 'it returns false'. Refute it at one input. -/
def imapStarsWrong : ChangeSpec := { name := "imapStars", fn := fun _ => fun
  | [d1, d2] => { results := [.lit (.bool false)], args := [d1, d2] }
  | _ => none }
def ImapStarsWrongFalsely : Prop := imapStarsRow.holds Tryz.pinned (OpenSpec.ofChange imapStarsWrong)

/-- 'entaillaw25.ImapRaw': WHATEVER THE INPUT: true; the input reads as it did. -/
def imapRawSpec : ChangeSpec := { name := "imapRaw", fn := fun _ => fun
  | [d1, d2, d3, d4] => { results := [.lit (.bool true)], args := [d1, d2, d3, d4] }
  | _ => none }
def imapRawRow : OpenClaim := { program := "ytpekifgpnbpnhaagreat", sum := "ea3697d0661e32cb487f5859a22f804dd7d2fc682069bb198c6ad1025de7b56b", func := "entail/entaillaw25.ImapRaw", spec := "imapRaw", inPlace := ["internal/bytealg.abigen_runtime_cmpstring", "internal/abi.NoEscape", "internal/bytealg.MakeNoZero", "internal/bytealg.IndexByteString", "internal/bytealg.IndexString"], unfollowed := true, recurses := true, named := ["internal/bytealg.MaxLen"], apart := false }
def ImapRawSaid : Prop := imapRawRow.holds Tryz.pinned (OpenSpec.ofChange imapRawSpec)

/-- ITS FALSE NEIGHBOUR: 'it returns false'. Refute it at one input. -/
def imapRawWrong : ChangeSpec := { name := "imapRaw", fn := fun _ => fun
  | [d1, d2, d3, d4] => { results := [.lit (.bool false)], args := [d1, d2, d3, d4] }
  | _ => none }
def ImapRawWrongFalsely : Prop := imapRawRow.holds Tryz.pinned (OpenSpec.ofChange imapRawWrong)

/-- 'entaillaw25.ImapSchema': WHATEVER THE INPUT: true; the input reads as it did. -/
def imapSchemaSpec : ChangeSpec := { name := "imapSchema", fn := fun _ => fun
  | [] => { results := [.lit (.bool true)], args := [] }
  | _ => none }
def imapSchemaRow : OpenClaim := { program := "ytpekifgpnbpnhaagreat", sum := "ea3697d0661e32cb487f5859a22f804dd7d2fc682069bb198c6ad1025de7b56b", func := "entail/entaillaw25.ImapSchema", spec := "imapSchema", inPlace := ["internal/bytealg.abigen_runtime_cmpstring", "internal/abi.NoEscape", "internal/bytealg.MakeNoZero", "internal/bytealg.IndexByteString", "internal/bytealg.IndexString"], unfollowed := true, recurses := true, named := ["internal/bytealg.MaxLen"], apart := false }
def ImapSchemaSaid : Prop := imapSchemaRow.holds Tryz.pinned (OpenSpec.ofChange imapSchemaSpec)

/-- ITS FALSE NEIGHBOUR: 'it returns false'. Refute it at one input. -/
def imapSchemaWrong : ChangeSpec := { name := "imapSchema", fn := fun _ => fun
  | [] => { results := [.lit (.bool false)], args := [] }
  | _ => none }
def ImapSchemaWrongFalsely : Prop := imapSchemaRow.holds Tryz.pinned (OpenSpec.ofChange imapSchemaWrong)

/-- 'entaillaw25.ImapTells': WHATEVER THE INPUT: true; the input reads as it did. -/
def imapTellsSpec : ChangeSpec := { name := "imapTells", fn := fun _ => fun
  | [d1, d2] => { results := [.lit (.bool true)], args := [d1, d2] }
  | _ => none }
def imapTellsRow : OpenClaim := { program := "ytpekifgpnbpnhaagreat", sum := "ea3697d0661e32cb487f5859a22f804dd7d2fc682069bb198c6ad1025de7b56b", func := "entail/entaillaw25.ImapTells", spec := "imapTells", inPlace := ["internal/bytealg.abigen_runtime_cmpstring", "internal/abi.NoEscape", "internal/bytealg.MakeNoZero", "internal/bytealg.IndexByteString", "internal/bytealg.IndexString"], unfollowed := true, recurses := true, named := ["internal/bytealg.MaxLen"], apart := false }
def ImapTellsSaid : Prop := imapTellsRow.holds Tryz.pinned (OpenSpec.ofChange imapTellsSpec)

/-- ITS FALSE NEIGHBOUR: 'it returns false'. Refute it at one input. -/
def imapTellsWrong : ChangeSpec := { name := "imapTells", fn := fun _ => fun
  | [d1, d2] => { results := [.lit (.bool false)], args := [d1, d2] }
  | _ => none }
def ImapTellsWrongFalsely : Prop := imapTellsRow.holds Tryz.pinned (OpenSpec.ofChange imapTellsWrong)

/-- 'entaillaw25.ImapSame': WHATEVER THE INPUT: true; the input reads as it did. -/
def imapSameSpec : ChangeSpec := { name := "imapSame", fn := fun _ => fun
  | [d1, d2] => { results := [.lit (.bool true)], args := [d1, d2] }
  | _ => none }
def imapSameRow : OpenClaim := { program := "ytpekifgpnbpnhaagreat", sum := "ea3697d0661e32cb487f5859a22f804dd7d2fc682069bb198c6ad1025de7b56b", func := "entail/entaillaw25.ImapSame", spec := "imapSame", inPlace := ["internal/bytealg.abigen_runtime_cmpstring", "internal/abi.NoEscape", "internal/bytealg.MakeNoZero", "internal/bytealg.IndexByteString", "internal/bytealg.IndexString"], unfollowed := true, recurses := true, named := ["internal/bytealg.MaxLen"], apart := false }
def ImapSameSaid : Prop := imapSameRow.holds Tryz.pinned (OpenSpec.ofChange imapSameSpec)

/-- ITS FALSE NEIGHBOUR: 'it returns false'. Refute it at one input. -/
def imapSameWrong : ChangeSpec := { name := "imapSame", fn := fun _ => fun
  | [d1, d2] => { results := [.lit (.bool false)], args := [d1, d2] }
  | _ => none }
def ImapSameWrongFalsely : Prop := imapSameRow.holds Tryz.pinned (OpenSpec.ofChange imapSameWrong)

/-- 'entaillaw25.ImapBack': WHATEVER THE INPUT: true; the input reads as it did. -/
def imapBackSpec : ChangeSpec := { name := "imapBack", fn := fun _ => fun
  | [d1, d2, d3, d4] => { results := [.lit (.bool true)], args := [d1, d2, d3, d4] }
  | _ => none }
def imapBackRow : OpenClaim := { program := "ytpekifgpnbpnhaagreat", sum := "ea3697d0661e32cb487f5859a22f804dd7d2fc682069bb198c6ad1025de7b56b", func := "entail/entaillaw25.ImapBack", spec := "imapBack", inPlace := ["internal/bytealg.abigen_runtime_cmpstring", "internal/abi.NoEscape", "internal/bytealg.MakeNoZero", "internal/bytealg.IndexByteString", "internal/bytealg.IndexString"], unfollowed := true, recurses := true, named := ["internal/bytealg.MaxLen"], apart := false }
def ImapBackSaid : Prop := imapBackRow.holds Tryz.pinned (OpenSpec.ofChange imapBackSpec)

/-- ITS FALSE NEIGHBOUR: 'it returns false'. Refute it at one input. -/
def imapBackWrong : ChangeSpec := { name := "imapBack", fn := fun _ => fun
  | [d1, d2, d3, d4] => { results := [.lit (.bool false)], args := [d1, d2, d3, d4] }
  | _ => none }
def ImapBackWrongFalsely : Prop := imapBackRow.holds Tryz.pinned (OpenSpec.ofChange imapBackWrong)

/-- 'entaillaw25.ImapCount': WHATEVER THE INPUT: true; the input reads as it did. -/
def imapCountSpec : ChangeSpec := { name := "imapCount", fn := fun _ => fun
  | [d1, d2, d3] => { results := [.lit (.bool true)], args := [d1, d2, d3] }
  | _ => none }
def imapCountRow : OpenClaim := { program := "ytpekifgpnbpnhaagreat", sum := "ea3697d0661e32cb487f5859a22f804dd7d2fc682069bb198c6ad1025de7b56b", func := "entail/entaillaw25.ImapCount", spec := "imapCount", inPlace := ["internal/bytealg.abigen_runtime_cmpstring", "internal/abi.NoEscape", "internal/bytealg.MakeNoZero", "internal/bytealg.IndexByteString", "internal/bytealg.IndexString"], unfollowed := true, recurses := true, named := ["internal/bytealg.MaxLen"], apart := false }
def ImapCountSaid : Prop := imapCountRow.holds Tryz.pinned (OpenSpec.ofChange imapCountSpec)

/-- ITS FALSE NEIGHBOUR: 'it returns false'. Refute it at one input. -/
def imapCountWrong : ChangeSpec := { name := "imapCount", fn := fun _ => fun
  | [d1, d2, d3] => { results := [.lit (.bool false)], args := [d1, d2, d3] }
  | _ => none }
def ImapCountWrongFalsely : Prop := imapCountRow.holds Tryz.pinned (OpenSpec.ofChange imapCountWrong)

/- THE SECOND FORM. 'bulk': how many values and letters a reading holds, each counted each time it is reached (what is shared counts as often as it is met; a slice's spare places count too). A statement '..UptoSaid' is the law's where the arguments, and the package variables that the reading takes, are together of bulk at most 1048576: NARROWER than '..Said'. Prove '..Said' where nothing that the law and all that it calls make is longer than what came in: it says more and counts as full. Else prove '..UptoSaid'. A law counts once. -/
mutual
def uptoBulk {H : Type} : DataW H → Nat
  | .lit (.string bytes) => bytes.length + 1
  | .lit _ => 1
  | .nil => 1
  | .ptr d => uptoBulk d + 1
  | .slice elems spare => uptoBulkAll elems + uptoBulkAll spare + 1
  | .agg parts => uptoBulkAll parts + 1
  | .iface _ d => uptoBulk d + 1
  | .map entries => uptoBulkEntries entries + 1
  | .held _ => 1
def uptoBulkAll {H : Type} : List (DataW H) → Nat
  | [] => 0
  | d :: r => uptoBulk d + uptoBulkAll r
def uptoBulkEntries {H : Type} : List (Lit × DataW H) → Nat
  | [] => 0
  | x :: r => uptoBulkEntry x + uptoBulkEntries r
def uptoBulkEntry {H : Type} : Lit × DataW H → Nat
  | (.string bytes, d) => bytes.length + uptoBulk d + 1
  | (_, d) => uptoBulk d + 1
 end
def uptoSmall : (H : Type) → List (DataW H) → Bool := fun _ ds => decide (uptoBulkAll ds ≤ 1048576)
def OpenSpec.upto (s : _root_.Go.ChangeSpec) : _root_.Go.OpenSpec := { _root_.Go.OpenSpec.ofChange s with cond := some uptoSmall }

/-- 'entaillaw25.ImapStars', WHERE WHAT IT READS IS OF BULK AT MOST 1048576: true; the input reads as it did. -/
def imapStarsUptoRow : OpenClaim := { program := "ytpekifgpnbpnhaagreat", sum := "ea3697d0661e32cb487f5859a22f804dd7d2fc682069bb198c6ad1025de7b56b", func := "entail/entaillaw25.ImapStars", spec := "imapStars", inPlace := ["internal/bytealg.abigen_runtime_cmpstring", "internal/abi.NoEscape", "internal/bytealg.MakeNoZero", "internal/bytealg.IndexByteString", "internal/bytealg.IndexString"], unfollowed := true, recurses := true, named := ["internal/bytealg.MaxLen"], apart := false, narrowed := true }
def ImapStarsUptoSaid : Prop := imapStarsUptoRow.holds Tryz.pinned (OpenSpec.upto imapStarsSpec)

/-- 'entaillaw25.ImapRaw', WHERE WHAT IT READS IS OF BULK AT MOST 1048576: true; the input reads as it did. -/
def imapRawUptoRow : OpenClaim := { program := "ytpekifgpnbpnhaagreat", sum := "ea3697d0661e32cb487f5859a22f804dd7d2fc682069bb198c6ad1025de7b56b", func := "entail/entaillaw25.ImapRaw", spec := "imapRaw", inPlace := ["internal/bytealg.abigen_runtime_cmpstring", "internal/abi.NoEscape", "internal/bytealg.MakeNoZero", "internal/bytealg.IndexByteString", "internal/bytealg.IndexString"], unfollowed := true, recurses := true, named := ["internal/bytealg.MaxLen"], apart := false, narrowed := true }
def ImapRawUptoSaid : Prop := imapRawUptoRow.holds Tryz.pinned (OpenSpec.upto imapRawSpec)

/-- 'entaillaw25.ImapSchema', WHERE WHAT IT READS IS OF BULK AT MOST 1048576: true; the input reads as it did. -/
def imapSchemaUptoRow : OpenClaim := { program := "ytpekifgpnbpnhaagreat", sum := "ea3697d0661e32cb487f5859a22f804dd7d2fc682069bb198c6ad1025de7b56b", func := "entail/entaillaw25.ImapSchema", spec := "imapSchema", inPlace := ["internal/bytealg.abigen_runtime_cmpstring", "internal/abi.NoEscape", "internal/bytealg.MakeNoZero", "internal/bytealg.IndexByteString", "internal/bytealg.IndexString"], unfollowed := true, recurses := true, named := ["internal/bytealg.MaxLen"], apart := false, narrowed := true }
def ImapSchemaUptoSaid : Prop := imapSchemaUptoRow.holds Tryz.pinned (OpenSpec.upto imapSchemaSpec)

/-- 'entaillaw25.ImapTells', WHERE WHAT IT READS IS OF BULK AT MOST 1048576: true; the input reads as it did. -/
def imapTellsUptoRow : OpenClaim := { program := "ytpekifgpnbpnhaagreat", sum := "ea3697d0661e32cb487f5859a22f804dd7d2fc682069bb198c6ad1025de7b56b", func := "entail/entaillaw25.ImapTells", spec := "imapTells", inPlace := ["internal/bytealg.abigen_runtime_cmpstring", "internal/abi.NoEscape", "internal/bytealg.MakeNoZero", "internal/bytealg.IndexByteString", "internal/bytealg.IndexString"], unfollowed := true, recurses := true, named := ["internal/bytealg.MaxLen"], apart := false, narrowed := true }
def ImapTellsUptoSaid : Prop := imapTellsUptoRow.holds Tryz.pinned (OpenSpec.upto imapTellsSpec)

/-- 'entaillaw25.ImapSame', WHERE WHAT IT READS IS OF BULK AT MOST 1048576: true; the input reads as it did. -/
def imapSameUptoRow : OpenClaim := { program := "ytpekifgpnbpnhaagreat", sum := "ea3697d0661e32cb487f5859a22f804dd7d2fc682069bb198c6ad1025de7b56b", func := "entail/entaillaw25.ImapSame", spec := "imapSame", inPlace := ["internal/bytealg.abigen_runtime_cmpstring", "internal/abi.NoEscape", "internal/bytealg.MakeNoZero", "internal/bytealg.IndexByteString", "internal/bytealg.IndexString"], unfollowed := true, recurses := true, named := ["internal/bytealg.MaxLen"], apart := false, narrowed := true }
def ImapSameUptoSaid : Prop := imapSameUptoRow.holds Tryz.pinned (OpenSpec.upto imapSameSpec)

/-- 'entaillaw25.ImapBack', WHERE WHAT IT READS IS OF BULK AT MOST 1048576: true; the input reads as it did. -/
def imapBackUptoRow : OpenClaim := { program := "ytpekifgpnbpnhaagreat", sum := "ea3697d0661e32cb487f5859a22f804dd7d2fc682069bb198c6ad1025de7b56b", func := "entail/entaillaw25.ImapBack", spec := "imapBack", inPlace := ["internal/bytealg.abigen_runtime_cmpstring", "internal/abi.NoEscape", "internal/bytealg.MakeNoZero", "internal/bytealg.IndexByteString", "internal/bytealg.IndexString"], unfollowed := true, recurses := true, named := ["internal/bytealg.MaxLen"], apart := false, narrowed := true }
def ImapBackUptoSaid : Prop := imapBackUptoRow.holds Tryz.pinned (OpenSpec.upto imapBackSpec)

/-- 'entaillaw25.ImapCount', WHERE WHAT IT READS IS OF BULK AT MOST 1048576: true; the input reads as it did. -/
def imapCountUptoRow : OpenClaim := { program := "ytpekifgpnbpnhaagreat", sum := "ea3697d0661e32cb487f5859a22f804dd7d2fc682069bb198c6ad1025de7b56b", func := "entail/entaillaw25.ImapCount", spec := "imapCount", inPlace := ["internal/bytealg.abigen_runtime_cmpstring", "internal/abi.NoEscape", "internal/bytealg.MakeNoZero", "internal/bytealg.IndexByteString", "internal/bytealg.IndexString"], unfollowed := true, recurses := true, named := ["internal/bytealg.MaxLen"], apart := false, narrowed := true }
def ImapCountUptoSaid : Prop := imapCountUptoRow.holds Tryz.pinned (OpenSpec.upto imapCountSpec)

end Rows
end Go.Proofs.YtpekifgpnbpnhaaGreat
