/- 'ImapSchema': the machine's answer: no conditions. -/
import Derived.Test.YtpekifgpnbpnhaaGreatLa102
namespace Go.Proofs.YtpekifgpnbpnhaaGreat
open Go.Abs Go.RowKit
theorem imapSchemaSays : saysQ Tryz.prog LaKn102 1000000000 5 [] = true := by decide +kernel
theorem imapSchemaWalk (w : World) : Calls Tryz.prog 5 #[] w fun e w' => e = .returned (.bool true) ∧ Below w.heap.size w w' :=
  calls_true LaOk102 mixed names ((saysQ_eq ..).symm.trans imapSchemaSays) Tryz.func5 rfl (fun _ => .nil) w
end Go.Proofs.YtpekifgpnbpnhaaGreat
