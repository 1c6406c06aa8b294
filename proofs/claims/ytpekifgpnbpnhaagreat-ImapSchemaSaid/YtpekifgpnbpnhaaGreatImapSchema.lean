/- 'ImapSchema' answers true: no conditions. -/
import Derived.Test.YtpekifgpnbpnhaaGreatImapSchemaL
namespace Go.Proofs.YtpekifgpnbpnhaaGreat.imapSchema
open Go.Abs Go.ChangeShapes Go.WideShapes Go.ChangeAt Go.RowKit

theorem over : Rows.imapSchemaRow.holds Tryz.pinned (OpenSpec.ofChange Rows.imapSchemaSpec) :=
  OpenClaim.holds_of_wide 5 Tryz.f5 rfl rfl rfl rfl rfl rfl rfl ⟨rfl, rfl, rfl, rfl, rfl⟩ rfl rfl rfl rfl rfl (by kernel_rfl) Tryz.func5 (by kernel_rfl)
    (of_decide_eq_true (by kernel_rfl)) (by unfold Func.isWrapper; first | (rw [if_pos (by decide +kernel)]; kernel_rfl) | (rw [if_neg (by decide +kernel)]; exact ⟨rfl, rfl⟩))
    (fun os started H enc _ => lifted os started H enc)

/-- ████ THE STATEMENT ████ -/
theorem proved : Rows.ImapSchemaSaid :=
  over
#print axioms proved
end Go.Proofs.YtpekifgpnbpnhaaGreat.imapSchema
