/- strings.Join's contract at this program, for the machine: no conditions. -/
import Derived.Test.YtpekifgpnbpnhaaGreatAbM
import Derived.Test.YtpekifgpnbpnhaaGreatLay
import Derived.Test.YtpekifgpnbpnhaaGreatRows
namespace Go.Proofs.YtpekifgpnbpnhaaGreat
open Go.Abs Go.RowKit

theorem mixed : Tryz.prog.follows .mixedOrders = true := by decide +kernel
theorem names : namesOk Tryz.prog = true := by decide +kernel
theorem extra : Go.Proofs.Builder.Extra Tryz.prog Tryz.laysJoin_ren := {
  sizeBuilder := by kernel_rfl
  liesBuilder := by kernel_rfl
  t5 := by kernel_rfl
  a5 := fun _ => by kernel_rfl
  z5 := fun _ => by kernel_rfl
  v5 := fun _ => by kernel_rfl
  infoByte := by kernel_rfl
  cellsByte := by kernel_rfl
  sizeByte := by kernel_rfl
  neB5 := by decide }
theorem joinOk : JoinOk Tryz.prog 160 :=
  ⟨fun a c sep w => Go.Proofs.Any.strings_Join_none Tryz.laysJoin extra a c sep w,
   fun bk o c xs sep w h1 h2 h3 h4 h5 => Go.Proofs.Any.strings_Join Tryz.laysJoin extra bk o c xs sep w h1 h2 h3 h4 h5⟩
/-- What is known ahead of all. -/
noncomputable def kn0 : Kn := ⟨[], [], [(160, runJoin)]⟩
theorem kn0_ok : KnownOk Tryz.prog kn0 := by
  refine ⟨fun f v h => (by cases h), fun x h => (by cases h), fun f run h => ?_⟩
  have h' : (match Nat.beq 160 f with
    | true => some runJoin
    | false => none) = some run := h
  split at h'
  · rename_i e
    obtain rfl := Nat.eq_of_beq_eq_true e
    cases h'
    exact ⟨⟨_, _, Tryz.func160, rfl⟩, fun args s v μ w args' h1 h2 h3 => runJoin_ok joinOk h1 h2 h3⟩
  · cases h'
end Go.Proofs.YtpekifgpnbpnhaaGreat
