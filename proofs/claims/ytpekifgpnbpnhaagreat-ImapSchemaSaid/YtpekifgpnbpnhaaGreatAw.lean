/- The layer's own checks (awake) come to true: no conditions. -/
import Derived.Test.YtpekifgpnbpnhaaGreatCk5
namespace Go.Proofs.YtpekifgpnbpnhaaGreat
open Go.Abs Go.RowKit
theorem says_awake : saysQ Tryz.prog CkKn5 1000000000 17 [] = true := by decide +kernel
/-- What is known of it from then on. -/
noncomputable def knA : Kn := ⟨[(17, .bool true)], [], kn0.prims⟩
theorem knA_ok : KnownOk Tryz.prog knA := known_vals (known_cons CkOk5 mixed names ((saysQ_eq ..).symm.trans says_awake) Tryz.func17 rfl)
end Go.Proofs.YtpekifgpnbpnhaaGreat
