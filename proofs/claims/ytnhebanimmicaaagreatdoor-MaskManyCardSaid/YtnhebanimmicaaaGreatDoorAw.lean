/- The layer's own checks (awake) come to true: no conditions. -/
import Derived.Test.YtnhebanimmicaaaGreatDoorEnt
namespace Go.Proofs.YtnhebanimmicaaaGreatDoor
open Go.Abs Go.RowKit
theorem says_awake : saysQ Tryz.prog kn0 1000000000 8 [] = true := by decide +kernel
/-- What is known from then on. -/
noncomputable def knA : Kn := ⟨[(8, .bool true)], [], kn0.prims⟩
theorem knA_ok : KnownOk Tryz.prog knA := known_vals (known_cons kn0_ok mixed names ((saysQ_eq ..).symm.trans says_awake) Tryz.func8 rfl)
end Go.Proofs.YtnhebanimmicaaaGreatDoor
