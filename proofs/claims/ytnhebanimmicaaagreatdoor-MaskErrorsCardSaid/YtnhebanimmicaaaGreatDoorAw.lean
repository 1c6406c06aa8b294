/- The layer's own checks (awake) come to true: no conditions. -/
import Derived.Test.YtnhebanimmicaaaGreatDoorAb24
import Derived.Test.YtnhebanimmicaaaGreatDoorRows
namespace Go.Proofs.YtnhebanimmicaaaGreatDoor
open Go.Abs Go.RowKit

theorem mixed : Tryz.prog.follows .mixedOrders = true := by decide +kernel
theorem names : namesOk Tryz.prog = true := by decide +kernel
theorem says_awake : saysTrue Tryz.prog [] 100000 8 [] = true := by decide +kernel
theorem known_awake : KnownOk Tryz.prog [(8, .bool true)] := known_cons (known_nil _) mixed names says_awake Tryz.func8 rfl
end Go.Proofs.YtnhebanimmicaaaGreatDoor
