/- The layer's own checks (awake) come to true: no conditions. -/
import Derived.Test.YthlhomjiokaabaaGreatAb24
import Derived.Test.YthlhomjiokaabaaGreatRows
namespace Go.Proofs.YthlhomjiokaabaaGreat
open Go.Abs Go.RowKit

theorem mixed : Tryz.prog.follows .mixedOrders = true := by decide +kernel
theorem names : namesOk Tryz.prog = true := by decide +kernel
theorem says_awake : saysTrue Tryz.prog [] 100000 7 [] = true := by decide +kernel
theorem known_awake : KnownOk Tryz.prog [(7, .bool true)] := known_cons (known_nil _) mixed names says_awake Tryz.func7 rfl
end Go.Proofs.YthlhomjiokaabaaGreat
