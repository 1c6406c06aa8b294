/- 'StatForms': the machine's answers at cases 22 to 22: no conditions. -/
import Derived.Test.YthlhomjiokaabaaGreatAw
namespace Go.Proofs.YthlhomjiokaabaaGreat
open Go.Abs
theorem forms6 : (List.range 1).all (fun j => saysTrue Tryz.prog [(7, .bool true)] 100000 4 [.sym ((255 : Nat) : Int) ((23 : Nat) : Int) ((22 + j : Nat) : Int)]) = true := by decide +kernel
end Go.Proofs.YthlhomjiokaabaaGreat
