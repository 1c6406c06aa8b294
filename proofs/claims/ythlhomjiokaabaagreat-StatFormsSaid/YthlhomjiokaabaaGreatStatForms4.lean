/- 'StatForms': the machine's answers at cases 18 to 19: no conditions. -/
import Derived.Test.YthlhomjiokaabaaGreatAw
namespace Go.Proofs.YthlhomjiokaabaaGreat
open Go.Abs
theorem forms4 : (List.range 2).all (fun j => saysTrue Tryz.prog [(7, .bool true)] 100000 4 [.sym ((255 : Nat) : Int) ((23 : Nat) : Int) ((18 + j : Nat) : Int)]) = true := by decide +kernel
end Go.Proofs.YthlhomjiokaabaaGreat
