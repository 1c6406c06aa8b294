/- 'StatForms': the machine's answers at cases 8 to 15: no conditions. -/
import Derived.Test.YthlhomjiokaabaaGreatAw
namespace Go.Proofs.YthlhomjiokaabaaGreat
open Go.Abs
theorem forms2 : (List.range 8).all (fun j => saysTrue Tryz.prog [(7, .bool true)] 100000 4 [.sym ((255 : Nat) : Int) ((23 : Nat) : Int) ((8 + j : Nat) : Int)]) = true := by decide +kernel
end Go.Proofs.YthlhomjiokaabaaGreat
