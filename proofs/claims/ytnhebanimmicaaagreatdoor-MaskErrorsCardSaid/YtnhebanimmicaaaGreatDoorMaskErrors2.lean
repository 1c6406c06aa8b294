/- 'MaskErrors': the machine's answers at cases 4 to 7: no conditions. -/
import Derived.Test.YtnhebanimmicaaaGreatDoorAw
namespace Go.Proofs.YtnhebanimmicaaaGreatDoor
open Go.Abs
theorem maskErrorsSays2 : (List.range 4).all (fun j => saysTrue Tryz.prog [(8, .bool true)] 100000 6 [.sym ((255 : Nat) : Int) ((21 : Nat) : Int) ((4 + j : Nat) : Int)]) = true := by decide +kernel
end Go.Proofs.YtnhebanimmicaaaGreatDoor
