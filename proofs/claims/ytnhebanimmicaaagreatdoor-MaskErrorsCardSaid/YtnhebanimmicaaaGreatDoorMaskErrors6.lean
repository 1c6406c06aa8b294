/- 'MaskErrors': the machine's answers at cases 19 to 20: no conditions. -/
import Derived.Test.YtnhebanimmicaaaGreatDoorAw
namespace Go.Proofs.YtnhebanimmicaaaGreatDoor
open Go.Abs
theorem maskErrorsSays6 : (List.range 2).all (fun j => saysTrue Tryz.prog [(8, .bool true)] 100000 6 [.sym ((255 : Nat) : Int) ((21 : Nat) : Int) ((19 + j : Nat) : Int)]) = true := by decide +kernel
end Go.Proofs.YtnhebanimmicaaaGreatDoor
