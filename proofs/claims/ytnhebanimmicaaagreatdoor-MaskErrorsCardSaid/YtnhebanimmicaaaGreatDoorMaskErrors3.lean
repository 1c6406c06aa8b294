/- 'MaskErrors': the machine's answers at cases 8 to 11: no conditions. -/
import Derived.Test.YtnhebanimmicaaaGreatDoorAw
namespace Go.Proofs.YtnhebanimmicaaaGreatDoor
open Go.Abs
theorem maskErrorsSays3 : (List.range 4).all (fun j => saysTrue Tryz.prog [(8, .bool true)] 100000 6 [.sym ((255 : Nat) : Int) ((21 : Nat) : Int) ((8 + j : Nat) : Int)]) = true := by decide +kernel
end Go.Proofs.YtnhebanimmicaaaGreatDoor
