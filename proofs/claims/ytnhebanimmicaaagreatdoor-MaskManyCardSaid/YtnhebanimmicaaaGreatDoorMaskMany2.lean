/- 'MaskMany': the machine's answers at the numbers 4 to 7, told or not, with Default or not: no conditions. -/
import Derived.Test.YtnhebanimmicaaaGreatDoorEnt2
namespace Go.Proofs.YtnhebanimmicaaaGreatDoor
open Go.Abs
theorem many4ff : saysQ Tryz.prog knB 1000000000 3 [.sym ((15 : Nat) : Int) ((0 : Nat) : Int) ((4 : Nat) : Int), .bool false, .bool false] = true := by decide +kernel
theorem many4ft : saysQ Tryz.prog knB 1000000000 3 [.sym ((15 : Nat) : Int) ((0 : Nat) : Int) ((4 : Nat) : Int), .bool false, .bool true] = true := by decide +kernel
theorem many4tf : saysQ Tryz.prog knB 1000000000 3 [.sym ((15 : Nat) : Int) ((0 : Nat) : Int) ((4 : Nat) : Int), .bool true, .bool false] = true := by decide +kernel
theorem many4tt : saysQ Tryz.prog knB 1000000000 3 [.sym ((15 : Nat) : Int) ((0 : Nat) : Int) ((4 : Nat) : Int), .bool true, .bool true] = true := by decide +kernel
theorem many5ff : saysQ Tryz.prog knB 1000000000 3 [.sym ((15 : Nat) : Int) ((0 : Nat) : Int) ((5 : Nat) : Int), .bool false, .bool false] = true := by decide +kernel
theorem many5ft : saysQ Tryz.prog knB 1000000000 3 [.sym ((15 : Nat) : Int) ((0 : Nat) : Int) ((5 : Nat) : Int), .bool false, .bool true] = true := by decide +kernel
theorem many5tf : saysQ Tryz.prog knB 1000000000 3 [.sym ((15 : Nat) : Int) ((0 : Nat) : Int) ((5 : Nat) : Int), .bool true, .bool false] = true := by decide +kernel
theorem many5tt : saysQ Tryz.prog knB 1000000000 3 [.sym ((15 : Nat) : Int) ((0 : Nat) : Int) ((5 : Nat) : Int), .bool true, .bool true] = true := by decide +kernel
theorem many6ff : saysQ Tryz.prog knB 1000000000 3 [.sym ((15 : Nat) : Int) ((0 : Nat) : Int) ((6 : Nat) : Int), .bool false, .bool false] = true := by decide +kernel
theorem many6ft : saysQ Tryz.prog knB 1000000000 3 [.sym ((15 : Nat) : Int) ((0 : Nat) : Int) ((6 : Nat) : Int), .bool false, .bool true] = true := by decide +kernel
theorem many6tf : saysQ Tryz.prog knB 1000000000 3 [.sym ((15 : Nat) : Int) ((0 : Nat) : Int) ((6 : Nat) : Int), .bool true, .bool false] = true := by decide +kernel
theorem many6tt : saysQ Tryz.prog knB 1000000000 3 [.sym ((15 : Nat) : Int) ((0 : Nat) : Int) ((6 : Nat) : Int), .bool true, .bool true] = true := by decide +kernel
theorem many7ff : saysQ Tryz.prog knB 1000000000 3 [.sym ((15 : Nat) : Int) ((0 : Nat) : Int) ((7 : Nat) : Int), .bool false, .bool false] = true := by decide +kernel
theorem many7ft : saysQ Tryz.prog knB 1000000000 3 [.sym ((15 : Nat) : Int) ((0 : Nat) : Int) ((7 : Nat) : Int), .bool false, .bool true] = true := by decide +kernel
theorem many7tf : saysQ Tryz.prog knB 1000000000 3 [.sym ((15 : Nat) : Int) ((0 : Nat) : Int) ((7 : Nat) : Int), .bool true, .bool false] = true := by decide +kernel
theorem many7tt : saysQ Tryz.prog knB 1000000000 3 [.sym ((15 : Nat) : Int) ((0 : Nat) : Int) ((7 : Nat) : Int), .bool true, .bool true] = true := by decide +kernel
end Go.Proofs.YtnhebanimmicaaaGreatDoor
