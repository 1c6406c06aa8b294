/- 'MaskMany': the machine's answers at the numbers 8 to 11, told or not, with Default or not: no conditions. -/
import Derived.Test.YtnhebanimmicaaaGreatDoorEnt2
namespace Go.Proofs.YtnhebanimmicaaaGreatDoor
open Go.Abs
theorem many8ff : saysQ Tryz.prog knB 1000000000 3 [.sym ((15 : Nat) : Int) ((0 : Nat) : Int) ((8 : Nat) : Int), .bool false, .bool false] = true := by decide +kernel
theorem many8ft : saysQ Tryz.prog knB 1000000000 3 [.sym ((15 : Nat) : Int) ((0 : Nat) : Int) ((8 : Nat) : Int), .bool false, .bool true] = true := by decide +kernel
theorem many8tf : saysQ Tryz.prog knB 1000000000 3 [.sym ((15 : Nat) : Int) ((0 : Nat) : Int) ((8 : Nat) : Int), .bool true, .bool false] = true := by decide +kernel
theorem many8tt : saysQ Tryz.prog knB 1000000000 3 [.sym ((15 : Nat) : Int) ((0 : Nat) : Int) ((8 : Nat) : Int), .bool true, .bool true] = true := by decide +kernel
theorem many9ff : saysQ Tryz.prog knB 1000000000 3 [.sym ((15 : Nat) : Int) ((0 : Nat) : Int) ((9 : Nat) : Int), .bool false, .bool false] = true := by decide +kernel
theorem many9ft : saysQ Tryz.prog knB 1000000000 3 [.sym ((15 : Nat) : Int) ((0 : Nat) : Int) ((9 : Nat) : Int), .bool false, .bool true] = true := by decide +kernel
theorem many9tf : saysQ Tryz.prog knB 1000000000 3 [.sym ((15 : Nat) : Int) ((0 : Nat) : Int) ((9 : Nat) : Int), .bool true, .bool false] = true := by decide +kernel
theorem many9tt : saysQ Tryz.prog knB 1000000000 3 [.sym ((15 : Nat) : Int) ((0 : Nat) : Int) ((9 : Nat) : Int), .bool true, .bool true] = true := by decide +kernel
theorem many10ff : saysQ Tryz.prog knB 1000000000 3 [.sym ((15 : Nat) : Int) ((0 : Nat) : Int) ((10 : Nat) : Int), .bool false, .bool false] = true := by decide +kernel
theorem many10ft : saysQ Tryz.prog knB 1000000000 3 [.sym ((15 : Nat) : Int) ((0 : Nat) : Int) ((10 : Nat) : Int), .bool false, .bool true] = true := by decide +kernel
theorem many10tf : saysQ Tryz.prog knB 1000000000 3 [.sym ((15 : Nat) : Int) ((0 : Nat) : Int) ((10 : Nat) : Int), .bool true, .bool false] = true := by decide +kernel
theorem many10tt : saysQ Tryz.prog knB 1000000000 3 [.sym ((15 : Nat) : Int) ((0 : Nat) : Int) ((10 : Nat) : Int), .bool true, .bool true] = true := by decide +kernel
theorem many11ff : saysQ Tryz.prog knB 1000000000 3 [.sym ((15 : Nat) : Int) ((0 : Nat) : Int) ((11 : Nat) : Int), .bool false, .bool false] = true := by decide +kernel
theorem many11ft : saysQ Tryz.prog knB 1000000000 3 [.sym ((15 : Nat) : Int) ((0 : Nat) : Int) ((11 : Nat) : Int), .bool false, .bool true] = true := by decide +kernel
theorem many11tf : saysQ Tryz.prog knB 1000000000 3 [.sym ((15 : Nat) : Int) ((0 : Nat) : Int) ((11 : Nat) : Int), .bool true, .bool false] = true := by decide +kernel
theorem many11tt : saysQ Tryz.prog knB 1000000000 3 [.sym ((15 : Nat) : Int) ((0 : Nat) : Int) ((11 : Nat) : Int), .bool true, .bool true] = true := by decide +kernel
end Go.Proofs.YtnhebanimmicaaaGreatDoor
