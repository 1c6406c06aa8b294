/- 'MaskMany': the machine's answers at the numbers 12 to 15, told or not, with Default or not: no conditions. -/
import Derived.Test.YtnhebanimmicaaaGreatDoorEnt2
namespace Go.Proofs.YtnhebanimmicaaaGreatDoor
open Go.Abs
theorem many12ff : saysQ Tryz.prog knB 1000000000 3 [.sym ((15 : Nat) : Int) ((0 : Nat) : Int) ((12 : Nat) : Int), .bool false, .bool false] = true := by decide +kernel
theorem many12ft : saysQ Tryz.prog knB 1000000000 3 [.sym ((15 : Nat) : Int) ((0 : Nat) : Int) ((12 : Nat) : Int), .bool false, .bool true] = true := by decide +kernel
theorem many12tf : saysQ Tryz.prog knB 1000000000 3 [.sym ((15 : Nat) : Int) ((0 : Nat) : Int) ((12 : Nat) : Int), .bool true, .bool false] = true := by decide +kernel
theorem many12tt : saysQ Tryz.prog knB 1000000000 3 [.sym ((15 : Nat) : Int) ((0 : Nat) : Int) ((12 : Nat) : Int), .bool true, .bool true] = true := by decide +kernel
theorem many13ff : saysQ Tryz.prog knB 1000000000 3 [.sym ((15 : Nat) : Int) ((0 : Nat) : Int) ((13 : Nat) : Int), .bool false, .bool false] = true := by decide +kernel
theorem many13ft : saysQ Tryz.prog knB 1000000000 3 [.sym ((15 : Nat) : Int) ((0 : Nat) : Int) ((13 : Nat) : Int), .bool false, .bool true] = true := by decide +kernel
theorem many13tf : saysQ Tryz.prog knB 1000000000 3 [.sym ((15 : Nat) : Int) ((0 : Nat) : Int) ((13 : Nat) : Int), .bool true, .bool false] = true := by decide +kernel
theorem many13tt : saysQ Tryz.prog knB 1000000000 3 [.sym ((15 : Nat) : Int) ((0 : Nat) : Int) ((13 : Nat) : Int), .bool true, .bool true] = true := by decide +kernel
theorem many14ff : saysQ Tryz.prog knB 1000000000 3 [.sym ((15 : Nat) : Int) ((0 : Nat) : Int) ((14 : Nat) : Int), .bool false, .bool false] = true := by decide +kernel
theorem many14ft : saysQ Tryz.prog knB 1000000000 3 [.sym ((15 : Nat) : Int) ((0 : Nat) : Int) ((14 : Nat) : Int), .bool false, .bool true] = true := by decide +kernel
theorem many14tf : saysQ Tryz.prog knB 1000000000 3 [.sym ((15 : Nat) : Int) ((0 : Nat) : Int) ((14 : Nat) : Int), .bool true, .bool false] = true := by decide +kernel
theorem many14tt : saysQ Tryz.prog knB 1000000000 3 [.sym ((15 : Nat) : Int) ((0 : Nat) : Int) ((14 : Nat) : Int), .bool true, .bool true] = true := by decide +kernel
theorem many15ff : saysQ Tryz.prog knB 1000000000 3 [.sym ((15 : Nat) : Int) ((0 : Nat) : Int) ((15 : Nat) : Int), .bool false, .bool false] = true := by decide +kernel
theorem many15ft : saysQ Tryz.prog knB 1000000000 3 [.sym ((15 : Nat) : Int) ((0 : Nat) : Int) ((15 : Nat) : Int), .bool false, .bool true] = true := by decide +kernel
theorem many15tf : saysQ Tryz.prog knB 1000000000 3 [.sym ((15 : Nat) : Int) ((0 : Nat) : Int) ((15 : Nat) : Int), .bool true, .bool false] = true := by decide +kernel
theorem many15tt : saysQ Tryz.prog knB 1000000000 3 [.sym ((15 : Nat) : Int) ((0 : Nat) : Int) ((15 : Nat) : Int), .bool true, .bool true] = true := by decide +kernel
end Go.Proofs.YtnhebanimmicaaaGreatDoor
