/- 'MaskMany': the machine's answers at the numbers 0 to 3, told or not, with Default or not: no conditions. -/
import Derived.Test.YtnhebanimmicaaaGreatDoorEnt2
namespace Go.Proofs.YtnhebanimmicaaaGreatDoor
open Go.Abs
theorem many0ff : saysQ Tryz.prog knB 1000000000 3 [.sym ((15 : Nat) : Int) ((0 : Nat) : Int) ((0 : Nat) : Int), .bool false, .bool false] = true := by decide +kernel
theorem many0ft : saysQ Tryz.prog knB 1000000000 3 [.sym ((15 : Nat) : Int) ((0 : Nat) : Int) ((0 : Nat) : Int), .bool false, .bool true] = true := by decide +kernel
theorem many0tf : saysQ Tryz.prog knB 1000000000 3 [.sym ((15 : Nat) : Int) ((0 : Nat) : Int) ((0 : Nat) : Int), .bool true, .bool false] = true := by decide +kernel
theorem many0tt : saysQ Tryz.prog knB 1000000000 3 [.sym ((15 : Nat) : Int) ((0 : Nat) : Int) ((0 : Nat) : Int), .bool true, .bool true] = true := by decide +kernel
theorem many1ff : saysQ Tryz.prog knB 1000000000 3 [.sym ((15 : Nat) : Int) ((0 : Nat) : Int) ((1 : Nat) : Int), .bool false, .bool false] = true := by decide +kernel
theorem many1ft : saysQ Tryz.prog knB 1000000000 3 [.sym ((15 : Nat) : Int) ((0 : Nat) : Int) ((1 : Nat) : Int), .bool false, .bool true] = true := by decide +kernel
theorem many1tf : saysQ Tryz.prog knB 1000000000 3 [.sym ((15 : Nat) : Int) ((0 : Nat) : Int) ((1 : Nat) : Int), .bool true, .bool false] = true := by decide +kernel
theorem many1tt : saysQ Tryz.prog knB 1000000000 3 [.sym ((15 : Nat) : Int) ((0 : Nat) : Int) ((1 : Nat) : Int), .bool true, .bool true] = true := by decide +kernel
theorem many2ff : saysQ Tryz.prog knB 1000000000 3 [.sym ((15 : Nat) : Int) ((0 : Nat) : Int) ((2 : Nat) : Int), .bool false, .bool false] = true := by decide +kernel
theorem many2ft : saysQ Tryz.prog knB 1000000000 3 [.sym ((15 : Nat) : Int) ((0 : Nat) : Int) ((2 : Nat) : Int), .bool false, .bool true] = true := by decide +kernel
theorem many2tf : saysQ Tryz.prog knB 1000000000 3 [.sym ((15 : Nat) : Int) ((0 : Nat) : Int) ((2 : Nat) : Int), .bool true, .bool false] = true := by decide +kernel
theorem many2tt : saysQ Tryz.prog knB 1000000000 3 [.sym ((15 : Nat) : Int) ((0 : Nat) : Int) ((2 : Nat) : Int), .bool true, .bool true] = true := by decide +kernel
theorem many3ff : saysQ Tryz.prog knB 1000000000 3 [.sym ((15 : Nat) : Int) ((0 : Nat) : Int) ((3 : Nat) : Int), .bool false, .bool false] = true := by decide +kernel
theorem many3ft : saysQ Tryz.prog knB 1000000000 3 [.sym ((15 : Nat) : Int) ((0 : Nat) : Int) ((3 : Nat) : Int), .bool false, .bool true] = true := by decide +kernel
theorem many3tf : saysQ Tryz.prog knB 1000000000 3 [.sym ((15 : Nat) : Int) ((0 : Nat) : Int) ((3 : Nat) : Int), .bool true, .bool false] = true := by decide +kernel
theorem many3tt : saysQ Tryz.prog knB 1000000000 3 [.sym ((15 : Nat) : Int) ((0 : Nat) : Int) ((3 : Nat) : Int), .bool true, .bool true] = true := by decide +kernel
end Go.Proofs.YtnhebanimmicaaaGreatDoor
