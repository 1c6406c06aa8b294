/- What a name of three letters is, and an entry of such a name or of none (mask.good with all that it calls); conditions: letters from a to z; bits from 0 to 7. -/
import Derived.Test.YtnhebanimmicaaaGreatDoorCmp
namespace Go.Proofs.YtnhebanimmicaaaGreatDoor
open Go.Abs

def code20 : PCode :=
  (.seq
   (.region [
    (.op (.some 1) none (.box (.tmp 0))),
    (.op (.some 2) none (.move (.const (.bool false))))])
   (.seq
    (.region [
     (.op (.some 4) none (.fieldAddr 2 (.tmp 1))),
     (.op (.some 5) none (.load1 (.tmp 4))),
     (.op (.some 6) none (.bin .eql (.tmp 5) (.const (.str [])))),
     (.op (.some 3) none (.move (.tmp 6)))])
    (.seq
     (.seq
      (.region [
       (.op (.some 7) none (.fieldAddr 0 (.tmp 1))),
       (.op (.some 8) none (.load1 (.tmp 7))),
       (.op (.some 9) none (.bin .eql (.tmp 8) (.const (.int .i64 2)))),
       (.op (.some 10) none (.move (.tmp 9))),
       (.op (.some 11) (.some (10, false)) (.fieldAddr 0 (.tmp 1))),
       (.op (.some 12) (.some (10, false)) (.load1 (.tmp 11))),
       (.op (.some 13) (.some (10, false)) (.bin .eql (.tmp 12) (.const (.int .i64 4)))),
       (.op (.some 14) none (.pick (.tmp 10) (.const (.bool true)) (.tmp 13)))])
      (.cond (.tmp 14)
       (.region [
        (.op (.some 15) none (.fieldAddr 2 (.tmp 1))),
        (.op (.some 16) none (.load1 (.tmp 15))),
        (.call (.some 17) none (.const (.fn 49 [])) [(.tmp 16)]),
        (.op (.some 3) none (.move (.tmp 17)))])
       .skip))
     (.seq
      (.region [
       (.op (.some 18) none (.move (.tmp 3))),
       (.op (.some 19) none (.move (.tmp 18))),
       (.op (.some 20) (.some (19, true)) (.fieldAddr 0 (.tmp 1))),
       (.op (.some 21) (.some (19, true)) (.load1 (.tmp 20))),
       (.op (.some 22) (.some (19, true)) (.bin .geq (.tmp 21) (.const (.int .i64 1)))),
       (.op (.some 23) none (.pick (.tmp 19) (.tmp 22) (.const (.bool false)))),
       (.op (.some 24) none (.move (.tmp 23))),
       (.op (.some 25) (.some (24, true)) (.fieldAddr 0 (.tmp 1))),
       (.op (.some 26) (.some (24, true)) (.load1 (.tmp 25))),
       (.op (.some 27) (.some (24, true)) (.bin .leq (.tmp 26) (.const (.int .i64 6)))),
       (.op (.some 28) none (.pick (.tmp 24) (.tmp 27) (.const (.bool false)))),
       (.op (.some 29) none (.move (.tmp 28))),
       (.op (.some 30) (.some (29, true)) (.fieldAddr 3 (.tmp 1))),
       (.op (.some 31) (.some (29, true)) (.load1 (.tmp 30))),
       (.op (.some 32) (.some (29, true)) (.bin .geq (.tmp 31) (.const (.int .i64 0)))),
       (.op (.some 33) none (.pick (.tmp 29) (.tmp 32) (.const (.bool false)))),
       (.op (.some 34) none (.move (.tmp 33))),
       (.op (.some 35) (.some (34, true)) (.fieldAddr 3 (.tmp 1))),
       (.op (.some 36) (.some (34, true)) (.load1 (.tmp 35))),
       (.op (.some 37) (.some (34, true)) (.bin .leq (.tmp 36) (.const (.int .i64 7)))),
       (.op (.some 38) none (.pick (.tmp 34) (.tmp 37) (.const (.bool false)))),
       (.op (.some 2) none (.move (.tmp 38)))])
      .ret))))
def fn20 : PFn := .body 16399 code20 [(.tmp 2)]

def code49 : PCode :=
  (.seq
   (.region [
    (.op (.some 2) none (.move (.const (.bool false))))])
   (.seq
    (.seq
     (.region [
      (.op (.some 4) none (.move (.tmp 0))),
      (.op (.some 5) none (.bin .eql (.tmp 4) (.const (.str [])))),
      (.op (.some 6) none (.move (.tmp 5))),
      (.op (.some 7) (.some (6, false)) (.move (.tmp 0))),
      (.op (.some 8) (.some (6, false)) (.lenStr (.tmp 7))),
      (.op (.some 9) (.some (6, false)) (.bin .gtr (.tmp 8) (.const (.int .i64 30)))),
      (.op (.some 10) none (.pick (.tmp 6) (.const (.bool true)) (.tmp 9))),
      (.op (.some 11) none (.move (.tmp 10))),
      (.op (.some 12) (.some (11, false)) (.move (.tmp 0))),
      (.op (.some 13) (.some (11, false)) (.indexStr (.tmp 12) (.const (.int .i64 0)))),
      (.call (.some 14) (.some (11, false)) (.const (.fn 83 [])) [(.tmp 13)]),
      (.op (.some 15) (.some (11, false)) (.not (.tmp 14))),
      (.op (.some 16) none (.pick (.tmp 11) (.const (.bool true)) (.tmp 15)))])
     (.cond (.tmp 16)
      (.seq
       (.region [
        (.op (.some 2) none (.move (.const (.bool false))))])
       .ret)
      .skip))
    (.seq
     (.seq
      (.region [
       (.op (.some 17) none (.move (.tmp 0))),
       (.op (.some 18) none (.lenStr (.tmp 17))),
       (.op (.some 19) none (.move (.const (.int .i64 0))))])
      (.block 0
       (.loop
        (.seq
         (.region [
          (.op (.some 20) none (.bin .lss (.tmp 19) (.tmp 18)))])
         (.seq
          (.cond (.tmp 20)
           .skip
           (.exit 0))
          (.seq
           (.block 1
            (.seq
             (.region [
              (.op (.some 21) none (.move (.tmp 19))),
              (.op (.some 3) none (.move (.tmp 21)))])
             (.seq
              (.region [
               (.op (.some 22) none (.move (.tmp 0))),
               (.op (.some 23) none (.move (.tmp 3))),
               (.op (.some 24) none (.indexStr (.tmp 22) (.tmp 23))),
               (.call (.some 25) none (.const (.fn 84 [])) [(.tmp 24)]),
               (.op (.some 26) none (.not (.tmp 25)))])
              (.cond (.tmp 26)
               (.seq
                (.region [
                 (.op (.some 2) none (.move (.const (.bool false))))])
                .ret)
               .skip))))
           (.region [
            (.op (.some 27) none (.bin .add (.tmp 19) (.const (.int .i64 1)))),
            (.op (.some 19) none (.move (.tmp 27)))])))))))
     (.seq
      (.region [
       (.op (.some 2) none (.move (.const (.bool true))))])
      .ret))))
def fn49 : PFn := .body 69009421 code49 [(.tmp 2)]

def code83 : PCode :=
  (.seq
   (.region [
    (.op (.some 2) none (.move (.const (.bool false))))])
   (.seq
    (.region [
     (.op (.some 3) none (.move (.tmp 0))),
     (.op (.some 4) none (.bin .geq (.tmp 3) (.const (.int .u8 97)))),
     (.op (.some 5) none (.move (.tmp 4))),
     (.op (.some 6) (.some (5, true)) (.move (.tmp 0))),
     (.op (.some 7) (.some (5, true)) (.bin .leq (.tmp 6) (.const (.int .u8 122)))),
     (.op (.some 8) none (.pick (.tmp 5) (.tmp 7) (.const (.bool false)))),
     (.op (.some 9) none (.move (.tmp 8))),
     (.op (.some 10) (.some (9, false)) (.move (.tmp 0))),
     (.op (.some 11) (.some (9, false)) (.bin .geq (.tmp 10) (.const (.int .u8 48)))),
     (.op (.some 12) (.some (9, false)) (.move (.tmp 11))),
     (.op (.some 13) (.some (12, true)) (.move (.tmp 0))),
     (.op (.some 14) (.some (12, true)) (.bin .leq (.tmp 13) (.const (.int .u8 57)))),
     (.op (.some 15) (.some (9, false)) (.pick (.tmp 12) (.tmp 14) (.const (.bool false)))),
     (.op (.some 16) none (.pick (.tmp 9) (.const (.bool true)) (.tmp 15))),
     (.op (.some 2) none (.move (.tmp 16)))])
    .ret))
def fn83 : PFn := .body 5 code83 [(.tmp 2)]

def code84 : PCode :=
  (.seq
   (.region [
    (.op (.some 2) none (.move (.const (.bool false))))])
   (.seq
    (.region [
     (.op (.some 3) none (.move (.tmp 0))),
     (.call (.some 4) none (.const (.fn 83 [])) [(.tmp 3)]),
     (.op (.some 5) none (.move (.tmp 4))),
     (.op (.some 6) (.some (5, false)) (.move (.tmp 0))),
     (.op (.some 7) (.some (5, false)) (.bin .eql (.tmp 6) (.const (.int .u8 95)))),
     (.op (.some 8) none (.pick (.tmp 5) (.const (.bool true)) (.tmp 7))),
     (.op (.some 9) none (.move (.tmp 8))),
     (.op (.some 10) (.some (9, false)) (.move (.tmp 0))),
     (.op (.some 11) (.some (9, false)) (.bin .eql (.tmp 10) (.const (.int .u8 45)))),
     (.op (.some 12) none (.pick (.tmp 9) (.const (.bool true)) (.tmp 11))),
     (.op (.some 13) none (.move (.tmp 12))),
     (.op (.some 14) (.some (13, false)) (.move (.tmp 0))),
     (.op (.some 15) (.some (13, false)) (.bin .eql (.tmp 14) (.const (.int .u8 46)))),
     (.op (.some 16) none (.pick (.tmp 13) (.const (.bool true)) (.tmp 15))),
     (.op (.some 2) none (.move (.tmp 16)))])
    .ret))
def fn84 : PFn := .body 5 code84 [(.tmp 2)]


theorem at83 : pfn Tryz.prog 83 = some fn83 := by kernel_rfl
theorem at84 : pfn Tryz.prog 84 = some fn84 := by kernel_rfl
theorem at49 : pfn Tryz.prog 49 = some fn49 := by kernel_rfl
theorem at20 : pfn Tryz.prog 20 = some fn20 := by kernel_rfl
theorem lT {p : Prop} [Decidable p] {S : PSt} (h : ¬ p) : (some (V.bool (!decide p), S) : Option (V × PSt)) = some (V.bool true, S) := by rw [decide_eq_false h]; rfl
theorem c83 (S : PSt) (b : Int) (h1 : ¬ b < 97) (h2 : ¬ 122 < b) : Cl pp 83 [.int .u8 b] S (.bool true, S) := by
  apply Cl.bodyS (e := .ret) (pp_of at83 (by decide))
  · repeat' first | exact Norm.nil | apply Norm.cons
  · repeat' first
                      | exact Ops.nil
                      | exact Dr.nil
                      | exact Ex.ret
                      | exact Ex.skip
                      | exact Ex.exit
                      | exact After.ret
                      | exact After.exit
                      | exact Out.normal
                      | exact Out.ret
                      | exact Out.exit
                      | exact Out.out (by decide)
                      | exact Rnd.ret
                      | exact Rnd.exit
                      | (apply Ops.opS; exact lT h1)
                      | (apply Ops.opGS rfl; exact lT h2)
                      | exact Norm.nil
                      | apply Norm.cons
                      | apply Ops.opS rfl
                      | (apply Ops.opGS rfl; exact rfl)
                      | apply Ops.opNS rfl
                      | apply Ops.callNS rfl
                      | exact Again.nil
                      | apply Again.anc rfl
                      | apply Again.op rfl
                      | apply Ex.regionN
                      | apply Ex.drawN
                      | apply Ex.seqK
                      | apply After.normal
                      | apply Rnd.normal
                      | apply Ex.blockK
                      | apply Ex.condT rfl
                      | apply Ex.condF rfl
                      | apply Ex.loopK
  · intro _ h; cases h
  · rfl
  · rfl
theorem c84 (S : PSt) (b : Int) (h1 : ¬ b < 97) (h2 : ¬ 122 < b) : Cl pp 84 [.int .u8 b] S (.bool true, S) := by
  apply Cl.bodyS (e := .ret) (pp_of at84 (by decide))
  · repeat' first | exact Norm.nil | apply Norm.cons
  · repeat' first
                      | exact Ops.nil
                      | exact Dr.nil
                      | exact Ex.ret
                      | exact Ex.skip
                      | exact Ex.exit
                      | exact After.ret
                      | exact After.exit
                      | exact Out.normal
                      | exact Out.ret
                      | exact Out.exit
                      | exact Out.out (by decide)
                      | exact Rnd.ret
                      | exact Rnd.exit
                      | apply Ops.callS rfl rfl rfl (c83 _ _ h1 h2)
                      | exact Norm.nil
                      | apply Norm.cons
                      | apply Ops.opS rfl
                      | (apply Ops.opGS rfl; exact rfl)
                      | apply Ops.opNS rfl
                      | apply Ops.callNS rfl
                      | exact Again.nil
                      | apply Again.anc rfl
                      | apply Again.op rfl
                      | apply Ex.regionN
                      | apply Ex.drawN
                      | apply Ex.seqK
                      | apply After.normal
                      | apply Rnd.normal
                      | apply Ex.blockK
                      | apply Ex.condT rfl
                      | apply Ex.condF rfl
                      | apply Ex.loopK
  · intro _ h; cases h
  · rfl
  · rfl
theorem c49 (S : PSt) (x y z : UInt8) (x1 : ¬ (x.toNat : Int) < 97) (x2 : ¬ 122 < (x.toNat : Int)) (y1 : ¬ (y.toNat : Int) < 97) (y2 : ¬ 122 < (y.toNat : Int)) (z1 : ¬ (z.toNat : Int) < 97) (z2 : ¬ 122 < (z.toNat : Int)) : Cl pp 49 [.str [x, y, z]] S (.bool true, S) := by
  apply Cl.bodyS (e := .ret) (pp_of at49 (by decide))
  · repeat' first | exact Norm.nil | apply Norm.cons
  · repeat' first
                      | exact Ops.nil
                      | exact Dr.nil
                      | exact Ex.ret
                      | exact Ex.skip
                      | exact Ex.exit
                      | exact After.ret
                      | exact After.exit
                      | exact Out.normal
                      | exact Out.ret
                      | exact Out.exit
                      | exact Out.out (by decide)
                      | exact Rnd.ret
                      | exact Rnd.exit
                      | apply Ops.callS rfl rfl rfl (c83 _ _ x1 x2)
                      | apply Ops.callS rfl rfl rfl (c84 _ _ x1 x2)
                      | apply Ops.callS rfl rfl rfl (c84 _ _ y1 y2)
                      | apply Ops.callS rfl rfl rfl (c84 _ _ z1 z2)
                      | exact Norm.nil
                      | apply Norm.cons
                      | apply Ops.opS rfl
                      | (apply Ops.opGS rfl; exact rfl)
                      | apply Ops.opNS rfl
                      | apply Ops.callNS rfl
                      | exact Again.nil
                      | apply Again.anc rfl
                      | apply Again.op rfl
                      | apply Ex.regionN
                      | apply Ex.drawN
                      | apply Ex.seqK
                      | apply After.normal
                      | apply Rnd.normal
                      | apply Ex.blockK
                      | apply Ex.condT rfl
                      | apply Ex.condF rfl
                      | apply Ex.loopK
  · intro _ h; cases h
  · rfl
  · rfl
theorem c20u (n : Int) (d : Bool) (h1 : ¬ n < 0) (h2 : ¬ 7 < n) (x y z : UInt8) (x1 : ¬ (x.toNat : Int) < 97) (x2 : ¬ 122 < (x.toNat : Int)) (y1 : ¬ (y.toNat : Int) < 97) (y2 : ¬ 122 < (y.toNat : Int)) (z1 : ¬ (z.toNat : Int) < 97) (z2 : ¬ 122 < (z.toNat : Int)) :
    ∃ S, Cl pp 20 [.agg [.int .i64 2, .bool d, .str [x, y, z], .int .i64 n]] S0 (.bool true, S) := by
  refine ⟨?_, ?_⟩
  rotate_left
  apply Cl.bodyS (e := .ret) (pp_of at20 (by decide))
  · repeat' first | exact Norm.nil | apply Norm.cons
  · repeat' first
                      | exact Ops.nil
                      | exact Dr.nil
                      | exact Ex.ret
                      | exact Ex.skip
                      | exact Ex.exit
                      | exact After.ret
                      | exact After.exit
                      | exact Out.normal
                      | exact Out.ret
                      | exact Out.exit
                      | exact Out.out (by decide)
                      | exact Rnd.ret
                      | exact Rnd.exit
                      | apply Ops.callS rfl rfl rfl (c49 _ _ _ _ x1 x2 y1 y2 z1 z2)
                      | (apply Ops.opGS rfl; exact lT h1)
                      | (apply Ops.opGS rfl; exact lT h2)
                      | exact Norm.nil
                      | apply Norm.cons
                      | apply Ops.opS rfl
                      | (apply Ops.opGS rfl; exact rfl)
                      | apply Ops.opNS rfl
                      | apply Ops.callNS rfl
                      | exact Again.nil
                      | apply Again.anc rfl
                      | apply Again.op rfl
                      | apply Ex.regionN
                      | apply Ex.drawN
                      | apply Ex.seqK
                      | apply After.normal
                      | apply Rnd.normal
                      | apply Ex.blockK
                      | apply Ex.condT rfl
                      | apply Ex.condF rfl
                      | apply Ex.loopK
  · intro _ h; cases h
  · rfl
  · rfl
theorem c20k1 (n : Int) (d : Bool) (h1 : ¬ n < 0) (h2 : ¬ 7 < n) : ∃ S, Cl pp 20 [.agg [.int .i64 1, .bool d, .str [], .int .i64 n]] S0 (.bool true, S) := by
  refine ⟨?_, ?_⟩
  rotate_left
  apply Cl.bodyS (e := .ret) (pp_of at20 (by decide))
  · repeat' first | exact Norm.nil | apply Norm.cons
  · repeat' first
                      | exact Ops.nil
                      | exact Dr.nil
                      | exact Ex.ret
                      | exact Ex.skip
                      | exact Ex.exit
                      | exact After.ret
                      | exact After.exit
                      | exact Out.normal
                      | exact Out.ret
                      | exact Out.exit
                      | exact Out.out (by decide)
                      | exact Rnd.ret
                      | exact Rnd.exit
                      | (apply Ops.opGS rfl; exact lT h1)
                      | (apply Ops.opGS rfl; exact lT h2)
                      | exact Norm.nil
                      | apply Norm.cons
                      | apply Ops.opS rfl
                      | (apply Ops.opGS rfl; exact rfl)
                      | apply Ops.opNS rfl
                      | apply Ops.callNS rfl
                      | exact Again.nil
                      | apply Again.anc rfl
                      | apply Again.op rfl
                      | apply Ex.regionN
                      | apply Ex.drawN
                      | apply Ex.seqK
                      | apply After.normal
                      | apply Rnd.normal
                      | apply Ex.blockK
                      | apply Ex.condT rfl
                      | apply Ex.condF rfl
                      | apply Ex.loopK
  · intro _ h; cases h
  · rfl
  · rfl
theorem c20k3 (n : Int) (d : Bool) (h1 : ¬ n < 0) (h2 : ¬ 7 < n) : ∃ S, Cl pp 20 [.agg [.int .i64 3, .bool d, .str [], .int .i64 n]] S0 (.bool true, S) := by
  refine ⟨?_, ?_⟩
  rotate_left
  apply Cl.bodyS (e := .ret) (pp_of at20 (by decide))
  · repeat' first | exact Norm.nil | apply Norm.cons
  · repeat' first
                      | exact Ops.nil
                      | exact Dr.nil
                      | exact Ex.ret
                      | exact Ex.skip
                      | exact Ex.exit
                      | exact After.ret
                      | exact After.exit
                      | exact Out.normal
                      | exact Out.ret
                      | exact Out.exit
                      | exact Out.out (by decide)
                      | exact Rnd.ret
                      | exact Rnd.exit
                      | (apply Ops.opGS rfl; exact lT h1)
                      | (apply Ops.opGS rfl; exact lT h2)
                      | exact Norm.nil
                      | apply Norm.cons
                      | apply Ops.opS rfl
                      | (apply Ops.opGS rfl; exact rfl)
                      | apply Ops.opNS rfl
                      | apply Ops.callNS rfl
                      | exact Again.nil
                      | apply Again.anc rfl
                      | apply Again.op rfl
                      | apply Ex.regionN
                      | apply Ex.drawN
                      | apply Ex.seqK
                      | apply After.normal
                      | apply Rnd.normal
                      | apply Ex.blockK
                      | apply Ex.condT rfl
                      | apply Ex.condF rfl
                      | apply Ex.loopK
  · intro _ h; cases h
  · rfl
  · rfl
theorem c20k5 (n : Int) (d : Bool) (h1 : ¬ n < 0) (h2 : ¬ 7 < n) : ∃ S, Cl pp 20 [.agg [.int .i64 5, .bool d, .str [], .int .i64 n]] S0 (.bool true, S) := by
  refine ⟨?_, ?_⟩
  rotate_left
  apply Cl.bodyS (e := .ret) (pp_of at20 (by decide))
  · repeat' first | exact Norm.nil | apply Norm.cons
  · repeat' first
                      | exact Ops.nil
                      | exact Dr.nil
                      | exact Ex.ret
                      | exact Ex.skip
                      | exact Ex.exit
                      | exact After.ret
                      | exact After.exit
                      | exact Out.normal
                      | exact Out.ret
                      | exact Out.exit
                      | exact Out.out (by decide)
                      | exact Rnd.ret
                      | exact Rnd.exit
                      | (apply Ops.opGS rfl; exact lT h1)
                      | (apply Ops.opGS rfl; exact lT h2)
                      | exact Norm.nil
                      | apply Norm.cons
                      | apply Ops.opS rfl
                      | (apply Ops.opGS rfl; exact rfl)
                      | apply Ops.opNS rfl
                      | apply Ops.callNS rfl
                      | exact Again.nil
                      | apply Again.anc rfl
                      | apply Again.op rfl
                      | apply Ex.regionN
                      | apply Ex.drawN
                      | apply Ex.seqK
                      | apply After.normal
                      | apply Rnd.normal
                      | apply Ex.blockK
                      | apply Ex.condT rfl
                      | apply Ex.condF rfl
                      | apply Ex.loopK
  · intro _ h; cases h
  · rfl
  · rfl
theorem c20k6 (n : Int) (d : Bool) (h1 : ¬ n < 0) (h2 : ¬ 7 < n) : ∃ S, Cl pp 20 [.agg [.int .i64 6, .bool d, .str [], .int .i64 n]] S0 (.bool true, S) := by
  refine ⟨?_, ?_⟩
  rotate_left
  apply Cl.bodyS (e := .ret) (pp_of at20 (by decide))
  · repeat' first | exact Norm.nil | apply Norm.cons
  · repeat' first
                      | exact Ops.nil
                      | exact Dr.nil
                      | exact Ex.ret
                      | exact Ex.skip
                      | exact Ex.exit
                      | exact After.ret
                      | exact After.exit
                      | exact Out.normal
                      | exact Out.ret
                      | exact Out.exit
                      | exact Out.out (by decide)
                      | exact Rnd.ret
                      | exact Rnd.exit
                      | (apply Ops.opGS rfl; exact lT h1)
                      | (apply Ops.opGS rfl; exact lT h2)
                      | exact Norm.nil
                      | apply Norm.cons
                      | apply Ops.opS rfl
                      | (apply Ops.opGS rfl; exact rfl)
                      | apply Ops.opNS rfl
                      | apply Ops.callNS rfl
                      | exact Again.nil
                      | apply Again.anc rfl
                      | apply Again.op rfl
                      | apply Ex.regionN
                      | apply Ex.drawN
                      | apply Ex.seqK
                      | apply After.normal
                      | apply Rnd.normal
                      | apply Ex.blockK
                      | apply Ex.condT rfl
                      | apply Ex.condF rfl
                      | apply Ex.loopK
  · intro _ h; cases h
  · rfl
  · rfl
end Go.Proofs.YtnhebanimmicaaaGreatDoor
