/- The comparison of two entries (mask.compare) with all that it calls: what it computes; conditions: each field is a whole number, text or boolean as typed. -/
import Derived.Test.YtnhebanimmicaaaGreatDoorPm13
import Derived.Test.YtnhebanimmicaaaGreatDoorRows
namespace Go.Proofs.YtnhebanimmicaaaGreatDoor
open Go.Abs

def code61 : PCode :=
  (.seq
   (.region [
    (.op (.some 2) none (.move (.const (.bool false))))])
   (.seq
    (.region [
     (.op (.some 3) none (.move (.tmp 0))),
     (.op (.some 4) none (.move (.tmp 0))),
     (.op (.some 5) none (.bin .neq (.tmp 3) (.tmp 4))),
     (.op (.some 2) none (.move (.tmp 5)))])
    .ret))
def fn61 : PFn := .body 5 code61 [(.tmp 2)]

def code34 : PCode :=
  (.seq
   (.region [
    (.op (.some 4) none (.move (.const (.int .i64 0))))])
   (.seq
    (.region [
     (.op (.some 7) none (.move (.tmp 0))),
     (.call (.some 8) none (.const (.fn 61 [])) [(.tmp 7)]),
     (.op (.some 5) none (.move (.tmp 8)))])
    (.seq
     (.region [
      (.op (.some 9) none (.move (.tmp 1))),
      (.call (.some 10) none (.const (.fn 61 [])) [(.tmp 9)]),
      (.op (.some 6) none (.move (.tmp 10)))])
     (.seq
      (.seq
       (.region [
        (.op (.some 11) none (.move (.tmp 5)))])
       (.cond (.tmp 11)
        (.seq
         (.seq
          (.region [
           (.op (.some 12) none (.move (.tmp 6)))])
          (.cond (.tmp 12)
           (.seq
            (.region [
             (.op (.some 4) none (.move (.const (.int .i64 0))))])
            .ret)
           .skip))
         (.seq
          (.region [
           (.op (.some 4) none (.move (.const (.int .i64 (-1)))))])
          .ret))
        .skip))
      (.seq
       (.seq
        (.region [
         (.op (.some 13) none (.move (.tmp 6)))])
        (.cond (.tmp 13)
         (.seq
          (.region [
           (.op (.some 4) none (.move (.const (.int .i64 1))))])
          .ret)
         .skip))
       (.seq
        (.seq
         (.region [
          (.op (.some 14) none (.move (.tmp 0))),
          (.op (.some 15) none (.move (.tmp 1))),
          (.op (.some 16) none (.bin .lss (.tmp 14) (.tmp 15)))])
         (.cond (.tmp 16)
          (.seq
           (.region [
            (.op (.some 4) none (.move (.const (.int .i64 (-1)))))])
           .ret)
          .skip))
        (.seq
         (.seq
          (.region [
           (.op (.some 17) none (.move (.tmp 0))),
           (.op (.some 18) none (.move (.tmp 1))),
           (.op (.some 19) none (.bin .gtr (.tmp 17) (.tmp 18)))])
          (.cond (.tmp 19)
           (.seq
            (.region [
             (.op (.some 4) none (.move (.const (.int .i64 1))))])
            .ret)
           .skip))
         (.seq
          (.region [
           (.op (.some 4) none (.move (.const (.int .i64 0))))])
          .ret))))))))
def fn34 : PFn := .body 604275 code34 [(.tmp 4)]

def code48 : PCode :=
  (.seq
   (.region [
    (.op (.some 2) none (.move (.const (.int .i64 0))))])
   (.seq
    (.seq
     (.region [
      (.op (.some 3) none (.move (.tmp 0)))])
     (.cond (.tmp 3)
      (.seq
       (.region [
        (.op (.some 2) none (.move (.const (.int .i64 1))))])
       .ret)
      .skip))
    (.seq
     (.region [
      (.op (.some 2) none (.move (.const (.int .i64 0))))])
     .ret)))
def fn48 : PFn := .body 13 code48 [(.tmp 2)]

def code62 : PCode :=
  (.seq
   (.region [
    (.op (.some 4) none (.move (.const (.int .i64 0))))])
   (.seq
    (.region [
     (.op (.some 5) none (.move (.tmp 0))),
     (.op (.some 6) none (.move (.tmp 1))),
     (.call (.some 7) none (.const (.fn 94 [])) [(.tmp 5), (.tmp 6)]),
     (.op (.some 4) none (.move (.tmp 7)))])
    .ret))
def fn62 : PFn := .body 19 code62 [(.tmp 4)]

def code36 : PCode :=
  (.seq
   (.region [
    (.op (.some 4) none (.move (.const (.int .i64 0))))])
   (.seq
    (.region [
     (.op (.some 5) none (.move (.tmp 0))),
     (.op (.some 6) none (.move (.tmp 1))),
     (.call (.some 7) none (.const (.fn 62 [])) [(.tmp 5), (.tmp 6)]),
     (.op (.some 4) none (.move (.tmp 7)))])
    .ret))
def fn36 : PFn := .body 19 code36 [(.tmp 4)]

def code33 : PCode :=
  (.seq
   (.region [
    (.op (.some 2) none (.move (.const (.int .i64 0))))])
   (.seq
    (.region [
     (.op (.some 3) none (.move (.const (.int .i64 0))))])
    (.seq
     (.seq
      (.region [
       (.op (.some 6) none (.move (.tmp 0))),
       (.op (.some 7) none (.lenS (.tmp 6))),
       (.op (.some 8) none (.move (.const (.int .i64 0))))])
      (.block 0
       (.loop
        (.seq
         (.region [
          (.op (.some 9) none (.bin .lss (.tmp 8) (.tmp 7)))])
         (.seq
          (.cond (.tmp 9)
           .skip
           (.exit 0))
          (.seq
           (.block 1
            (.seq
             (.region [
              (.op (.some 10) none (.indexAddr 1 (.tmp 6) (.tmp 8))),
              (.op (.some 11) none (.load1 (.tmp 10))),
              (.op (.some 5) none (.move (.tmp 11)))])
             (.seq
              (.region [
               (.op (.some 12) none (.move (.tmp 5))),
               (.op (.some 13) none (.move (.tmp 3))),
               (.op (.some 14) none (.bin .neq (.tmp 12) (.tmp 13)))])
              (.cond (.tmp 14)
               (.seq
                (.region [
                 (.op (.some 15) none (.move (.tmp 5))),
                 (.op (.some 2) none (.move (.tmp 15)))])
                .ret)
               .skip))))
           (.region [
            (.op (.some 16) none (.bin .add (.tmp 8) (.const (.int .i64 1)))),
            (.op (.some 8) none (.move (.tmp 16)))])))))))
     (.seq
      (.region [
       (.op (.some 17) none (.move (.tmp 3))),
       (.op (.some 2) none (.move (.tmp 17)))])
      .ret))))
def fn33 : PFn := .body 17389 code33 [(.tmp 2)]

def code19 : PCode :=
  (.seq
   (.region [
    (.op (.some 2) none (.box (.tmp 0))),
    (.op (.some 3) none (.box (.tmp 1))),
    (.op (.some 4) none (.move (.const (.int .i64 0))))])
   (.seq
    (.draw 20 [
     ⟨0, .p, (.op (.some 5) none (.fieldAddr 1 (.tmp 2))), [2], 0⟩,
     ⟨1, .q, (.op (.some 6) none (.load1 (.tmp 5))), [5], 1⟩,
     ⟨3, .p, (.op (.some 8) none (.fieldAddr 1 (.tmp 3))), [3], 0⟩,
     ⟨4, .q, (.op (.some 9) none (.load1 (.tmp 8))), [8], 8⟩,
     ⟨7, .p, (.op (.some 12) none (.fieldAddr 0 (.tmp 2))), [2], 0⟩,
     ⟨8, .q, (.op (.some 13) none (.load1 (.tmp 12))), [12], 128⟩,
     ⟨9, .p, (.op (.some 14) none (.fieldAddr 0 (.tmp 3))), [3], 0⟩,
     ⟨10, .q, (.op (.some 15) none (.load1 (.tmp 14))), [14], 512⟩,
     ⟨12, .p, (.op (.some 17) none (.fieldAddr 2 (.tmp 2))), [2], 0⟩,
     ⟨13, .q, (.op (.some 18) none (.load1 (.tmp 17))), [17], 4096⟩,
     ⟨14, .p, (.op (.some 19) none (.fieldAddr 2 (.tmp 3))), [3], 0⟩,
     ⟨15, .q, (.op (.some 20) none (.load1 (.tmp 19))), [19], 16384⟩,
     ⟨2, .i, (.call (.some 7) none (.const (.fn 48 [])) [(.tmp 6)]), [6], 3⟩,
     ⟨5, .i, (.call (.some 10) none (.const (.fn 48 [])) [(.tmp 9)]), [9], 31⟩,
     ⟨6, .i, (.call (.some 11) none (.const (.fn 34 [])) [(.tmp 7), (.tmp 10)]), [7, 10], 63⟩,
     ⟨11, .i, (.call (.some 16) none (.const (.fn 34 [])) [(.tmp 13), (.tmp 15)]), [13, 15], 2047⟩,
     ⟨16, .i, (.call (.some 21) none (.const (.fn 36 [])) [(.tmp 18), (.tmp 20)]), [18, 20], 65535⟩,
     ⟨17, .a, (.op (.some 22) none (.buildSlice 1 3 [(.int .i64 0)] [(0, (1, (.tmp 11))), (1, (1, (.tmp 16))), (2, (1, (.tmp 21)))])), [11, 16, 21], 131071⟩,
     ⟨18, .i, (.call (.some 23) none (.const (.fn 33 [])) [(.tmp 22)]), [22], 262143⟩,
     ⟨19, .p, (.op (.some 4) none (.move (.tmp 23))), [23], 524287⟩])
    .ret))
def fn19 : PFn := .body 31 code19 [(.tmp 4)]

theorem mixed : Tryz.prog.follows .mixedOrders = true := by decide +kernel
theorem names : namesOk Tryz.prog = true := by decide +kernel
theorem at61 : pfn Tryz.prog 61 = some fn61 := by kernel_rfl
theorem at34 : pfn Tryz.prog 34 = some fn34 := by kernel_rfl
theorem at48 : pfn Tryz.prog 48 = some fn48 := by kernel_rfl
theorem at62 : pfn Tryz.prog 62 = some fn62 := by kernel_rfl
theorem at36 : pfn Tryz.prog 36 = some fn36 := by kernel_rfl
theorem at33 : pfn Tryz.prog 33 = some fn33 := by kernel_rfl
theorem at19 : pfn Tryz.prog 19 = some fn19 := by kernel_rfl
theorem cmp94 : progOf Tryz.prog ⟨[], [], []⟩ 94 = some .cmp := by kernel_rfl
def ps : List (Nat × PPrim) := [(94, pCmp)]
theorem ps_ok : PrimsOk Tryz.prog ⟨[], [], []⟩ ps := fun x hx => by
  rcases List.mem_cons.1 hx with rfl | hx
  · exact pCmp_ok cmp94
  · cases hx
noncomputable def pp : Nat → Option PFn := pprog Tryz.prog ps
theorem pp_of {f : Nat} {x : PFn} (h : pfn Tryz.prog f = some x) (hf : f ≠ 94) : pp f = some x := by
  show (match plook ps f with
    | some F => some (PFn.prim F)
    | none => pfn Tryz.prog f) = _
  have : plook ps f = none := by
    unfold ps plook
    rw [if_neg (fun e => hf e.symm)]; rfl
  rw [this]; exact h

theorem neq_self {x : Int} : pInt .neq .i64 x .i64 x = some (.bool false) := by simp [pInt]
theorem c61 (S : PSt) (x : Int) : Cl pp 61 [.int .i64 x] S (.bool false, S) := by
  have e' : (match pInt .neq .i64 x .i64 x with
        | some v => some (v, S)
        | none => none) = some (.bool false, S) := by rw [neq_self]
  apply Cl.bodyS (e := .ret) (pp_of at61 (by decide))
  · repeat' first | exact Norm.nil | apply Norm.cons
  · repeat' first
                      | exact Ops.nil
                      | exact Dr.nil
                      | exact Ex.ret
                      | exact Ex.skip
                      | exact Ex.exit
                      | exact After.ret
                      | exact After.exit
                      | exact Out.normal
                      | exact Out.ret
                      | exact Out.exit
                      | exact Out.out (by decide)
                      | exact Rnd.ret
                      | exact Rnd.exit
                      | (apply Ops.opS; exact e')
                      | exact Norm.nil
                      | apply Norm.cons
                      | apply Ops.opS rfl
                      | (apply Ops.opGS rfl; exact rfl)
                      | apply Ops.opNS rfl
                      | apply Ops.callNS rfl
                      | exact Again.nil
                      | apply Again.anc rfl
                      | apply Again.op rfl
                      | apply Ex.regionN
                      | apply Ex.drawN
                      | apply Ex.seqK
                      | apply After.normal
                      | apply Rnd.normal
                      | apply Ex.blockK
                      | apply Ex.condT rfl
                      | apply Ex.condF rfl
                      | apply Ex.loopK
  · intro _ h; cases h
  · rfl
  · rfl
theorem c48 (S : PSt) (b : Bool) : Cl pp 48 [.bool b] S (.int .i64 (if b then 1 else 0), S) := by
  cases b
  · apply Cl.bodyS (e := .ret) (pp_of at48 (by decide))
    · repeat' first | exact Norm.nil | apply Norm.cons
    · repeat' first
                      | exact Ops.nil
                      | exact Dr.nil
                      | exact Ex.ret
                      | exact Ex.skip
                      | exact Ex.exit
                      | exact After.ret
                      | exact After.exit
                      | exact Out.normal
                      | exact Out.ret
                      | exact Out.exit
                      | exact Out.out (by decide)
                      | exact Rnd.ret
                      | exact Rnd.exit
                      | exact Norm.nil
                      | apply Norm.cons
                      | apply Ops.opS rfl
                      | (apply Ops.opGS rfl; exact rfl)
                      | apply Ops.opNS rfl
                      | apply Ops.callNS rfl
                      | exact Again.nil
                      | apply Again.anc rfl
                      | apply Again.op rfl
                      | apply Ex.regionN
                      | apply Ex.drawN
                      | apply Ex.seqK
                      | apply After.normal
                      | apply Rnd.normal
                      | apply Ex.blockK
                      | apply Ex.condT rfl
                      | apply Ex.condF rfl
                      | apply Ex.loopK
    · intro _ h; cases h
    · rfl
    · rfl
  · apply Cl.bodyS (e := .ret) (pp_of at48 (by decide))
    · repeat' first | exact Norm.nil | apply Norm.cons
    · repeat' first
                      | exact Ops.nil
                      | exact Dr.nil
                      | exact Ex.ret
                      | exact Ex.skip
                      | exact Ex.exit
                      | exact After.ret
                      | exact After.exit
                      | exact Out.normal
                      | exact Out.ret
                      | exact Out.exit
                      | exact Out.out (by decide)
                      | exact Rnd.ret
                      | exact Rnd.exit
                      | exact Norm.nil
                      | apply Norm.cons
                      | apply Ops.opS rfl
                      | (apply Ops.opGS rfl; exact rfl)
                      | apply Ops.opNS rfl
                      | apply Ops.callNS rfl
                      | exact Again.nil
                      | apply Again.anc rfl
                      | apply Again.op rfl
                      | apply Ex.regionN
                      | apply Ex.drawN
                      | apply Ex.seqK
                      | apply After.normal
                      | apply Rnd.normal
                      | apply Ex.blockK
                      | apply Ex.condT rfl
                      | apply Ex.condF rfl
                      | apply Ex.loopK
    · intro _ h; cases h
    · rfl
    · rfl
/-- How two whole numbers stand to each other. -/
def cmpI (x y : Int) : Int := if x < y then -1 else if y < x then 1 else 0
theorem bT {p : Prop} [Decidable p] (h : p) : some (V.bool (decide p)) = some (V.bool true) := by rw [decide_eq_true h]
theorem bF {p : Prop} [Decidable p] (h : ¬ p) : some (V.bool (decide p)) = some (V.bool false) := by rw [decide_eq_false h]
theorem c34 (S : PSt) (x y : Int) : Cl pp 34 [.int .i64 x, .int .i64 y] S (.int .i64 (cmpI x y), S) := by
  unfold cmpI
  by_cases h1 : x < y
  · rw [if_pos h1]
    apply Cl.bodyS (e := .ret) (pp_of at34 (by decide))
    · repeat' first | exact Norm.nil | apply Norm.cons
    · repeat' first
                      | exact Ops.nil
                      | exact Dr.nil
                      | exact Ex.ret
                      | exact Ex.skip
                      | exact Ex.exit
                      | exact After.ret
                      | exact After.exit
                      | exact Out.normal
                      | exact Out.ret
                      | exact Out.exit
                      | exact Out.out (by decide)
                      | exact Rnd.ret
                      | exact Rnd.exit
                      | apply Ops.callS rfl rfl rfl (c61 _ _)
                      | (apply Ex.condT; exact bT h1)
                      | exact Norm.nil
                      | apply Norm.cons
                      | apply Ops.opS rfl
                      | (apply Ops.opGS rfl; exact rfl)
                      | apply Ops.opNS rfl
                      | apply Ops.callNS rfl
                      | exact Again.nil
                      | apply Again.anc rfl
                      | apply Again.op rfl
                      | apply Ex.regionN
                      | apply Ex.drawN
                      | apply Ex.seqK
                      | apply After.normal
                      | apply Rnd.normal
                      | apply Ex.blockK
                      | apply Ex.condT rfl
                      | apply Ex.condF rfl
                      | apply Ex.loopK
    · intro _ h; cases h
    · rfl
    · rfl
  · rw [if_neg h1]
    by_cases h2 : y < x
    · rw [if_pos h2]
      apply Cl.bodyS (e := .ret) (pp_of at34 (by decide))
      · repeat' first | exact Norm.nil | apply Norm.cons
      · repeat' first
                      | exact Ops.nil
                      | exact Dr.nil
                      | exact Ex.ret
                      | exact Ex.skip
                      | exact Ex.exit
                      | exact After.ret
                      | exact After.exit
                      | exact Out.normal
                      | exact Out.ret
                      | exact Out.exit
                      | exact Out.out (by decide)
                      | exact Rnd.ret
                      | exact Rnd.exit
                      | apply Ops.callS rfl rfl rfl (c61 _ _)
                      | (apply Ex.condF; exact bF h1)
                      | (apply Ex.condT; exact bT h2)
                      | exact Norm.nil
                      | apply Norm.cons
                      | apply Ops.opS rfl
                      | (apply Ops.opGS rfl; exact rfl)
                      | apply Ops.opNS rfl
                      | apply Ops.callNS rfl
                      | exact Again.nil
                      | apply Again.anc rfl
                      | apply Again.op rfl
                      | apply Ex.regionN
                      | apply Ex.drawN
                      | apply Ex.seqK
                      | apply After.normal
                      | apply Rnd.normal
                      | apply Ex.blockK
                      | apply Ex.condT rfl
                      | apply Ex.condF rfl
                      | apply Ex.loopK
      · intro _ h; cases h
      · rfl
      · rfl
    · rw [if_neg h2]
      apply Cl.bodyS (e := .ret) (pp_of at34 (by decide))
      · repeat' first | exact Norm.nil | apply Norm.cons
      · repeat' first
                      | exact Ops.nil
                      | exact Dr.nil
                      | exact Ex.ret
                      | exact Ex.skip
                      | exact Ex.exit
                      | exact After.ret
                      | exact After.exit
                      | exact Out.normal
                      | exact Out.ret
                      | exact Out.exit
                      | exact Out.out (by decide)
                      | exact Rnd.ret
                      | exact Rnd.exit
                      | apply Ops.callS rfl rfl rfl (c61 _ _)
                      | (apply Ex.condF; exact bF h1)
                      | (apply Ex.condF; exact bF h2)
                      | exact Norm.nil
                      | apply Norm.cons
                      | apply Ops.opS rfl
                      | (apply Ops.opGS rfl; exact rfl)
                      | apply Ops.opNS rfl
                      | apply Ops.callNS rfl
                      | exact Again.nil
                      | apply Again.anc rfl
                      | apply Again.op rfl
                      | apply Ex.regionN
                      | apply Ex.drawN
                      | apply Ex.seqK
                      | apply After.normal
                      | apply Rnd.normal
                      | apply Ex.blockK
                      | apply Ex.condT rfl
                      | apply Ex.condF rfl
                      | apply Ex.loopK
      · intro _ h; cases h
      · rfl
      · rfl
/-- How two texts stand to each other. -/
def cmpS (x y : List UInt8) : Int := if Op.bytesLess x y = true then -1 else if x = y then 0 else 1
theorem pp94 : pp 94 = some (.prim pCmp) := rfl
theorem c94 (S : PSt) (x y : List UInt8) : Cl pp 94 [.str x, .str y] S (.int .i64 (cmpS x y), S) := Cl.prim pp94 rfl
theorem c62 (S : PSt) (x y : List UInt8) : Cl pp 62 [.str x, .str y] S (.int .i64 (cmpS x y), S) := by
  apply Cl.bodyS (e := .ret) (pp_of at62 (by decide))
  · repeat' first | exact Norm.nil | apply Norm.cons
  · repeat' first
                      | exact Ops.nil
                      | exact Dr.nil
                      | exact Ex.ret
                      | exact Ex.skip
                      | exact Ex.exit
                      | exact After.ret
                      | exact After.exit
                      | exact Out.normal
                      | exact Out.ret
                      | exact Out.exit
                      | exact Out.out (by decide)
                      | exact Rnd.ret
                      | exact Rnd.exit
                      | apply Ops.callS rfl rfl rfl (c94 _ _ _)
                      | exact Norm.nil
                      | apply Norm.cons
                      | apply Ops.opS rfl
                      | (apply Ops.opGS rfl; exact rfl)
                      | apply Ops.opNS rfl
                      | apply Ops.callNS rfl
                      | exact Again.nil
                      | apply Again.anc rfl
                      | apply Again.op rfl
                      | apply Ex.regionN
                      | apply Ex.drawN
                      | apply Ex.seqK
                      | apply After.normal
                      | apply Rnd.normal
                      | apply Ex.blockK
                      | apply Ex.condT rfl
                      | apply Ex.condF rfl
                      | apply Ex.loopK
  · intro _ h; cases h
  · rfl
  · rfl
theorem c36 (S : PSt) (x y : List UInt8) : Cl pp 36 [.str x, .str y] S (.int .i64 (cmpS x y), S) := by
  apply Cl.bodyS (e := .ret) (pp_of at36 (by decide))
  · repeat' first | exact Norm.nil | apply Norm.cons
  · repeat' first
                      | exact Ops.nil
                      | exact Dr.nil
                      | exact Ex.ret
                      | exact Ex.skip
                      | exact Ex.exit
                      | exact After.ret
                      | exact After.exit
                      | exact Out.normal
                      | exact Out.ret
                      | exact Out.exit
                      | exact Out.out (by decide)
                      | exact Rnd.ret
                      | exact Rnd.exit
                      | apply Ops.callS rfl rfl rfl (c62 _ _ _)
                      | exact Norm.nil
                      | apply Norm.cons
                      | apply Ops.opS rfl
                      | (apply Ops.opGS rfl; exact rfl)
                      | apply Ops.opNS rfl
                      | apply Ops.callNS rfl
                      | exact Again.nil
                      | apply Again.anc rfl
                      | apply Again.op rfl
                      | apply Ex.regionN
                      | apply Ex.drawN
                      | apply Ex.seqK
                      | apply After.normal
                      | apply Rnd.normal
                      | apply Ex.blockK
                      | apply Ex.condT rfl
                      | apply Ex.condF rfl
                      | apply Ex.loopK
  · intro _ h; cases h
  · rfl
  · rfl
/-- The first that is not nought. -/
def or3 (x y z : Int) : Int := if x = 0 then if y = 0 then z else y else x
theorem nT {p : Prop} [Decidable p] (h : ¬ p) : some (V.bool (!decide p)) = some (V.bool true) := by rw [decide_eq_false h]; rfl
theorem nF {p : Prop} [Decidable p] (h : p) : some (V.bool (!decide p)) = some (V.bool false) := by rw [decide_eq_true h]; rfl
theorem c33 (S : PSt) (a : Nat) (cap : Option Nat) (x y z : Int) : Cl pp 33 [.row a 0 3 cap 1 [.int .i64 x, .int .i64 y, .int .i64 z]] S (.int .i64 (or3 x y z), S) := by
  unfold or3
  by_cases h1 : x = 0
  · rw [if_pos h1]
    by_cases h2 : y = 0
    · rw [if_pos h2]
      by_cases h3 : z = 0
      · subst h3
        apply Cl.bodyS (e := .ret) (pp_of at33 (by decide))
        · repeat' first | exact Norm.nil | apply Norm.cons
        · repeat' first
                      | exact Ops.nil
                      | exact Dr.nil
                      | exact Ex.ret
                      | exact Ex.skip
                      | exact Ex.exit
                      | exact After.ret
                      | exact After.exit
                      | exact Out.normal
                      | exact Out.ret
                      | exact Out.exit
                      | exact Out.out (by decide)
                      | exact Rnd.ret
                      | exact Rnd.exit
                      | (apply Ex.condF; exact nF h1)
                      | (apply Ex.condF; exact nF h2)
                      | exact Norm.nil
                      | apply Norm.cons
                      | apply Ops.opS rfl
                      | (apply Ops.opGS rfl; exact rfl)
                      | apply Ops.opNS rfl
                      | apply Ops.callNS rfl
                      | exact Again.nil
                      | apply Again.anc rfl
                      | apply Again.op rfl
                      | apply Ex.regionN
                      | apply Ex.drawN
                      | apply Ex.seqK
                      | apply After.normal
                      | apply Rnd.normal
                      | apply Ex.blockK
                      | apply Ex.condT rfl
                      | apply Ex.condF rfl
                      | apply Ex.loopK
        · intro _ h; cases h
        · rfl
        · rfl
      · skip
        apply Cl.bodyS (e := .ret) (pp_of at33 (by decide))
        · repeat' first | exact Norm.nil | apply Norm.cons
        · repeat' first
                      | exact Ops.nil
                      | exact Dr.nil
                      | exact Ex.ret
                      | exact Ex.skip
                      | exact Ex.exit
                      | exact After.ret
                      | exact After.exit
                      | exact Out.normal
                      | exact Out.ret
                      | exact Out.exit
                      | exact Out.out (by decide)
                      | exact Rnd.ret
                      | exact Rnd.exit
                      | (apply Ex.condF; exact nF h1)
                      | (apply Ex.condF; exact nF h2)
                      | (apply Ex.condT; exact nT h3)
                      | exact Norm.nil
                      | apply Norm.cons
                      | apply Ops.opS rfl
                      | (apply Ops.opGS rfl; exact rfl)
                      | apply Ops.opNS rfl
                      | apply Ops.callNS rfl
                      | exact Again.nil
                      | apply Again.anc rfl
                      | apply Again.op rfl
                      | apply Ex.regionN
                      | apply Ex.drawN
                      | apply Ex.seqK
                      | apply After.normal
                      | apply Rnd.normal
                      | apply Ex.blockK
                      | apply Ex.condT rfl
                      | apply Ex.condF rfl
                      | apply Ex.loopK
        · intro _ h; cases h
        · rfl
        · rfl
    · rw [if_neg h2]
      apply Cl.bodyS (e := .ret) (pp_of at33 (by decide))
      · repeat' first | exact Norm.nil | apply Norm.cons
      · repeat' first
                      | exact Ops.nil
                      | exact Dr.nil
                      | exact Ex.ret
                      | exact Ex.skip
                      | exact Ex.exit
                      | exact After.ret
                      | exact After.exit
                      | exact Out.normal
                      | exact Out.ret
                      | exact Out.exit
                      | exact Out.out (by decide)
                      | exact Rnd.ret
                      | exact Rnd.exit
                      | (apply Ex.condF; exact nF h1)
                      | (apply Ex.condT; exact nT h2)
                      | exact Norm.nil
                      | apply Norm.cons
                      | apply Ops.opS rfl
                      | (apply Ops.opGS rfl; exact rfl)
                      | apply Ops.opNS rfl
                      | apply Ops.callNS rfl
                      | exact Again.nil
                      | apply Again.anc rfl
                      | apply Again.op rfl
                      | apply Ex.regionN
                      | apply Ex.drawN
                      | apply Ex.seqK
                      | apply After.normal
                      | apply Rnd.normal
                      | apply Ex.blockK
                      | apply Ex.condT rfl
                      | apply Ex.condF rfl
                      | apply Ex.loopK
      · intro _ h; cases h
      · rfl
      · rfl
  · rw [if_neg h1]
    apply Cl.bodyS (e := .ret) (pp_of at33 (by decide))
    · repeat' first | exact Norm.nil | apply Norm.cons
    · repeat' first
                      | exact Ops.nil
                      | exact Dr.nil
                      | exact Ex.ret
                      | exact Ex.skip
                      | exact Ex.exit
                      | exact After.ret
                      | exact After.exit
                      | exact Out.normal
                      | exact Out.ret
                      | exact Out.exit
                      | exact Out.out (by decide)
                      | exact Rnd.ret
                      | exact Rnd.exit
                      | (apply Ex.condT; exact nT h1)
                      | exact Norm.nil
                      | apply Norm.cons
                      | apply Ops.opS rfl
                      | (apply Ops.opGS rfl; exact rfl)
                      | apply Ops.opNS rfl
                      | apply Ops.callNS rfl
                      | exact Again.nil
                      | apply Again.anc rfl
                      | apply Again.op rfl
                      | apply Ex.regionN
                      | apply Ex.drawN
                      | apply Ex.seqK
                      | apply After.normal
                      | apply Rnd.normal
                      | apply Ex.blockK
                      | apply Ex.condT rfl
                      | apply Ex.condF rfl
                      | apply Ex.loopK
    · intro _ h; cases h
    · rfl
    · rfl
/-- How two entries stand to each other. -/
def cmpE (k1 : Int) (d1 : Bool) (s1 : List UInt8) (k2 : Int) (d2 : Bool) (s2 : List UInt8) : Int := or3 (cmpI (if d1 then 1 else 0) (if d2 then 1 else 0)) (cmpI k1 k2) (cmpS s1 s2)
theorem c19 (k1 n1 k2 n2 : Int) (d1 d2 : Bool) (s1 s2 : List UInt8) : ∃ S, Cl pp 19 [.agg [.int .i64 k1, .bool d1, .str s1, .int .i64 n1], .agg [.int .i64 k2, .bool d2, .str s2, .int .i64 n2]] S0 (.int .i64 (cmpE k1 d1 s1 k2 d2 s2), S) := by
  refine ⟨?_, ?_⟩
  rotate_left
  apply Cl.bodyS (e := .ret) (pp_of at19 (by decide))
  · repeat' first | exact Norm.nil | apply Norm.cons
  · repeat' first
                      | exact Ops.nil
                      | exact Dr.nil
                      | exact Ex.ret
                      | exact Ex.skip
                      | exact Ex.exit
                      | exact After.ret
                      | exact After.exit
                      | exact Out.normal
                      | exact Out.ret
                      | exact Out.exit
                      | exact Out.out (by decide)
                      | exact Rnd.ret
                      | exact Rnd.exit
                      | apply c48
                      | apply c34
                      | apply c36
                      | apply c33
                      | exact Norm.nil
                      | apply Norm.cons
                      | apply Ops.opS rfl
                      | (apply Ops.opGS rfl; exact rfl)
                      | apply Ops.opNS rfl
                      | apply Ops.callNS rfl
                      | exact Again.nil
                      | apply Again.anc rfl
                      | apply Again.op rfl
                      | exact rfl
                      | apply Dr.pS
                      | apply Dr.qS
                      | apply Dr.aS
                      | apply Dr.iS
                      | apply Dr.ioS
                      | apply Ex.regionN
                      | apply Ex.drawN
                      | apply Ex.seqK
                      | apply After.normal
                      | apply Rnd.normal
                      | apply Ex.blockK
                      | apply Ex.condT rfl
                      | apply Ex.condF rfl
                      | apply Ex.loopK
  · intro _ h; cases h
  · rfl
  · rfl
end Go.Proofs.YtnhebanimmicaaaGreatDoor
