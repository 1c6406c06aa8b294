/- The operations that are met most, in a form that the kernel runs in less room: the same answers. -/
import Derived.Test.YtnhebanimmicaaaGreatDoorAb12
namespace Go.Abs

abbrev RS := Option (AV × St)
noncomputable def qK (s : St) (v : AV) : RS := some (v, s)
noncomputable def qMove (x : Opd) : Run := fun t s => Option.rec (motive := fun _ => RS) none (qK s) (ev t x)
theorem qMove_eq (x : Opd) : qMove x = opMove x := by
  funext t s
  unfold qMove opMove
  cases ev t x <;> rfl
noncomputable def onBool (v : AV) (f : Bool → RS) : RS := match v with
  | .bool b => f b
  | _ => none
noncomputable def onPtr (v : AV) (f : Pos → Nat → RS) : RS := match v with
  | .ptr b o => f b o
  | _ => none
noncomputable def onInt (v : AV) (f : IntKind → Int → RS) : RS := match v with
  | .int k n => f k n
  | _ => none
noncomputable def onSlice (v : AV) (f : Pos → Nat → Nat → RS) : RS := match v with
  | .slice b o l _ _ => f b o l
  | _ => none
noncomputable def qPick (c x y : Opd) : Run := fun t s => Option.rec (motive := fun _ => RS) none (fun v => onBool v fun b => Bool.rec (qMove y t s) (qMove x t s) b) (ev t c)
theorem qPick_eq (c x y : Opd) : qPick c x y = opPick c x y := by
  funext t s
  unfold qPick opPick
  rw [qMove_eq, qMove_eq]
  cases ev t c with
  | none => rfl
  | some v => cases v <;> first | rfl | (rename_i b; cases b <;> rfl)
noncomputable def qCell (s : St) (o : Nat) (x : Blk) : RS := Blk.rec (motive := fun _ => RS) (fun c _ _ => Option.rec (motive := fun _ => RS) none (qK s) (c.get (Pos.of o))) (fun _ _ => none) (fun _ _ _ _ => none) x
noncomputable def qLoadP (s : St) (b : Pos) (o : Nat) : RS := Option.rec (motive := fun _ => RS) none (qCell s o) (s.heap.get b)
noncomputable def qLoad1 (x : Opd) : Run := fun t s => Option.rec (motive := fun _ => RS) none (fun v => onPtr v (qLoadP s)) (ev t x)
theorem qLoad1_eq (x : Opd) : qLoad1 x = opLoad1 x := by
  funext t s
  unfold qLoad1 opLoad1
  cases ev t x with
  | none => rfl
  | some v =>
    cases v <;> try rfl
    rename_i b o
    show qLoadP s b o = _
    unfold qLoadP
    dsimp only
    cases s.heap.get b with
    | none => rfl
    | some k =>
      cases k with
      | map es c => rfl
      | iter m a l c => rfl
      | cells c n m =>
        show Option.rec (motive := fun _ => RS) none (qK s) (c.get (Pos.of o)) = _
        dsimp only
        cases c.get (Pos.of o) <;> rfl
noncomputable def qFieldAddr (off : Nat) (x : Opd) : Run := fun t s => Option.rec (motive := fun _ => RS) none (fun v => onPtr v fun b o => some (.ptr b (litN (Nat.add o off)), s)) (ev t x)
theorem qFieldAddr_eq (off : Nat) (x : Opd) : qFieldAddr off x = opFieldAddr off x := by
  funext t s
  unfold qFieldAddr opFieldAddr
  cases ev t x with
  | none => rfl
  | some v => cases v <;> rfl
noncomputable def qIdxK (es : Nat) (s : St) (b : Pos) (o len : Nat) (j : Int) : RS := Int.rec (motive := fun _ => RS) (fun j => Bool.rec none (some (.ptr b (litN (Nat.add o (Nat.mul j es))), s)) (Nat.ble (Nat.succ j) len)) (fun _ => none) j
noncomputable def qIndexAddr (es : Nat) (x i : Opd) : Run := fun t s => Option.rec (motive := fun _ => RS) none (fun v => onSlice v fun b o len => Option.rec (motive := fun _ => RS) none (fun u => onInt u fun _ j => qIdxK es s b o len j) (ev t i)) (ev t x)
theorem qIndexAddr_eq (es : Nat) (x i : Opd) : qIndexAddr es x i = opIndexAddr es x i := by
  funext t s
  unfold qIndexAddr opIndexAddr
  cases ev t x with
  | none => rfl
  | some v =>
    cases v <;> try rfl
    rename_i b o len c e
    dsimp only [onSlice]
    cases ev t i with
    | none => rfl
    | some u =>
      cases u <;> try rfl
      rename_i k j
      cases j with
      | negSucc j => rfl
      | ofNat j =>
        show (Bool.rec none (some (.ptr b (litN (Nat.add o (Nat.mul j es))), s)) (Nat.ble (Nat.succ j) len) : RS) = (match Nat.blt j len with
          | true => some (.ptr b (litN (Nat.add o (Nat.mul j es))), s)
          | false => none)
        have : Nat.blt j len = Nat.ble (Nat.succ j) len := rfl
        rw [this]
        cases Nat.ble (Nat.succ j) len <;> rfl

/-- An operation, the quick form where there is one. -/
noncomputable def copQ (P : Program) (op : Op) : Option Run := match op with
  | .move x => mk1 qMove x
  | .assign x => mk1 qMove x
  | .pick c x y => match copd c with
    | some c' => mk2 (qPick c') x y
    | none => none
  | .indexAddr t x i => match P.underlying t with
    | some (.slice e) => match P.info? e with
      | some ie => mk2 (qIndexAddr ie.size) x i
      | none => none
    | some (.array len e) => match P.info? e with
      | some ie => mk2 (opIndexAddrA len ie.size) x i
      | none => none
    | _ => none
  | .load t x => match P.underlying t with
    | none => none
    | some d => match d.isRow with
      | false => mk1 qLoad1 x
      | true => match P.info? t with
        | some i => mk1 (opLoadN i.size) x
        | none => none
  | .fieldAddr t x fi => match P.underlying t with
    | some (.struct fields) => match fields[fi]? with
      | some f => match P.info? f.type with
        | some i => match i.size with
          | 0 => none
          | _ + 1 => mk1 (qFieldAddr f.offset) x
        | none => none
      | none => none
    | _ => none
  | op => cop P op
theorem copQ_eq (P : Program) (op : Op) : copQ P op = cop P op := by
  have e1 : qMove = opMove := funext qMove_eq
  have e2 : ∀ c, qPick c = opPick c := fun c => funext fun x => funext fun y => qPick_eq c x y
  have e3 : ∀ n, qIndexAddr n = opIndexAddr n := fun n => funext fun x => funext fun y => qIndexAddr_eq n x y
  have e4 : qLoad1 = opLoad1 := funext qLoad1_eq
  have e5 : ∀ n, qFieldAddr n = opFieldAddr n := fun n => funext fun x => qFieldAddr_eq n x
  unfold copQ
  split
  · rw [e1]; rfl
  · rw [e1]; rfl
  · simp only [e2]; rfl
  · simp only [e3]; rfl
  · rw [e4]; rfl
  · simp only [e5]; rfl
  · rfl
end Go.Abs
