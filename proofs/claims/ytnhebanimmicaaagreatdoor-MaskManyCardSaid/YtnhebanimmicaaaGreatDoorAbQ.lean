/- The machine once more, in a form that the kernel runs in less room: the same answers. -/
import Derived.Test.YtnhebanimmicaaaGreatDoorAb22
namespace Go.Abs

abbrev Res := Option (AExit × Env × St)
noncomputable def qSeqK (ih : ACode → Env → St → Res) (b : ACode) (x : AExit × Env × St) : Res :=
  Prod.rec (motive := fun _ => Res) (fun e p => Prod.rec (motive := fun _ => Res) (fun t s => AExit.rec (motive := fun _ => Res) (ih b t s) (fun id => some (.exit id, t, s)) (some (.ret, t, s)) e) p) x
noncomputable def qSeq (ih : ACode → Env → St → Res) (a b : ACode) (t : Env) (s : St) : Res := Option.rec (motive := fun _ => Res) none (qSeqK ih b) (ih a t s)
noncomputable def qLoop (ih : ACode → Env → St → Res) (a : ACode) (t : Env) (s : St) : Res := Option.rec (motive := fun _ => Res) none (qSeqK ih (.loop a)) (ih a t s)
noncomputable def qBlockK (id : Nat) (x : AExit × Env × St) : Res :=
  Prod.rec (motive := fun _ => Res) (fun e p => Prod.rec (motive := fun _ => Res) (fun t s => AExit.rec (motive := fun _ => Res) (some (.normal, t, s)) (fun i => Bool.rec (motive := fun _ => Res) (some (.exit i, t, s)) (some (.normal, t, s)) (Nat.beq i id)) (some (.ret, t, s)) e) p) x
noncomputable def qBlock (ih : ACode → Env → St → Res) (id : Nat) (a : ACode) (t : Env) (s : St) : Res := Option.rec (motive := fun _ => Res) none (qBlockK id) (ih a t s)
noncomputable def qCondV (ih : ACode → Env → St → Res) (a b : ACode) (t : Env) (s : St) (v : AV) : Res := match v with
  | .bool v => Bool.rec (ih b t s) (ih a t s) v
  | _ => none
noncomputable def qCond (ih : ACode → Env → St → Res) (c : Opd) (a b : ACode) (t : Env) (s : St) : Res := Option.rec (motive := fun _ => Res) none (qCondV ih a b t s) (ev t c)
noncomputable def qRegK (x : Env × St) : Res := Prod.rec (motive := fun _ => Res) (fun t s => retE .normal t.flush s) x
noncomputable def qOpsK (ih : Env → St → Option (Env × St)) (o : AOper) (t : Env) (x : AV × St) : Option (Env × St) :=
  Prod.rec (motive := fun _ => Option (Env × St)) (fun v s => Option.rec (motive := fun _ => Option (Env × St)) (ih t s) (fun d => ih (.bind d v t) s) o.dst) x
noncomputable def qRun (call : CallF) (o : AOper) (t : Env) (s : St) : Option (AV × St) :=
  AOper.rec (motive := fun _ => Option (AV × St)) (fun d g run => Option.rec (motive := fun _ => Option (AV × St)) (run t s) (fun g => runOp call (.op d (some g) run) t s) g) (fun d g f l => runOp call (.call d g f l) t s) o
noncomputable def qOps (call : CallF) (ops : List AOper) : Env → St → Option (Env × St) :=
  List.rec (motive := fun _ => Env → St → Option (Env × St)) (fun t s => some (t, s)) (fun o _ ih t s => Option.rec (motive := fun _ => Option (Env × St)) none (qOpsK ih o t) (qRun call o t s)) ops
noncomputable def qRegion (call : CallF) (ops : List AOper) (t : Env) (s : St) : Res := Option.rec (motive := fun _ => Res) none qRegK (qOps call ops t s)
noncomputable def qDraw (call : CallF) (n : Nat) (ds : List DStep) (t : Env) (s : St) : Res := Option.rec (motive := fun _ => Res) none qRegK (execDraw call s.next ds t ⟨s.heap, s.next.plus n⟩ ⟨s.heap, s.next.plus n⟩ [])
noncomputable def execQ (prog : Nat → Option AFn) (f : Nat) : ACode → Env → St → Res :=
  Nat.rec (motive := fun _ => ACode → Env → St → Res) (fun _ _ _ => none) (fun _ ih c => ACode.rec (motive := fun _ => Env → St → Res)
    (fun t s => some (.normal, t, s)) (fun ops => qRegion (callFn prog ih) ops) (fun n ds => qDraw (callFn prog ih) n ds) (fun a b _ _ => qSeq ih a b) (fun c a b _ _ => qCond ih c a b)
    (fun id a _ => qBlock ih id a) (fun a _ => qLoop ih a) (fun id t s => some (.exit id, t, s)) (fun t s => some (.ret, t, s)) c) f

theorem qRun_eq (call : CallF) (o : AOper) (t : Env) (s : St) : qRun call o t s = runOp call o t s := by
  cases o with
  | op d g run => cases g <;> rfl
  | call d g f l => rfl
theorem qOps_eq (call : CallF) : ∀ (ops : List AOper) (t : Env) (s : St), qOps call ops t s = execOps call ops t s
  | [], _, _ => rfl
  | o :: ops, t, s => by
    show Option.rec (motive := fun _ => Option (Env × St)) none (qOpsK (qOps call ops) o t) (qRun call o t s) = (match runOp call o t s with
      | none => none
      | some (v, s') => execOps call ops (setDst o.dst v t) s')
    rw [qRun_eq]
    cases runOp call o t s with
    | none => rfl
    | some x =>
      obtain ⟨v, s'⟩ := x
      show Option.rec (motive := fun _ => Option (Env × St)) (qOps call ops t s') (fun d => qOps call ops (.bind d v t) s') o.dst = execOps call ops (setDst o.dst v t) s'
      cases o.dst with
      | none => exact qOps_eq call ops t s'
      | some d => exact qOps_eq call ops (.bind d v t) s'

theorem execQ_eq (prog : Nat → Option AFn) : ∀ f, execQ prog f = exec prog f
  | 0 => rfl
  | n + 1 => by
    have ih := execQ_eq prog n
    funext c t s
    cases c with
    | skip => rfl
    | region ops =>
      show qRegion (callFn prog (execQ prog n)) ops t s = (match execOps (callFn prog (exec prog n)) ops t s with
        | some (t', s') => retE .normal t'.flush s'
        | none => none)
      rw [ih]
      unfold qRegion
      rw [qOps_eq]
      cases execOps (callFn prog (exec prog n)) ops t s <;> rfl
    | draw k ds =>
      show qDraw (callFn prog (execQ prog n)) k ds t s = (match execDraw (callFn prog (exec prog n)) s.next ds t ⟨s.heap, s.next.plus k⟩ ⟨s.heap, s.next.plus k⟩ [] with
        | some (t', s') => retE .normal t'.flush s'
        | none => none)
      rw [ih]
      unfold qDraw
      cases execDraw (callFn prog (exec prog n)) s.next ds t ⟨s.heap, s.next.plus k⟩ ⟨s.heap, s.next.plus k⟩ [] <;> rfl
    | seq a b =>
      show qSeq (execQ prog n) a b t s = (match exec prog n a t s with
        | none => none
        | some (e, t', s') => match e with
          | .normal => exec prog n b t' s'
          | .exit id => some (.exit id, t', s')
          | .ret => some (.ret, t', s'))
      rw [ih]
      unfold qSeq
      cases exec prog n a t s with
      | none => rfl
      | some x => obtain ⟨e, t', s'⟩ := x; cases e <;> rfl
    | cond c a b =>
      show qCond (execQ prog n) c a b t s = (match ev t c with
        | some (.bool v) => match v with
          | true => exec prog n a t s
          | false => exec prog n b t s
        | _ => none)
      rw [ih]
      unfold qCond
      cases ev t c with
      | none => rfl
      | some v => cases v <;> first | rfl | (rename_i b; cases b <;> rfl)
    | block id a =>
      show qBlock (execQ prog n) id a t s = (match exec prog n a t s with
        | none => none
        | some (e, t', s') => match e with
          | .normal => some (.normal, t', s')
          | .exit i => match Nat.beq i id with
            | true => some (.normal, t', s')
            | false => some (.exit i, t', s')
          | .ret => some (.ret, t', s'))
      rw [ih]
      unfold qBlock
      cases exec prog n a t s with
      | none => rfl
      | some x =>
        obtain ⟨e, t', s'⟩ := x
        cases e with
        | normal => rfl
        | exit i =>
          show Bool.rec (motive := fun _ => Res) (some (.exit i, t', s')) (some (.normal, t', s')) (Nat.beq i id) = (match Nat.beq i id with
            | true => some (.normal, t', s')
            | false => some (.exit i, t', s'))
          cases Nat.beq i id <;> rfl
        | ret => rfl
    | loop a =>
      show qLoop (execQ prog n) a t s = (match exec prog n a t s with
        | none => none
        | some (e, t', s') => match e with
          | .normal => exec prog n (.loop a) t' s'
          | .exit id => some (.exit id, t', s')
          | .ret => some (.ret, t', s'))
      rw [ih]
      unfold qLoop
      cases exec prog n a t s with
      | none => rfl
      | some x => obtain ⟨e, t', s'⟩ := x; cases e <;> rfl
    | exit id => rfl
    | ret => rfl

/-- What a call comes to is true: the quick form. -/
noncomputable def saysQ (P : Program) (kn : Kn) (fuel f : Nat) (args : List AV) : Bool := match callFn (progOf P kn) (execQ (progOf P kn) fuel) f args ⟨.leaf, .h⟩ with
  | some (.bool b, _) => b
  | _ => false
theorem saysQ_eq (P : Program) (kn : Kn) (fuel f : Nat) (args : List AV) : saysQ P kn fuel f args = saysTrue P kn fuel f args := by
  unfold saysQ
  rw [execQ_eq]
  rfl

end Go.Abs
