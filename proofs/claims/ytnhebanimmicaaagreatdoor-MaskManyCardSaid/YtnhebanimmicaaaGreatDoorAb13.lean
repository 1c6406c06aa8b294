/- The abstract machine's code: made of the model's, and run. -/
import Derived.Test.YtnhebanimmicaaaGreatDoorAbR
namespace Go.Abs

inductive AOper where
  | op (dst : Option Nat) (guard : Option (Nat × Bool)) (run : Run)
  | call (dst : Option Nat) (guard : Option (Nat × Bool)) (f : Opd) (args : List Opd)

/-- What an operation of a drawn region is: it reads no memory; it reads; it makes a row; it does anything else. -/
inductive Cls where
  | p | q | a | i

/-- A step of a drawn region: its number there; its class; the operation; the places that it reads; its ancestors (bits). -/
structure DStep where
  idx : Nat
  cls : Cls
  o : AOper
  names : List Nat
  anc : Nat

inductive ACode where
  | skip
  | region (ops : List AOper)
  | draw (n : Nat) (ds : List DStep)
  | seq (a b : ACode)
  | cond (c : Opd) (a b : ACode)
  | block (id : Nat) (a : ACode)
  | loop (a : ACode)
  | exit (id : Nat)
  | ret

inductive AExit where
  | normal
  | exit (id : Nat)
  | ret

inductive ARes where
  | tmp (p : Nat)
  | cell1 (p : Nat)
  | cellN (p : Nat) (n : Nat)

/-- What a call of a function came to: its arguments, the memory ahead; its value, the memory behind. -/
structure Memo where
  f : Nat
  args : List AV
  s : St
  v : AV
  s' : St

inductive AFn where
  | body (n m : Nat) (c : ACode) (res : List ARes)
  | memo (ms : List Memo) (n m : Nat) (c : ACode) (res : List ARes)
  | cmp
  | cnt
  | idx
  /-- what is known: it comes to that, and leaves memory as it is -/
  | known (v : AV)
  /-- what is known of what it comes to -/
  | prim (run : List AV → St → Option (AV × St))

/-! ### running -/
noncomputable def setDst (d : Option Nat) (v : AV) (t : Env) : Env := match d with
  | some p => .bind p v t
  | none => t
noncomputable def guardV (want : Bool) (v : AV) : Option Bool := match v with
  | .bool b => match b with
    | true => some want
    | false => some (not want)
  | .tup l => match l with
    | [] => some false
    | _ :: _ => none
  | _ => none
noncomputable def guardOk (g : Option (Nat × Bool)) (t : Env) : Option Bool := match g with
  | none => some true
  | some (p, want) => match t.get p with
    | none => none
    | some v => guardV want v

abbrev CallF := Nat → List AV → St → Option (AV × St)

/-- The value that an operation yields, and the memory behind it. -/
noncomputable def runOp (call : CallF) (o : AOper) (t : Env) (s : St) : Option (AV × St) := match o with
  | .op _ g run => match guardOk g t with
    | none => none
    | some true => run t s
    | some false => some (.tup [], s)
  | .call _ g f args => match guardOk g t with
    | none => none
    | some false => some (.tup [], s)
    | some true => match ev t f with
      | some (.fn f caps) => match evs t args with
        | some vs => call f (vs ++ caps) s
        | none => none
      | _ => none
def AOper.dst : AOper → Option Nat
  | .op d _ _ => d
  | .call d _ _ _ => d

noncomputable def execOps (call : CallF) (ops : List AOper) : Env → St → Option (Env × St) :=
  List.rec (motive := fun _ => Env → St → Option (Env × St)) (fun t s => some (t, s)) (fun o _ ih t s => match runOp call o t s with
    | none => none
    | some (v, s') => ih (setDst o.dst v t) s') ops

/-! ### values held against each other -/
mutual
noncomputable def AV.beq : AV → AV → Bool
  | .bool a, .bool b => match a with
    | true => b
    | false => not b
  | .int k a, .int j b => and (kbeq k j) (eqI a b)
  | .str l a, .str m b => and (Nat.beq l m) (Nat.beq a b)
  | .ptr b o, .ptr c p => and (b.beq c) (Nat.beq o p)
  | .nilptr, .nilptr => true
  | .slice b o l c e, .slice b' o' l' c' e' => and (b.beq b') (and (Nat.beq o o') (and (Nat.beq l l') (and (match c, c' with
    | none, none => true
    | some x, some y => Nat.beq x y
    | _, _ => false) (Nat.beq e e'))))
  | .nilslice, .nilslice => true
  | .map b, .map c => b.beq c
  | .nilmap, .nilmap => true
  | .fn f l, .fn g m => and (Nat.beq f g) (AV.beqs l m)
  | .nilfn, .nilfn => true
  | .iface t v, .iface u w => and (Nat.beq t u) (AV.beq v w)
  | .niliface, .niliface => true
  | .agg l, .agg m => AV.beqs l m
  | .tup l, .tup m => AV.beqs l m
  | .sym a b c, .sym x y z => and (eqI a x) (and (eqI b y) (eqI c z))
  | .symR b c, .symR y z => and (eqI b y) (eqI c z)
  | _, _ => false
noncomputable def AV.beqs : List AV → List AV → Bool
  | [], [] => true
  | a :: l, b :: m => and (AV.beq a b) (AV.beqs l m)
  | _, _ => false
end

/-- Trees, blocks, memories held against each other. -/
noncomputable def optB {α : Type} (eq : α → α → Bool) (a b : Option α) : Bool := match a with
  | none => (match b with
    | none => true
    | some _ => false)
  | some x => (match b with
    | none => false
    | some y => eq x y)
noncomputable def T.beqW {α : Type} (eq : α → α → Bool) (t : T α) : T α → Bool :=
  T.rec (motive := fun _ => T α → Bool) (fun u => T.rec (motive := fun _ => Bool) true (fun _ _ _ _ _ => false) u)
    (fun _ v _ il ir u => T.rec (motive := fun _ => Bool) false (fun l' v' r' _ _ => and (optB eq v v') (and (il l') (ir r'))) u) t
noncomputable def entB (a b : List (AV × AV × Nat)) : Bool := match a with
  | [] => (match b with
    | [] => true
    | _ :: _ => false)
  | x :: l => (match b with
    | [] => false
    | y :: m => and (AV.beq x.1 y.1) (and (AV.beq x.2.1 y.2.1) (and (Nat.beq x.2.2 y.2.2) (entB l m))))
noncomputable def lkB (a b : Lk) : Bool := and (a.f.beq b.f) (match a.tip with
  | true => b.tip
  | false => not b.tip)
noncomputable def natsB (a b : List Nat) : Bool := match a with
  | [] => (match b with
    | [] => true
    | _ :: _ => false)
  | x :: l => (match b with
    | [] => false
    | y :: m => and (Nat.beq x y) (natsB l m))
noncomputable def Blk.beq (a b : Blk) : Bool := match a with
  | .cells c n m => (match b with
    | .cells c' n' m' => and (Nat.beq n n') (and (optB lkB m m') (T.beqW AV.beq c c'))
    | .map _ _ => false
    | .iter _ _ _ _ => false)
  | .map es k => (match b with
    | .cells _ _ _ => false
    | .map es' k' => and (Nat.beq k k') (entB es es')
    | .iter _ _ _ _ => false)
  | .iter m k l c => (match b with
    | .cells _ _ _ => false
    | .map _ _ => false
    | .iter m' k' l' c' => and (optB Pos.beq m m') (and (Nat.beq k k') (and (natsB l l') (Nat.beq c c'))))
noncomputable def St.beq (a b : St) : Bool := and (a.next.beq b.next) (T.beqW Blk.beq a.heap b.heap)

/-! ### drawn regions -/
noncomputable def restr (t : Env) (names : List Nat) : Env := List.rec .nil (fun p _ r => match t.get p with
  | some v => .bind p v r
  | none => r) names

/-- What was read and may be read later: the step's number, what it saw of the slots, how it reads, what it read. -/
structure Seen where
  idx : Nat
  t : Env
  o : AOper
  v : AV

noncomputable def recheck (call : CallF) (anc : Nat) (l : List Seen) (s : St) : Bool :=
  List.rec true (fun e _ r => match Nat.testBit anc e.idx with
    | true => r
    | false => match runOp call e.o e.t s with
      | some (v, _) => and (AV.beq e.v v) r
      | none => false) l

/-- Positions set apart for the rows that a region makes. -/
noncomputable def Pos.plus (p : Pos) (n : Nat) : Pos := Nat.rec p (fun _ q => q.succ) n

noncomputable def execDraw (call : CallF) (r0 : Pos) (ds : List DStep) : Env → St → St → List Seen → Option (Env × St) :=
  List.rec (motive := fun _ => Env → St → St → List Seen → Option (Env × St)) (fun t s _ _ => some (t, s)) (fun d _ ih t s base l => match restr t d.names with
    | r => match d.cls with
      | .p => match runOp call d.o r base with
        | none => none
        | some (v, _) => ih (setDst d.o.dst v t) s base l
      | .q => match runOp call d.o r base with
        | none => none
        | some (v, _) => ih (setDst d.o.dst v t) s base (⟨d.idx, r, d.o, v⟩ :: l)
      | .a => match runOp call d.o r ⟨s.heap, r0.plus d.idx⟩ with
        | none => none
        | some (v, s1) => ih (setDst d.o.dst v t) ⟨s1.heap, s.next⟩ base l
      | .i => match runOp call d.o r s with
        | none => none
        | some (v, s1) => match recheck call d.anc l s1 with
          | true => ih (setDst d.o.dst v t) s1 s1 l
          | false => none) ds

/-! ### code -/
noncomputable def resVals (t : Env) (s : St) (res : List ARes) : Option (List AV) :=
  List.rec (some []) (fun r _ ih => match (match r with
      | .tmp p => t.get p
      | .cell1 p => match t.get p with
        | some (.ptr b o) => match s.heap.get b with
          | some (.cells c _ _) => c.get (Pos.of o)
          | _ => none
        | _ => none
      | .cellN p n => match t.get p with
        | some (.ptr b o) => match s.read b o n with
          | some l => some (.agg l)
          | none => none
        | _ => none) with
    | none => none
    | some v => match ih with
      | none => none
      | some l => some (v :: l)) res

/-- How often a byte is in a text; where first. -/
noncomputable def cntB (l a c : Nat) : Nat := Nat.rec (motive := fun _ => Nat → Nat) (fun _ => 0) (fun _ ih a => match Nat.beq (Nat.mod a 256) c with
  | true => Nat.succ (ih (litN (Nat.div a 256)))
  | false => ih (litN (Nat.div a 256))) l a
noncomputable def idxB (l a c : Nat) : Option Nat := Nat.rec (motive := fun _ => Nat → Option Nat) (fun _ => none) (fun k ih a => match ih (litN (Nat.div a 256)) with
  | some i => some i
  | none => match Nat.beq (Nat.mod a 256) c with
    | true => some k
    | false => none) l a

noncomputable def runBody (ex : ACode → Env → St → Option (AExit × Env × St)) (m : Nat) (c : ACode) (res : List ARes) (args : List AV) (s : St) : Option (AV × St) := match ex c (.base m (T.fill args 0 .leaf)) s with
  | none => none
  | some (e, t, s') => match e with
    | .exit _ => none
    | _ => match resVals t s' res with
      | none => none
      | some l => match l with
        | [v] => some (v, s')
        | l => some (.tup l, s')
noncomputable def look (ms : List Memo) (args : List AV) (s : St) : Option (AV × St) := List.rec none (fun x _ r => match and (AV.beqs x.args args) (St.beq x.s s) with
  | true => some (x.v, x.s')
  | false => r) ms

noncomputable def callFn (prog : Nat → Option AFn) (ex : ACode → Env → St → Option (AExit × Env × St)) : CallF := fun f args s => match prog f with
  | none => none
  | some .cmp => match args with
    | [.str l a, .str m b] => match strLt l a m b with
      | true => some (.int .i64 (.negSucc 0), s)
      | false => match strEq l a m b with
        | true => some (.int .i64 (.ofNat 0), s)
        | false => some (.int .i64 (.ofNat 1), s)
    | _ => none
  | some .cnt => match args with
    | [.str l a, .int k n] => match kbeq k .u8 with
      | true => match n with
        | .ofNat c => match Nat.blt c 256 with
          | true => some (.int .i64 (.ofNat (litN (cntB l a c))), s)
          | false => none
        | .negSucc _ => none
      | false => none
    | _ => none
  | some .idx => match args with
    | [.str l a, .int k n] => match kbeq k .u8 with
      | true => match n with
        | .ofNat c => match Nat.blt c 256 with
          | true => match idxB l a c with
            | some i => some (.int .i64 (.ofNat (litN i)), s)
            | none => some (.int .i64 (.negSucc 0), s)
          | false => none
        | .negSucc _ => none
      | false => none
    | _ => none
  | some (.known v) => match args with
    | [] => some (v, s)
    | _ => none
  | some (.prim run) => run args s
  | some (.body _ m c res) => runBody ex m c res args s
  | some (.memo ms _ m c res) => match look ms args s with
    | some r => some r
    | none => runBody ex m c res args s

/-- A place, laid out. -/
noncomputable def Pos.nfK {α : Type} (p : Pos) : (Pos → α) → α := Pos.rec (motive := fun _ => (Pos → α) → α) (fun k => k .h) (fun _ ih k => ih fun q => k (.o q)) (fun _ ih k => ih fun q => k (.i q)) p
theorem Pos.nfK_eq {α : Type} (p : Pos) : ∀ k : Pos → α, p.nfK k = k p := by
  induction p with
  | h => exact fun _ => rfl
  | o p ih => exact fun k => ih fun q => k (.o q)
  | i p ih => exact fun k => ih fun q => k (.i q)
noncomputable def retE (x : AExit) (e : Env) (s : St) : Option (AExit × Env × St) := Pos.nfK s.next fun p => Env.rec (motive := fun _ => Option (AExit × Env × St)) (fun m t => some (x, .base m t, ⟨s.heap, p⟩)) (fun k v e _ => some (x, .bind k v e, ⟨s.heap, p⟩)) e
theorem retE_eq (x : AExit) (e : Env) (s : St) : retE x e s = some (x, e, s) := by
  unfold retE
  rw [Pos.nfK_eq]
  cases e <;> rfl

noncomputable def exec (prog : Nat → Option AFn) (f : Nat) : ACode → Env → St → Option (AExit × Env × St) :=
  Nat.rec (motive := fun _ => ACode → Env → St → Option (AExit × Env × St)) (fun _ _ _ => none) (fun _ ih c t s => match c with
    | .skip => some (.normal, t, s)
    | .region ops => match execOps (callFn prog ih) ops t s with
      | some (t', s') => retE .normal t'.flush s'
      | none => none
    | .draw n ds => match execDraw (callFn prog ih) s.next ds t ⟨s.heap, s.next.plus n⟩ ⟨s.heap, s.next.plus n⟩ [] with
      | some (t', s') => retE .normal t'.flush s'
      | none => none
    | .seq a b => match ih a t s with
      | none => none
      | some (e, t', s') => match e with
        | .normal => ih b t' s'
        | .exit id => some (.exit id, t', s')
        | .ret => some (.ret, t', s')
    | .cond c a b => match ev t c with
      | some (.bool v) => match v with
        | true => ih a t s
        | false => ih b t s
      | _ => none
    | .block id a => match ih a t s with
      | none => none
      | some (e, t', s') => match e with
        | .normal => some (.normal, t', s')
        | .exit i => match Nat.beq i id with
          | true => some (.normal, t', s')
          | false => some (.exit i, t', s')
        | .ret => some (.ret, t', s')
    | .loop a => match ih a t s with
      | none => none
      | some (e, t', s') => match e with
        | .normal => ih (.loop a) t' s'
        | .exit i => some (.exit i, t', s')
        | .ret => some (.ret, t', s')
    | .exit id => some (.exit id, t, s)
    | .ret => some (.ret, t, s)) f

/-! ### the code, made -/
/-- What has no place here: it comes to nothing. -/
noncomputable def opFail : Run := fun _ _ => none
theorem opFail_ok (P : Program) (o : Oper) : OpSound P o opFail := by intro μ N t s w a v s' h; cases h
noncomputable def copT (P : Program) (op : Op) : Run := match copQ P op with
  | some r => r
  | none => opFail
theorem copT_ok {P : Program} {o : Oper} : OpSound P o (copT P o.op) := by
  unfold copT
  split
  · rename_i r h; rw [copQ_eq] at h; exact cop_ok h
  · exact opFail_ok P o
noncomputable def codeFail : ACode := .region [.op none none opFail]
noncomputable def cdst (N : Nat) : Option Tmp → Option (Option Nat)
  | none => some none
  | some d => match Nat.blt d N with
    | true => some (some d)
    | false => none
noncomputable def cguard (ops : Array Oper) : Option (Nat × Bool) → Option (Option (Nat × Bool))
  | none => some none
  | some (j, want) => match (ops[j]?).bind (·.dst) with
    | some d => some (some (d, want))
    | none => none
noncomputable def coper (P : Program) (N : Nat) (ops : Array Oper) (o : Oper) : Option AOper := match cdst N o.dst with
  | none => none
  | some d => match cguard ops o.guard with
    | none => none
    | some g => match o.op with
      | .call { callee := .value f, args, .. } => match copd f with
        | some f' => match copds args.toList with
          | some l => some (.call d g f' l)
          | none => none
        | none => none
      | op => some (.op d g (copT P op))
noncomputable def copers (P : Program) (N : Nat) (ops : Array Oper) : List Oper → Option (List AOper)
  | [] => some []
  | o :: r => match coper P N ops o with
    | none => none
    | some a => match copers P N ops r with
      | some l => some (a :: l)
      | none => none

/-- The class of an operation. -/
def clsOf (P : Program) : Op → Cls
  | .move _ | .assign _ | .pick .. | .build .. | .nilCheck _ | .binOp .. | .unOp .. | .makeInterface .. | .makeFunc .. | .slice .. | .fieldAddr .. | .field .. | .indexAddr .. | .index .. | .extract .. => .p
  | .convert src _ _ => match P.underlying src with
    | some (.slice _) => .q
    | _ => .p
  | .load .. | .lookup .. => .q
  | .alloc _ | .box .. | .buildSlice .. => .a
  | .store .. | .mapUpdate .. | .makeMap .. | .makeSlice .. => .i
  | .call { callee := .builtin .len, .. } | .call { callee := .builtin .cap, .. } | .call { callee := .builtin .min, .. } | .call { callee := .builtin .max, .. } => .p
  | .call _ => .i
  | _ => .i

/-- The slots that an operation looks at. -/
noncomputable def namesOf (ops : Array Oper) (o : Oper) : List Nat :=
  (o.op.operands.toList.filterMap fun | .tmp t => some t | _ => none) ++ (match o.guard with
    | some (j, _) => match (ops[j]?).bind (·.dst) with
      | some d => [d]
      | none => []
    | none => [])

/-- The operations of a drawn region with their classes, in the text's order. -/
noncomputable def dsteps (P : Program) (N : Nat) (ops : Array Oper) (bef : List Nat) : List Oper → Nat → Option (List DStep)
  | [], _ => some []
  | o :: r, i => match clsOf P o.op with
    | c => match coper P N ops o with
      | none => none
      | some a => match dsteps P N ops bef r (Nat.succ i) with
        | none => none
        | some l => some (⟨i, c, a, namesOf ops o, bef.getD i 0⟩ :: l)

noncomputable def immsOf (l : List DStep) : List DStep := List.rec [] (fun d _ r => Bool.rec r (d :: r) (isImm d.cls)) l
where isImm (c : Cls) : Bool := Cls.rec false false false true c
/-- How many of some steps come ahead of the first that a step is an ancestor of. -/
noncomputable def firstDesc (i : Nat) (l : List DStep) : Nat := List.rec 0 (fun d _ r => Bool.rec (Nat.succ r) 0 (bitOf d.anc i)) l
/-- How many of some steps are ancestors. -/
noncomputable def ancsIn (anc : Nat) (l : List DStep) : Nat := List.rec 0 (fun d _ r => Bool.rec r (Nat.succ r) (bitOf anc d.idx)) l
noncomputable def phaseOf (imms : List DStep) (allocs : List (Nat × Nat)) (d : DStep) : Nat := match d.cls with
  | .a => firstDesc d.idx imms
  | _ => List.rec (ancsIn d.anc imms) (fun a _ r => Bool.rec r (Nat.max a.2 r) (bitOf d.anc a.1)) allocs
noncomputable def frcP (n : Nat) (f : Nat → List (Nat × DStep)) : List (Nat × DStep) := Nat.rec (motive := fun _ => List (Nat × DStep)) (f 0) (fun k _ => f (Nat.succ k)) n
noncomputable def phased (imms : List DStep) (allocs : List (Nat × Nat)) (l : List DStep) : List (Nat × DStep) :=
  List.rec [] (fun d _ r => Bool.rec (frcP (phaseOf imms allocs d) fun p => (p, d) :: r) r (immsOf.isImm d.cls)) l
noncomputable def allocsOf (imms : List DStep) : List DStep → List (Nat × Nat)
  | [] => []
  | d :: r => match d.cls with
    | .a => (d.idx, litN (firstDesc d.idx imms)) :: allocsOf imms r
    | _ => allocsOf imms r
noncomputable def inPhase (p : Nat) (l : List (Nat × DStep)) (k : List DStep) : List DStep := List.rec k (fun x _ r => Bool.rec r (x.2 :: r) (Nat.beq x.1 p)) l
noncomputable def notPhase (p : Nat) (l : List (Nat × DStep)) : List (Nat × DStep) := List.rec [] (fun x _ r => Bool.rec (x :: r) r (Nat.beq x.1 p)) l
noncomputable def lay (m : List DStep) : Nat → List (Nat × DStep) → List DStep :=
  List.rec (motive := fun _ => Nat → List (Nat × DStep) → List DStep) (fun p l => inPhase p l []) (fun d _ ih p l => inPhase p l (d :: ih (Nat.succ p) (notPhase p l))) m
noncomputable def order (l : List DStep) : List DStep :=
  match immsOf l with
  | imms => lay imms 0 (phased imms (allocsOf imms l) l)

noncomputable def memP (p : Nat) (l : List Nat) : Bool := List.rec false (fun q _ r => or (Nat.beq p q) r) l
/-- Two operations that look at no slot that the other writes, and write no slot both. -/
noncomputable def apartD (x y : DStep) : Bool :=
  and (match x.o.dst with
    | none => true
    | some d => and (not (memP d y.names)) (match y.o.dst with
      | none => true
      | some e => not (d.beq e)))
  (match y.o.dst with
    | none => true
    | some e => not (memP e x.names))
def Cls.isI : Cls → Bool
  | .i => true
  | _ => false
def Cls.isA : Cls → Bool
  | .a => true
  | _ => false
/-- A step may stand behind those that have been laid. -/
noncomputable def fitsBehind (d e : DStep) : Bool := match Nat.testBit d.anc e.idx with
  | true => true
  | false => and (apartD e d) (match d.cls with
    | .p => true
    | .q => not e.cls.isI
    | .a => true
    | .i => and (not e.cls.isI) (not e.cls.isA))
noncomputable def chkD (n : Nat) : List DStep → List DStep → Nat → Bool
  | [], _, done => Nat.beq (Nat.succ done) (Nat.pow 2 n)
  | d :: r, l, done => and (not (Nat.testBit done d.idx)) (and (l.all (fitsBehind d)) (chkD n r (d :: l) (Nat.lor done (Nat.pow 2 d.idx))))

/-! the same check, in numbers: (a step's number, what it writes, what it looks at or writes, its class) -/
noncomputable def clsN : Cls → Nat
  | .p => 0
  | .q => 1
  | .a => 2
  | .i => 3
noncomputable def wM (d : DStep) : Nat := match d.o.dst with
  | some k => Nat.shiftLeft 1 k
  | none => 0
noncomputable def maskL (l : List Nat) : Nat := List.rec 0 (fun k _ r => Nat.lor (Nat.shiftLeft 1 k) r) l
noncomputable def rwM (d : DStep) : Nat := Nat.lor (maskL d.names) (wM d)
inductive QN where
  | mk (idx w rw c : Nat)
noncomputable def nums (d : DStep) : QN := .mk d.idx (wM d) (rwM d) (clsN d.cls)
noncomputable def clsFit (cd ce : Nat) : Bool := Bool.rec (Bool.rec (Bool.rec false (Nat.ble ce 1) (Nat.beq cd 3)) (not (Nat.beq ce 3)) (Nat.beq cd 1)) true (Nat.beq (Nat.land cd 1) 0)
noncomputable def pairQ (anc w rw c : Nat) (e : QN) : Bool := QN.rec (motive := fun _ => Bool) (fun i w' rw' c' => Bool.rec (Bool.rec false (clsFit c c') (Nat.beq (Nat.lor (Nat.land w' rw) (Nat.land w rw')) 0)) true (bitOf anc i)) e
noncomputable def allQ (anc w rw c : Nat) (l : List QN) : Bool := List.rec true (fun e _ r => Bool.rec false r (pairQ anc w rw c e)) l
noncomputable def frcB (n : Nat) (f : Nat → Bool) : Bool := Nat.rec (motive := fun _ => Bool) (f 0) (fun k _ => f (Nat.succ k)) n
noncomputable def chkQ (n : Nat) : List DStep → List QN → Nat → Bool
  | [], _, done => Nat.beq (Nat.succ done) (Nat.pow 2 n)
  | d :: r, l, done => frcB d.idx fun i => frcB (wM d) fun w => frcB (rwM d) fun rw => frcB (clsN d.cls) fun c => frcB d.anc fun anc =>
    Bool.rec (Bool.rec false (frcB (Nat.lor done (Nat.shiftLeft 1 i)) fun done' => chkQ n r (.mk i w rw c :: l) done') (allQ anc w rw c l)) false (bitOf done i)

noncomputable def edgesOf (o : Oper) : List Nat := o.after.toList.filterMap fun e => match Region.binds .any e with
  | true => some e.on
  | false => none
/-- Every edge leads to an operation ahead. -/
noncomputable def edgesUp : List (List Nat) → Nat → Bool
  | [], _ => true
  | l :: r, i => and (l.all fun e => Nat.blt e i) (edgesUp r (Nat.succ i))

/-- All ancestors, as bits; those of the operations ahead lie packed in one number, W bits each. -/
noncomputable def maskP (W acc : Nat) (es : List Nat) : Nat := List.rec 0 (fun e _ r => Nat.lor (Nat.lor (Nat.shiftLeft 1 e) (Nat.shiftRight acc (Nat.mul W e))) r) es
noncomputable def frcL (n : Nat) (f : Nat → List Nat) : List Nat := Nat.rec (motive := fun _ => List Nat) (f 0) (fun k _ => f (Nat.succ k)) n
noncomputable def ancsP (W full : Nat) : List (List Nat) → Nat → Nat → List Nat
  | [], _, _ => []
  | es :: r, acc, i => frcL (Nat.land full (maskP W acc es)) fun m => frcL (Nat.lor acc (Nat.shiftLeft m (Nat.mul W i))) fun acc' => m :: ancsP W full r acc' (Nat.succ i)
noncomputable def befOf (ops : Array Oper) : List Nat := ancsP ops.size (Nat.sub (Nat.shiftLeft 1 ops.size) 1) (ops.toList.map edgesOf) 0 0

noncomputable def cdraw (P : Program) (N : Nat) (ops : Array Oper) : Option ACode := match ops.toList.map edgesOf with
  | edges => match dsteps P N ops (befOf ops) ops.toList 0 with
    | none => none
    | some l => match order l with
      | ds => match and (edgesUp edges 0) (and (Nat.beq ds.length ops.size) (chkQ ops.size ds [] 0)) with
        | true => some (.draw ops.size ds)
        | false => none

noncomputable def ccode (P : Program) (N : Nat) : Code → Option ACode
  | .skip => some .skip
  | .region _ ops draw => match draw with
    | false => match copers P N ops ops.toList with
      | some l => some (.region l)
      | none => none
    | true => match cdraw P N ops with
      | some d => some d
      | none => some codeFail
  | .seq a b => match ccode P N a with
    | none => none
    | some a' => match ccode P N b with
      | some b' => some (.seq a' b')
      | none => none
  | .cond c a b => match copd c with
    | none => none
    | some c' => match ccode P N a with
      | none => none
      | some a' => match ccode P N b with
        | some b' => some (.cond c' a' b')
        | none => none
  | .block id a => match ccode P N a with
    | some a' => some (.block id a')
    | none => none
  | .loop a => match ccode P N a with
    | some a' => some (.loop a')
    | none => none
  | .exit id => some (.exit id)
  | .ret => some .ret
  | _ => some codeFail

noncomputable def cres (P : Program) (N : Nat) : List ResultVar → Option (List ARes)
  | [] => some []
  | r :: l => match (match r with
      | .tmp t => some (.tmp t)
      | .cell a t => match P.underlying t with
        | none => none
        | some d => match d.isRow with
          | false => some (.cell1 a)
          | true => match P.info? t with
            | some i => some (.cellN a i.size)
            | none => none) with
    | none => none
    | some x => match cres P N l with
      | some l' => some (x :: l')
      | none => none

/-- Which slots an operation looks at (bits); which a list of them looks at that it has not written itself; which outlive their region. -/
noncomputable def opndMask (l : List Operand) : Nat := List.rec 0 (fun x _ r => match x with
  | .tmp t => Nat.lor (Nat.shiftLeft 1 t) r
  | _ => r) l
noncomputable def usesOf (ops : Array Oper) (o : Oper) : Nat := Nat.lor (opndMask o.op.operands.toList) (match o.guard with
  | some (j, _) => match (ops[j]?).bind (·.dst) with
    | some d => Nat.shiftLeft 1 d
    | none => 0
  | none => 0)
noncomputable def upOps (ops : Array Oper) : List Oper → Nat → Nat
  | [], _ => 0
  | o :: r, D => match litN (usesOf ops o) with
    | u => Nat.lor (Nat.sub u (Nat.land u D)) (upOps ops r (litN (match o.dst with
      | some d => Nat.lor D (Nat.shiftLeft 1 d)
      | none => D)))
noncomputable def upCode : Code → Nat
  | .region _ ops _ => upOps ops ops.toList 0
  | .seq a b => Nat.lor (upCode a) (upCode b)
  | .cond c a b => Nat.lor (opndMask [c]) (Nat.lor (upCode a) (upCode b))
  | .block _ a => upCode a
  | .loop a => upCode a
  | _ => 0
noncomputable def upRes (l : List ResultVar) : Nat := List.rec 0 (fun x _ r => match x with
  | .tmp t => Nat.lor (Nat.shiftLeft 1 t) r
  | .cell a _ => Nat.lor (Nat.shiftLeft 1 a) r) l
noncomputable def frcN (n : Nat) (f : Nat → Option AFn) : Option AFn := Nat.rec (motive := fun _ => Option AFn) (f 0) (fun k _ => f (Nat.succ k)) n
theorem frcN_eq (n : Nat) (f : Nat → Option AFn) : frcN n f = f n := by cases n <;> rfl

noncomputable def cfn (P : Program) (fn : Func) : Option AFn := match fn.body with
  | none => match fn.name == "internal/bytealg.abigen_runtime_cmpstring" with
    | true => some .cmp
    | false => match fn.name == "internal/bytealg.CountString" with
      | true => some .cnt
      | false => match fn.name == "internal/bytealg.IndexByteString" with
        | true => some .idx
        | false => none
  | some c => match ccode P fn.ntmps c with
    | none => none
    | some c' => match cres P fn.ntmps fn.results.toList with
      | none => none
      | some r => frcN (Nat.lor (upCode c) (upRes fn.results.toList)) fun m => some (.body fn.ntmps m c' r)
/-- The names of a program's functions bode nothing odd. -/
noncomputable def namesOk (P : Program) : Bool := P.funcs.toList.all fun fn => and (not (fn.name == "runtime.NumGoroutine")) (or (not (or (fn.name == "internal/bytealg.abigen_runtime_cmpstring") (or (fn.name == "internal/bytealg.CountString") (fn.name == "internal/bytealg.IndexByteString")))) (fn.origin == ""))
/-- What is known of some functions. -/
noncomputable def knownOf (kn : List (Nat × AV)) (f : Nat) : Option AV := List.rec none (fun x _ r => match Nat.beq x.1 f with
  | true => some x.2
  | false => r) kn
/-- What is known: values of calls without arguments; calls that have been run. -/
structure Kn where
  vals : List (Nat × AV)
  memo : List Memo
  prims : List (Nat × (List AV → St → Option (AV × St)))
noncomputable def primOf (ps : List (Nat × (List AV → St → Option (AV × St)))) (f : Nat) : Option (List AV → St → Option (AV × St)) := List.rec none (fun x _ r => match Nat.beq x.1 f with
  | true => some x.2
  | false => r) ps
noncomputable def memosOf (ms : List Memo) (f : Nat) : List Memo := List.rec [] (fun x _ r => match Nat.beq x.f f with
  | true => x :: r
  | false => r) ms
noncomputable def progOf (P : Program) (kn : Kn) (f : Nat) : Option AFn := match knownOf kn.vals f with
  | some v => some (.known v)
  | none => match primOf kn.prims f with
   | some run => some (.prim run)
   | none => match P.funcs[f]? with
    | none => none
    | some fn => match memosOf kn.memo f with
      | [] => cfn P fn
      | x :: ms => match cfn P fn with
        | some (.body n m c r) => some (.memo (x :: ms) n m c r)
        | _ => none

/-- What a call comes to is true. -/
noncomputable def saysTrue (P : Program) (kn : Kn) (fuel f : Nat) (args : List AV) : Bool := match callFn (progOf P kn) (exec (progOf P kn) fuel) f args ⟨.leaf, .h⟩ with
  | some (.bool b, _) => b
  | _ => false

end Go.Abs
