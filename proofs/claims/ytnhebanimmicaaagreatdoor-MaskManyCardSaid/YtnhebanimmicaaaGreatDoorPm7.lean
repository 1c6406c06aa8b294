/- Code, its run, and that the abstract machine follows. -/
import Derived.Test.YtnhebanimmicaaaGreatDoorPm6
namespace Go.Abs

inductive POper where
  | op (dst : Option Nat) (guard : Option (Nat × Bool)) (o : POp)
  | call (dst : Option Nat) (guard : Option (Nat × Bool)) (f : POpd) (args : List POpd)
structure PDStep where
  idx : Nat
  cls : Cls
  o : POper
  names : List Nat
  anc : Nat
inductive PCode where
  | skip
  | region (ops : List POper)
  | draw (n : Nat) (ds : List PDStep)
  | seq (a b : PCode)
  | cond (c : POpd) (a b : PCode)
  | block (id : Nat) (a : PCode)
  | loop (a : PCode)
  | exit (id : Nat)
  | ret
  | dead
abbrev PCallF := Nat → List V → PSt → Option (V × PSt)
inductive PFn where
  | body (m : Nat) (c : PCode) (res : List ARes)
  | prim (run : List V → PSt → Option (V × PSt))

/-! ### running -/
def psetDst (d : Option Nat) (v : V) (T : PEnv) : PEnv := match d with
  | some p => PEnv.put p v T
  | none => T
def pguardV (want : Bool) (v : V) : Option Bool := match v with
  | .bool b => match b with
    | true => some want
    | false => some (!want)
  | .tup l => match l with
    | [] => some false
    | _ :: _ => none
  | _ => none
def pguardOk (g : Option (Nat × Bool)) (T : PEnv) : Option Bool := match g with
  | none => some true
  | some (p, want) => match T.get p with
    | none => none
    | some v => pguardV want v
def prunOp (call : PCallF) (o : POper) (T : PEnv) (S : PSt) : Option (V × PSt) := match o with
  | .op _ g o => match pguardOk g T with
    | none => none
    | some true => o.run T S
    | some false => some (.tup [], S)
  | .call _ g f args => match pguardOk g T with
    | none => none
    | some false => some (.tup [], S)
    | some true => match pev T f with
      | some (.fn f caps) => match pevs T args with
        | some vs => call f (vs ++ caps) S
        | none => none
      | _ => none
def POper.dst : POper → Option Nat
  | .op d _ _ => d
  | .call d _ _ _ => d
def pexecOps (call : PCallF) : List POper → PEnv → PSt → Option (PEnv × PSt)
  | [], T, S => some (T, S)
  | o :: r, T, S => match prunOp call o T S with
    | none => none
    | some (v, S') => pexecOps call r (psetDst o.dst v T) S'
def prestr (T : PEnv) : List Nat → PEnv
  | [] => []
  | p :: r => match T.get p with
    | some v => PEnv.put p v (prestr T r)
    | none => prestr T r
structure PSeen where
  idx : Nat
  T : PEnv
  o : POper
  v : V
def precheck (call : PCallF) (anc : Nat) (S : PSt) : List PSeen → Prop
  | [] => True
  | e :: r => (Nat.testBit anc e.idx = true ∨ ∃ S', prunOp call e.o e.T S = some (e.v, S')) ∧ precheck call anc S r
open Classical in
noncomputable def pexecDraw (call : PCallF) (r0 : Nat) : List PDStep → PEnv → PSt → PSt → List PSeen → Option (PEnv × PSt)
  | [], T, S, _, _ => some (T, S)
  | d :: ds, T, S, B, l => match d.cls with
    | .p => match prunOp call d.o (prestr T d.names) S with
      | none => none
      | some (v, _) => pexecDraw call r0 ds (psetDst d.o.dst v T) S B l
    | .q => match prunOp call d.o (prestr T d.names) B with
      | none => none
      | some (v, _) => pexecDraw call r0 ds (psetDst d.o.dst v T) S B (⟨d.idx, prestr T d.names, d.o, v⟩ :: l)
    | .a => if S.heap (r0 + d.idx) = none ∧ r0 + d.idx < S.next then (match prunOp call d.o (prestr T d.names) ⟨S.heap, r0 + d.idx⟩ with
      | none => none
      | some (v, S1) => pexecDraw call r0 ds (psetDst d.o.dst v T) ⟨S1.heap, S.next⟩ B l) else none
    | .i => match prunOp call d.o (prestr T d.names) S with
      | none => none
      | some (v, S1) => if precheck call d.anc S1 l then pexecDraw call r0 ds (psetDst d.o.dst v T) S1 S1 l else none
def presVals (T : PEnv) (S : PSt) : List ARes → Option (List V)
  | [] => some []
  | r :: l => match (match r with
      | .tmp p => T.get p
      | .cell1 p => match T.get p with
        | some (.ptr a o) => match S.heap a with
          | some (.box cs) => cs[o]?
          | _ => none
        | _ => none
      | .cellN p n => match T.get p with
        | some (.ptr a o) => match S.heap a with
          | some (.box cs) => if o + n ≤ cs.length then some (.agg ((cs.drop o).take n)) else none
          | _ => none
        | _ => none) with
    | none => none
    | some v => match presVals T S l with
      | none => none
      | some vs => some (v :: vs)
noncomputable def pflush (m : Nat) : PEnv → PEnv
  | [] => []
  | (k, v) :: r => match bitOf m k with
    | true => (k, v) :: pflush m r
    | false => pflush m r
def pargs : List V → Nat → PEnv
  | [], _ => []
  | v :: l, i => (i, v) :: pargs l (i + 1)
abbrev PRes := Option (AExit × PEnv × PSt)
def poneOf (l : List V) : V := match l with
  | [v] => v
  | l => .tup l
noncomputable def prunBody (ex : PCode → PEnv → PSt → PRes) (m : Nat) (c : PCode) (res : List ARes) (args : List V) (S : PSt) : Option (V × PSt) := match ex c (pflush m (pargs args 0)) S with
  | none => none
  | some (e, T, S') => match e with
    | .exit _ => none
    | _ => match presVals T S' res with
      | none => none
      | some l => some (poneOf l, S')
noncomputable def pcallFn (pp : Nat → Option PFn) (ex : Nat → PCode → PEnv → PSt → PRes) : PCallF := fun f args S => match pp f with
  | none => none
  | some (.prim F) => F args S
  | some (.body m c res) => prunBody (ex m) m c res args S
noncomputable def pexec (pp : Nat → Option PFn) : Nat → Nat → PCode → PEnv → PSt → PRes
  | 0, _, _, _, _ => none
  | n + 1, m, c, T, S => match c with
    | .skip => some (.normal, T, S)
    | .region ops => match pexecOps (pcallFn pp (pexec pp n)) ops T S with
      | some (T', S') => some (.normal, pflush m T', S')
      | none => none
    | .draw k ds => match pexecDraw (pcallFn pp (pexec pp n)) S.next ds T ⟨S.heap, S.next + k⟩ ⟨S.heap, S.next + k⟩ [] with
      | some (T', S') => some (.normal, pflush m T', S')
      | none => none
    | .seq a b => match pexec pp n m a T S with
      | none => none
      | some (e, T', S') => match e with
        | .normal => pexec pp n m b T' S'
        | .exit id => some (.exit id, T', S')
        | .ret => some (.ret, T', S')
    | .cond c a b => match pev T c with
      | some (.bool v) => match v with
        | true => pexec pp n m a T S
        | false => pexec pp n m b T S
      | _ => none
    | .block id a => match pexec pp n m a T S with
      | none => none
      | some (e, T', S') => match e with
        | .normal => some (.normal, T', S')
        | .exit i => if i = id then some (.normal, T', S') else some (.exit i, T', S')
        | .ret => some (.ret, T', S')
    | .loop a => match pexec pp n m a T S with
      | none => none
      | some (e, T', S') => match e with
        | .normal => pexec pp n m (.loop a) T' S'
        | .exit i => some (.exit i, T', S')
        | .ret => some (.ret, T', S')
    | .exit id => some (.exit id, T, S)
    | .ret => some (.ret, T, S)
    | .dead => none

/-! ### how code stands to code -/
inductive All2 {α β : Type} (r : α → β → Prop) : List α → List β → Prop
  | nil : All2 r [] []
  | cons {a : α} {b : β} {l : List α} {m : List β} (h : r a b) (t : All2 r l m) : All2 r (a :: l) (b :: m)
inductive OperSim : POper → AOper → Prop
  | op (d : Option Nat) (g : Option (Nat × Bool)) (o : POp) (h : o.ok) : OperSim (.op d g o) (.op d g o.runA)
  | fail (d : Option Nat) (g : Option (Nat × Bool)) (r : Run) : OperSim (.op d g .fail) (.op d g r)
  | call (d : Option Nat) (g : Option (Nat × Bool)) (f : POpd) (args : List POpd) (hf : f.ok) (ha : okL args) : OperSim (.call d g f args) (.call d g f.toA (args.map POpd.toA))
/-- An operation of a kind. -/
def clsFits (c : Cls) (o : POper) : Prop := match c with
  | .p => ∃ d g q, o = .op d g q ∧ (q.isP = true ∨ q = .fail)
  | .q => ∃ d g q, o = .op d g q ∧ q.pure = true
  | .a => ∃ d g q, o = .op d g q ∧ (q.makes = true ∨ q = .fail)
  | .i => True
structure DSim (p : PDStep) (a : DStep) : Prop where
  idx : p.idx = a.idx
  cls : p.cls = a.cls
  o : OperSim p.o a.o
  names : p.names = a.names
  anc : p.anc = a.anc
  fits : clsFits p.cls p.o
/-- No step reads memory through a slot that hangs on a row that the region itself has just made. -/
def meets (a b : List Nat) : Bool := a.any fun x => b.contains x
def untaint (d : Option Nat) (l : List Nat) : List Nat := match d with
  | none => l
  | some k => l.filter fun x => x != k
def addTaint (d : Option Nat) (l : List Nat) : List Nat := match d with
  | none => l
  | some k => k :: l
def taintOk : List PDStep → List Nat → Bool
  | [], _ => true
  | d :: ds, tn => match d.cls with
    | .p => if meets d.names tn = true then taintOk ds (addTaint d.o.dst tn) else taintOk ds (untaint d.o.dst tn)
    | .q => !meets d.names tn && taintOk ds (untaint d.o.dst tn)
    | .a => taintOk ds (addTaint d.o.dst tn)
    | .i => taintOk ds []
inductive CSim : PCode → ACode → Prop
  | skip : CSim .skip .skip
  | region {ps : List POper} {qs : List AOper} (h : All2 OperSim ps qs) : CSim (.region ps) (.region qs)
  | draw (n : Nat) {ds : List PDStep} {es : List DStep} (h : All2 DSim ds es) (ht : taintOk ds [] = true) : CSim (.draw n ds) (.draw n es)
  | seq {a b : PCode} {a' b' : ACode} (h : CSim a a') (k : CSim b b') : CSim (.seq a b) (.seq a' b')
  | cond (c : POpd) {a b : PCode} {a' b' : ACode} (h : CSim a a') (k : CSim b b') : CSim (.cond c a b) (.cond c.toA a' b')
  | block (id : Nat) {a : PCode} {a' : ACode} (h : CSim a a') : CSim (.block id a) (.block id a')
  | loop {a : PCode} {a' : ACode} (h : CSim a a') : CSim (.loop a) (.loop a')
  | exit (id : Nat) : CSim (.exit id) (.exit id)
  | ret : CSim .ret .ret
  | dead (a : ACode) : CSim .dead a
def CallSim (pc : PCallF) (ac : CallF) : Prop := ∀ (f : Nat) (args : List V) (S : PSt) (s : St) (v : V) (S' : PSt), pc f args S = some (v, S') → Sim S s → (∀ u ∈ args, Wf S u) →
  ∃ s', ac f (args.map V.er) s = some (v.er, s') ∧ Sim S' s' ∧ Keep S S' ∧ Wf S' v

theorem OperSim.dst {p : POper} {a : AOper} (h : OperSim p a) : a.dst = p.dst := by cases h <;> rfl
theorem pguard_sim {T : PEnv} {t : Env} (he : ESim T t) {g : Option (Nat × Bool)} {b : Bool} (h : pguardOk g T = some b) : guardOk g t = some b := by
  cases g with
  | none => exact h
  | some x =>
    obtain ⟨p, want⟩ := x
    have h' : (match T.get p with
      | none => none
      | some v => pguardV want v) = some b := h
    split at h'
    · cases h'
    rename_i v hv
    have hg := he p
    rw [hv] at hg
    show (match t.get p with
      | none => none
      | some v => guardV want v) = some b
    rw [hg]
    show guardV want v.er = some b
    unfold pguardV at h'
    split at h'
    · rename_i b0; cases b0 <;> exact h'
    · rename_i l
      split at h'
      · exact h'
      · cases h'
    · cases h'
theorem prunOp_sim {pc : PCallF} {ac : CallF} (hc : CallSim pc ac) {p : POper} {a : AOper} (hp : OperSim p a) {T : PEnv} {t : Env} {S : PSt} {s : St} {v : V} {S' : PSt} (hf : prunOp pc p T S = some (v, S')) (he : ESim T t) (hs : Sim S s) (hw : EWf S T) :
    ∃ s', runOp ac a t s = some (v.er, s') ∧ Sim S' s' ∧ Keep S S' ∧ Wf S' v := by
  cases hp with
  | op d g o ho =>
    simp only [prunOp] at hf
    split at hf
    · cases hf
    · rename_i hg
      obtain ⟨s', h1, h2⟩ := o.sim ho T t S s v S' hf he hs hw
      refine ⟨s', ?_, h2⟩
      show (match guardOk g t with
        | none => none
        | some true => o.runA t s
        | some false => some (.tup [], s)) = _
      rw [pguard_sim he hg]; exact h1
    · rename_i hg
      cases hf
      refine ⟨s, ?_, hs, .refl _, wf_tup0⟩
      show (match guardOk g t with
        | none => none
        | some true => o.runA t s
        | some false => some (.tup [], s)) = _
      rw [pguard_sim he hg]; rfl
  | fail d g r =>
    simp only [prunOp] at hf
    split at hf
    · cases hf
    · cases hf
    · rename_i hg
      cases hf
      refine ⟨s, ?_, hs, .refl _, wf_tup0⟩
      show (match guardOk g t with
        | none => none
        | some true => r t s
        | some false => some (.tup [], s)) = _
      rw [pguard_sim he hg]; rfl
  | call d g f args hof hoa =>
    simp only [prunOp] at hf
    have e : runOp ac (.call d g f.toA (args.map POpd.toA)) t s = (match guardOk g t with
      | none => none
      | some false => some (.tup [], s)
      | some true => match ev t f.toA with
        | some (.fn f caps) => match evs t (args.map POpd.toA) with
          | some vs => ac f (vs ++ caps) s
          | none => none
        | _ => none) := rfl
    split at hf
    · cases hf
    · rename_i hg
      cases hf
      exact ⟨s, by rw [e, pguard_sim he hg]; rfl, hs, .refl _, wf_tup0⟩
    · rename_i hg
      split at hf
      case h_2 => cases hf
      rename_i f0 caps hfn
      split at hf
      case h_2 => cases hf
      rename_i vs hvs
      obtain ⟨q1, q2⟩ := pevs_sim he hw hoa hvs
      have hwf := pev_wf hw hof hfn
      obtain ⟨s', h1, h2⟩ := hc f0 (vs ++ caps) S s v S' hf hs (fun u hu => (List.mem_append.1 hu).elim (q2 u) (list_wf hwf u))
      refine ⟨s', ?_, h2⟩
      rw [e, pguard_sim he hg]
      simp only
      rw [pev_sim he hfn]
      simp only [V.er, q1]
      rw [← h1, List.map_append, V.ers_eq]
theorem psetDst_sim {T : PEnv} {t : Env} (he : ESim T t) (d : Option Nat) (v : V) : ESim (psetDst d v T) (setDst d v.er t) := by
  cases d with
  | none => exact he
  | some p => exact he.put p v
theorem psetDst_wf {S : PSt} {T : PEnv} (hw : EWf S T) (d : Option Nat) {v : V} (hv : Wf S v) : EWf S (psetDst d v T) := by
  cases d with
  | none => exact hw
  | some p => exact hw.put hv
noncomputable def Env.mask (e : Env) : Nat := Env.rec (motive := fun _ => Nat) (fun m _ => m) (fun _ _ _ r => r) e
theorem mask_setDst (d : Option Nat) (v : AV) (t : Env) : (setDst d v t).mask = t.mask := by cases d <;> rfl
theorem pexecOps_sim {pc : PCallF} {ac : CallF} (hc : CallSim pc ac) : ∀ {ps : List POper} {qs : List AOper}, All2 OperSim ps qs → ∀ {T : PEnv} {t : Env} {S : PSt} {s : St} {T' : PEnv} {S' : PSt}, pexecOps pc ps T S = some (T', S') →
    ESim T t → Sim S s → EWf S T → ∃ t' s', execOps ac qs t s = some (t', s') ∧ ESim T' t' ∧ t'.mask = t.mask ∧ Sim S' s' ∧ Keep S S' ∧ EWf S' T'
  | _, _, .nil, T, t, S, s, T', S', hf, he, hs, hw => by cases hf; exact ⟨t, s, rfl, he, rfl, hs, .refl _, hw⟩
  | _, _, .cons (a := p) (b := a) (l := l) (m := m) hp ht, T, t, S, s, T', S', hf, he, hs, hw => by
    unfold pexecOps at hf
    split at hf
    · cases hf
    rename_i v S1 h1
    obtain ⟨s1, q1, q2, q3, q4⟩ := prunOp_sim hc hp h1 he hs hw
    obtain ⟨t', s', r1, r2, r3, r4, r5, r6⟩ := pexecOps_sim hc ht hf (psetDst_sim he p.dst v) q2 (psetDst_wf (hw.keep q3) _ q4)
    refine ⟨t', s', ?_, r2, by rw [r3, mask_setDst], r4, q3.trans r5, r6⟩
    have e : execOps ac (a :: m) t s = (match runOp ac a t s with
      | none => none
      | some (v, s') => execOps ac m (setDst a.dst v t) s') := rfl
    rw [e, q1]
    simp only
    rw [hp.dst]; exact r1
theorem flush_eq : ∀ e : Env, ∃ t, e.flush = .base e.mask t ∧ ∀ k, (Env.base e.mask t).get k = if bitOf e.mask k = true then e.get k else none
  | .base m t => ⟨t, rfl, fun k => by
    show (Env.base m t).get k = if bitOf m k = true then (Env.base m t).get k else none
    rw [Env.get_base]; split <;> rfl⟩
  | .bind k v e => by
    obtain ⟨t, h1, h2⟩ := flush_eq e
    have e1 : (Env.bind k v e).flush = Env.rec (motive := fun _ => Env)
      (fun m t => Bool.rec (.base m t) (frcT (t.put (some v) (Pos.of k)) (.base m)) (bitOf m k)) (fun _ _ e _ => e) e.flush := rfl
    rw [h1] at e1
    have hm : (Env.bind k v e).mask = e.mask := rfl
    have e2 : (Env.bind k v e).flush = (Bool.rec (.base e.mask t) (frcT (t.put (some v) (Pos.of k)) (.base e.mask)) (bitOf e.mask k) : Env) := e1
    cases hb : bitOf e.mask k with
    | true =>
      rw [hb] at e2
      refine ⟨t.put (some v) (Pos.of k), e2.trans (frcT_eq _ _), fun j => ?_⟩
      rw [hm, Env.get_base, Env.get_bind]
      by_cases hj : bitOf e.mask j = true
      · rw [if_pos hj, if_pos hj, T.get_put]
        by_cases hjk : k = j
        · subst hjk; rw [if_pos rfl, if_pos rfl]
        · rw [if_neg (fun h => hjk (Pos.of_inj h).symm), if_neg hjk]
          have := h2 j
          rw [Env.get_base, if_pos hj, if_pos hj] at this
          exact this
      · rw [if_neg hj, if_neg hj]
    | false =>
      rw [hb] at e2
      refine ⟨t, e2, fun j => ?_⟩
      rw [hm, h2 j, Env.get_bind]
      by_cases hj : bitOf e.mask j = true
      · rw [if_pos hj, if_pos hj, if_neg (fun h => by rw [h, hj] at hb; cases hb)]
      · rw [if_neg hj, if_neg hj]
theorem get_filter (m : Nat) : ∀ (T : PEnv) (k : Nat), (pflush m T).get k = if bitOf m k = true then T.get k else none
  | [], k => by simp [pflush, PEnv.get_nil]
  | (j, v) :: r, k => by
    have ih := get_filter m r k
    unfold pflush
    cases hj : bitOf m j with
    | true =>
      simp only
      rw [PEnv.get_cons, PEnv.get_cons]
      by_cases hk : j = k
      · subst hk; rw [if_pos rfl, if_pos hj, if_pos rfl]
      · rw [if_neg hk, if_neg hk]; exact ih
    | false =>
      simp only
      rw [ih, PEnv.get_cons]
      by_cases hk : j = k
      · subst hk; rw [hj]; simp
      · rw [if_neg hk]
theorem pflush_sim {T : PEnv} {t : Env} (he : ESim T t) : ESim (pflush t.mask T) t.flush ∧ t.flush.mask = t.mask := by
  obtain ⟨u, h1, h2⟩ := flush_eq t
  refine ⟨fun k => ?_, by rw [h1]; rfl⟩
  rw [h1, h2 k, get_filter]
  split
  · exact he k
  · rfl
theorem pflush_wf {S : PSt} {T : PEnv} (hw : EWf S T) (m : Nat) : EWf S (pflush m T) := fun k v hv => by
  rw [get_filter] at hv
  split at hv
  · exact hw k v hv
  · cases hv
end Go.Abs
