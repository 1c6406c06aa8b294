/- More fuel does no harm; rules to follow a run. -/
import Derived.Test.YtnhebanimmicaaaGreatDoorPm12
namespace Go.Abs

def CallLe (c c' : PCallF) : Prop := ∀ f args S r, c f args S = some r → c' f args S = some r
theorem prunOp_mono {c c' : PCallF} (h : CallLe c c') {o : POper} {T : PEnv} {S : PSt} {r : V × PSt} (hr : prunOp c o T S = some r) : prunOp c' o T S = some r := by
  cases o with
  | op d g q => exact hr
  | call d g f args =>
    simp only [prunOp] at hr ⊢
    split at hr
    · cases hr
    · exact hr
    · split at hr
      case h_2 => cases hr
      split at hr
      case h_2 => cases hr
      exact h _ _ _ _ hr
theorem pexecOps_mono {c c' : PCallF} (h : CallLe c c') : ∀ {ops : List POper} {T : PEnv} {S : PSt} {r : PEnv × PSt}, pexecOps c ops T S = some r → pexecOps c' ops T S = some r
  | [], T, S, r, hr => hr
  | o :: ops, T, S, r, hr => by
    unfold pexecOps at hr ⊢
    split at hr
    · cases hr
    rename_i v S1 h1
    rw [prunOp_mono h h1]
    exact pexecOps_mono h hr
theorem precheck_mono {c c' : PCallF} (h : CallLe c c') {anc : Nat} {S : PSt} : ∀ {l : List PSeen}, precheck c anc S l → precheck c' anc S l
  | [], _ => trivial
  | e :: l, hp => ⟨hp.1.elim .inl fun ⟨S', k⟩ => .inr ⟨S', prunOp_mono h k⟩, precheck_mono h hp.2⟩
theorem pexecDraw_mono {c c' : PCallF} (h : CallLe c c') {r0 : Nat} : ∀ {ds : List PDStep} {T : PEnv} {S B : PSt} {l : List PSeen} {r : PEnv × PSt}, pexecDraw c r0 ds T S B l = some r → pexecDraw c' r0 ds T S B l = some r
  | [], T, S, B, l, r, hr => hr
  | d :: ds, T, S, B, l, r, hr => by
    unfold pexecDraw at hr ⊢
    cases hd : d.cls with
    | p =>
      rw [hd] at hr
      simp only at hr ⊢
      split at hr
      · cases hr
      rename_i v S1 h1
      rw [prunOp_mono h h1]
      exact pexecDraw_mono h hr
    | q =>
      rw [hd] at hr
      simp only at hr ⊢
      split at hr
      · cases hr
      rename_i v S1 h1
      rw [prunOp_mono h h1]
      exact pexecDraw_mono h hr
    | a =>
      rw [hd] at hr
      simp only at hr ⊢
      split at hr
      case isFalse => cases hr
      rename_i hroom
      rw [if_pos hroom]
      split at hr
      · cases hr
      rename_i v S1 h1
      rw [prunOp_mono h h1]
      exact pexecDraw_mono h hr
    | i =>
      rw [hd] at hr
      simp only at hr ⊢
      split at hr
      · cases hr
      rename_i v S1 h1
      split at hr
      case isFalse => cases hr
      rename_i hp
      rw [prunOp_mono h h1]
      simp only
      rw [if_pos (precheck_mono h hp)]
      exact pexecDraw_mono h hr
def ExLe (x x' : Nat → PCode → PEnv → PSt → PRes) : Prop := ∀ m c T S r, x m c T S = some r → x' m c T S = some r
theorem pcallFn_mono {pp : Nat → Option PFn} {x x' : Nat → PCode → PEnv → PSt → PRes} (h : ExLe x x') : CallLe (pcallFn pp x) (pcallFn pp x') := by
  intro f args S r hr
  unfold pcallFn at hr ⊢
  split at hr
  · cases hr
  · exact hr
  · rename_i m c res hf
    unfold prunBody at hr ⊢
    split at hr
    · cases hr
    rename_i e T1 S1 h1
    rw [h _ _ _ _ _ h1]
    exact hr
/-! ### a step of code -/
section
variable (pp : Nat → Option PFn) (n m : Nat) (T : PEnv) (S : PSt)
theorem pexec_region (ops : List POper) : pexec pp (n + 1) m (.region ops) T S = (match pexecOps (pcallFn pp (pexec pp n)) ops T S with
      | some (T', S') => some (.normal, pflush m T', S')
      | none => none) := rfl
theorem pexec_draw (k : Nat) (ds : List PDStep) : pexec pp (n + 1) m (.draw k ds) T S = (match pexecDraw (pcallFn pp (pexec pp n)) S.next ds T ⟨S.heap, S.next + k⟩ ⟨S.heap, S.next + k⟩ [] with
      | some (T', S') => some (.normal, pflush m T', S')
      | none => none) := rfl
theorem pexec_seq (a b : PCode) : pexec pp (n + 1) m (.seq a b) T S = (match pexec pp n m a T S with
      | none => none
      | some (e, T', S') => match e with
        | .normal => pexec pp n m b T' S'
        | .exit id => some (.exit id, T', S')
        | .ret => some (.ret, T', S')) := rfl
theorem pexec_cond (c : POpd) (a b : PCode) : pexec pp (n + 1) m (.cond c a b) T S = (match pev T c with
      | some (.bool v) => match v with
        | true => pexec pp n m a T S
        | false => pexec pp n m b T S
      | _ => none) := rfl
theorem pexec_block (id : Nat) (a : PCode) : pexec pp (n + 1) m (.block id a) T S = (match pexec pp n m a T S with
      | none => none
      | some (e, T', S') => match e with
        | .normal => some (.normal, T', S')
        | .exit i => if i = id then some (.normal, T', S') else some (.exit i, T', S')
        | .ret => some (.ret, T', S')) := rfl
theorem pexec_loop (a : PCode) : pexec pp (n + 1) m (.loop a) T S = (match pexec pp n m a T S with
      | none => none
      | some (e, T', S') => match e with
        | .normal => pexec pp n m (.loop a) T' S'
        | .exit i => some (.exit i, T', S')
        | .ret => some (.ret, T', S')) := rfl
end
theorem pexec_succ (pp : Nat → Option PFn) : ∀ n, ExLe (pexec pp n) (pexec pp (n + 1)) := by
  intro n
  induction n with
  | zero => intro m c T S r h; cases h
  | succ n ih =>
    intro m c T S r h
    have hc := pcallFn_mono (pp := pp) ih
    cases c with
    | skip => exact h
    | exit id => exact h
    | ret => exact h
    | dead => cases h
    | region ops =>
      rw [pexec_region] at h ⊢
      split at h
      case h_2 => cases h
      rename_i T1 S1 h1
      rw [pexecOps_mono hc h1]
      exact h
    | draw k ds =>
      rw [pexec_draw] at h ⊢
      split at h
      case h_2 => cases h
      rename_i T1 S1 h1
      rw [pexecDraw_mono hc h1]
      exact h
    | seq a b =>
      rw [pexec_seq] at h ⊢
      split at h
      · cases h
      rename_i e T1 S1 h1
      rw [ih _ _ _ _ _ h1]
      cases e with
      | normal => exact ih _ _ _ _ _ h
      | exit id => exact h
      | ret => exact h
    | cond x a b =>
      rw [pexec_cond] at h ⊢
      split at h
      case h_2 => cases h
      rename_i v hv
      cases v <;> exact ih _ _ _ _ _ h
    | block id a =>
      rw [pexec_block] at h ⊢
      split at h
      · cases h
      rename_i e T1 S1 h1
      rw [ih _ _ _ _ _ h1]
      exact h
    | loop a =>
      rw [pexec_loop] at h ⊢
      split at h
      · cases h
      rename_i e T1 S1 h1
      rw [ih _ _ _ _ _ h1]
      cases e with
      | normal => exact ih _ _ _ _ _ h
      | exit id => exact h
      | ret => exact h
theorem pexec_mono (pp : Nat → Option PFn) {n k : Nat} (h : n ≤ k) : ExLe (pexec pp n) (pexec pp k) := by
  induction h with
  | refl => intro m c T S r h; exact h
  | step _ ih => intro m c T S r h; exact pexec_succ pp _ _ _ _ _ _ (ih _ _ _ _ _ h)

/-! ### rules -/
structure Ex (pp : Nat → Option PFn) (m : Nat) (c : PCode) (T : PEnv) (S : PSt) (r : AExit × PEnv × PSt) : Prop where
  out : ∃ n, pexec pp n m c T S = some r
structure Cl (pp : Nat → Option PFn) (f : Nat) (args : List V) (S : PSt) (r : V × PSt) : Prop where
  out : ∃ n, pcallFn pp (pexec pp n) f args S = some r
structure Ops (pp : Nat → Option PFn) (ops : List POper) (T : PEnv) (S : PSt) (r : PEnv × PSt) : Prop where
  out : ∃ n, pexecOps (pcallFn pp (pexec pp n)) ops T S = some r
section
variable {pp : Nat → Option PFn} {m : Nat} {T T' T1 : PEnv} {S S' S1 : PSt}
theorem Ops.nil : Ops pp [] T S (T, S) := ⟨0, rfl⟩
theorem Ops.op {d : Option Nat} {q : POp} {r : List POper} {v : V} {R : PEnv × PSt} (h : q.run T S = some (v, S1)) (k : Ops pp r (psetDst d v T) S1 R) : Ops pp (.op d none q :: r) T S R := by
  obtain ⟨n, k⟩ := k
  refine ⟨n, ?_⟩
  show (match q.run T S with
    | none => none
    | some (v, S') => pexecOps _ r (psetDst d v T) S') = _
  rw [h]; exact k
theorem Ops.opG {d : Option Nat} {g : Nat × Bool} {q : POp} {r : List POper} {v : V} {R : PEnv × PSt} (hg : pguardOk (some g) T = some true) (h : q.run T S = some (v, S1)) (k : Ops pp r (psetDst d v T) S1 R) : Ops pp (.op d (some g) q :: r) T S R := by
  obtain ⟨n, k⟩ := k
  refine ⟨n, ?_⟩
  unfold pexecOps
  simp only [prunOp, hg, h]
  exact k
theorem Ops.opN {d : Option Nat} {g : Nat × Bool} {q : POp} {r : List POper} {R : PEnv × PSt} (hg : pguardOk (some g) T = some false) (k : Ops pp r (psetDst d (.tup []) T) S R) : Ops pp (.op d (some g) q :: r) T S R := by
  obtain ⟨n, k⟩ := k
  refine ⟨n, ?_⟩
  unfold pexecOps
  simp only [prunOp, hg]
  exact k
theorem Ops.call {d : Option Nat} {g : Option (Nat × Bool)} {f : POpd} {args : List POpd} {r : List POper} {j : Nat} {caps vs : List V} {v : V} {R : PEnv × PSt} (hg : pguardOk g T = some true) (hf : pev T f = some (.fn j caps)) (ha : pevs T args = some vs)
    (h : Cl pp j (vs ++ caps) S (v, S1)) (k : Ops pp r (psetDst d v T) S1 R) : Ops pp (.call d g f args :: r) T S R := by
  obtain ⟨n, h⟩ := h
  obtain ⟨n', k⟩ := k
  refine ⟨n + n', ?_⟩
  have h1 := pcallFn_mono (pp := pp) (pexec_mono pp (Nat.le_add_right n n')) _ _ _ _ h
  have k1 := pexecOps_mono (pcallFn_mono (pp := pp) (pexec_mono pp (Nat.le_add_left n' n))) k
  unfold pexecOps
  simp only [prunOp, hg, hf, ha, h1]
  exact k1
theorem Ops.callN {d : Option Nat} {g : Option (Nat × Bool)} {f : POpd} {args : List POpd} {r : List POper} {R : PEnv × PSt} (hg : pguardOk g T = some false) (k : Ops pp r (psetDst d (.tup []) T) S R) : Ops pp (.call d g f args :: r) T S R := by
  obtain ⟨n, k⟩ := k
  refine ⟨n, ?_⟩
  unfold pexecOps
  simp only [prunOp, hg]
  exact k
theorem Ex.skip : Ex pp m .skip T S (.normal, T, S) := ⟨1, rfl⟩
theorem Ex.exit {id : Nat} : Ex pp m (.exit id) T S (.exit id, T, S) := ⟨1, rfl⟩
theorem Ex.ret : Ex pp m .ret T S (.ret, T, S) := ⟨1, rfl⟩
theorem Ex.region {ops : List POper} (h : Ops pp ops T S (T1, S1)) : Ex pp m (.region ops) T S (.normal, pflush m T1, S1) := by
  obtain ⟨n, h⟩ := h
  refine ⟨n + 1, ?_⟩
  rw [pexec_region, h]
theorem Ex.seq {a b : PCode} {R : AExit × PEnv × PSt} (h : Ex pp m a T S (.normal, T1, S1)) (k : Ex pp m b T1 S1 R) : Ex pp m (.seq a b) T S R := by
  obtain ⟨n, h⟩ := h
  obtain ⟨n', k⟩ := k
  refine ⟨n + n' + 1, ?_⟩
  rw [pexec_seq, pexec_mono pp (Nat.le_add_right n n') _ _ _ _ _ h]
  exact pexec_mono pp (Nat.le_add_left n' n) _ _ _ _ _ k
theorem Ex.seqExit {a b : PCode} {id : Nat} (h : Ex pp m a T S (.exit id, T1, S1)) : Ex pp m (.seq a b) T S (.exit id, T1, S1) := by
  obtain ⟨n, h⟩ := h
  refine ⟨n + 1, ?_⟩
  rw [pexec_seq, h]
theorem Ex.seqRet {a b : PCode} (h : Ex pp m a T S (.ret, T1, S1)) : Ex pp m (.seq a b) T S (.ret, T1, S1) := by
  obtain ⟨n, h⟩ := h
  refine ⟨n + 1, ?_⟩
  rw [pexec_seq, h]
theorem Ex.cond {c : POpd} {a b : PCode} {v : Bool} {R : AExit × PEnv × PSt} (hv : pev T c = some (.bool v)) (ht : v = true → Ex pp m a T S R) (hf : v = false → Ex pp m b T S R) : Ex pp m (.cond c a b) T S R := by
  cases v with
  | true =>
    obtain ⟨n, h⟩ := ht rfl
    refine ⟨n + 1, ?_⟩
    rw [pexec_cond, hv]; exact h
  | false =>
    obtain ⟨n, h⟩ := hf rfl
    refine ⟨n + 1, ?_⟩
    rw [pexec_cond, hv]; exact h
theorem Ex.block {id : Nat} {a : PCode} (h : Ex pp m a T S (.normal, T1, S1)) : Ex pp m (.block id a) T S (.normal, T1, S1) := by
  obtain ⟨n, h⟩ := h
  refine ⟨n + 1, ?_⟩
  rw [pexec_block, h]
theorem Ex.blockExit {id : Nat} {a : PCode} (h : Ex pp m a T S (.exit id, T1, S1)) : Ex pp m (.block id a) T S (.normal, T1, S1) := by
  obtain ⟨n, h⟩ := h
  refine ⟨n + 1, ?_⟩
  rw [pexec_block, h]
  exact if_pos rfl
theorem Ex.blockOut {id i : Nat} {a : PCode} (hi : i ≠ id) (h : Ex pp m a T S (.exit i, T1, S1)) : Ex pp m (.block id a) T S (.exit i, T1, S1) := by
  obtain ⟨n, h⟩ := h
  refine ⟨n + 1, ?_⟩
  rw [pexec_block, h]
  exact if_neg hi
theorem Ex.blockRet {id : Nat} {a : PCode} (h : Ex pp m a T S (.ret, T1, S1)) : Ex pp m (.block id a) T S (.ret, T1, S1) := by
  obtain ⟨n, h⟩ := h
  refine ⟨n + 1, ?_⟩
  rw [pexec_block, h]
theorem Ex.loop {a : PCode} {R : AExit × PEnv × PSt} (h : Ex pp m a T S (.normal, T1, S1)) (k : Ex pp m (.loop a) T1 S1 R) : Ex pp m (.loop a) T S R := by
  obtain ⟨n, h⟩ := h
  obtain ⟨n', k⟩ := k
  refine ⟨n + n' + 1, ?_⟩
  have e : pexec pp (n + n' + 1) m (.loop a) T S = (match pexec pp (n + n') m a T S with
      | none => none
      | some (e, T', S') => match e with
        | .normal => pexec pp (n + n') m (.loop a) T' S'
        | .exit i => some (.exit i, T', S')
        | .ret => some (.ret, T', S')) := rfl
  rw [e, pexec_mono pp (Nat.le_add_right n n') _ _ _ _ _ h]
  exact pexec_mono pp (Nat.le_add_left n' n) _ _ _ _ _ k
theorem Ex.loopExit {a : PCode} {i : Nat} (h : Ex pp m a T S (.exit i, T1, S1)) : Ex pp m (.loop a) T S (.exit i, T1, S1) := by
  obtain ⟨n, h⟩ := h
  refine ⟨n + 1, ?_⟩
  have e : pexec pp (n + 1) m (.loop a) T S = (match pexec pp n m a T S with
      | none => none
      | some (e, T', S') => match e with
        | .normal => pexec pp n m (.loop a) T' S'
        | .exit i => some (.exit i, T', S')
        | .ret => some (.ret, T', S')) := rfl
  rw [e, h]
theorem Ex.loopRet {a : PCode} (h : Ex pp m a T S (.ret, T1, S1)) : Ex pp m (.loop a) T S (.ret, T1, S1) := by
  obtain ⟨n, h⟩ := h
  refine ⟨n + 1, ?_⟩
  have e : pexec pp (n + 1) m (.loop a) T S = (match pexec pp n m a T S with
      | none => none
      | some (e, T', S') => match e with
        | .normal => pexec pp n m (.loop a) T' S'
        | .exit i => some (.exit i, T', S')
        | .ret => some (.ret, T', S')) := rfl
  rw [e, h]
/-- A call of a function by its code. -/
theorem Cl.body {f : Nat} {c : PCode} {res : List ARes} {args l : List V} {e : AExit} (hf : pp f = some (.body m c res)) (h : Ex pp m c (pflush m (pargs args 0)) S (e, T1, S1)) (he : ∀ id, e ≠ .exit id) (hr : presVals T1 S1 res = some l) :
    Cl pp f args S (poneOf l, S1) := by
  obtain ⟨n, h⟩ := h
  refine ⟨n, ?_⟩
  unfold pcallFn
  rw [hf]
  have e1 : prunBody (pexec pp n m) m c res args S = (match pexec pp n m c (pflush m (pargs args 0)) S with
    | none => none
    | some (e, T, S') => match e with
      | .exit _ => none
      | _ => match presVals T S' res with
        | none => none
        | some l => some (poneOf l, S')) := rfl
  show prunBody (pexec pp n m) m c res args S = _
  rw [e1, h]
  cases e with
  | exit id => exact absurd rfl (he id)
  | normal => simp only [hr]
  | ret => simp only [hr]
theorem Cl.prim {f : Nat} {F : PPrim} {args : List V} {r : V × PSt} (hf : pp f = some (.prim F)) (h : F args S = some r) : Cl pp f args S r := ⟨0, by unfold pcallFn; rw [hf]; exact h⟩
end
/-! ### drawn regions -/
structure Dr (pp : Nat → Option PFn) (r0 : Nat) (ds : List PDStep) (T : PEnv) (S B : PSt) (l : List PSeen) (r : PEnv × PSt) : Prop where
  out : ∃ n, pexecDraw (pcallFn pp (pexec pp n)) r0 ds T S B l = some r
section
variable {pp : Nat → Option PFn} {m r0 ix an : Nat} {T T1 : PEnv} {S B S1 : PSt} {l : List PSeen} {R : PEnv × PSt} {names : List Nat} {ds : List PDStep} {d : Option Nat} {v : V}
theorem Dr.nil : Dr pp r0 [] T S B l (T, S) := ⟨0, rfl⟩
theorem Dr.p {q : POp} (h : q.run (prestr T names) S = some (v, S1)) (k : Dr pp r0 ds (psetDst d v T) S B l R) : Dr pp r0 (⟨ix, .p, .op d none q, names, an⟩ :: ds) T S B l R := by
  obtain ⟨n, k⟩ := k
  refine ⟨n, ?_⟩
  unfold pexecDraw
  simp only [prunOp, pguardOk, h]
  exact k
theorem Dr.q {q : POp} (h : q.run (prestr T names) B = some (v, S1)) (k : Dr pp r0 ds (psetDst d v T) S B (⟨ix, prestr T names, .op d none q, v⟩ :: l) R) : Dr pp r0 (⟨ix, .q, .op d none q, names, an⟩ :: ds) T S B l R := by
  obtain ⟨n, k⟩ := k
  refine ⟨n, ?_⟩
  unfold pexecDraw
  simp only [prunOp, pguardOk, h]
  exact k
theorem Dr.a {q : POp} (hr : S.heap (r0 + ix) = none ∧ r0 + ix < S.next) (h : q.run (prestr T names) ⟨S.heap, r0 + ix⟩ = some (v, S1)) (k : Dr pp r0 ds (psetDst d v T) ⟨S1.heap, S.next⟩ B l R) : Dr pp r0 (⟨ix, .a, .op d none q, names, an⟩ :: ds) T S B l R := by
  obtain ⟨n, k⟩ := k
  refine ⟨n, ?_⟩
  unfold pexecDraw
  simp only [prunOp, pguardOk, h]
  rw [if_pos hr]
  exact k
/-- What has been read is read so again. -/
def Again (a : Nat) (S : PSt) (l : List PSeen) : Prop := ∀ c, precheck c a S l
theorem Dr.i {f : POpd} {args : List POpd} {j : Nat} {caps vs : List V} (hf : pev (prestr T names) f = some (.fn j caps)) (ha : pevs (prestr T names) args = some vs)
    (h : Cl pp j (vs ++ caps) S (v, S1)) (hp : Again an S1 l) (k : Dr pp r0 ds (psetDst d v T) S1 S1 l R) : Dr pp r0 (⟨ix, .i, .call d none f args, names, an⟩ :: ds) T S B l R := by
  obtain ⟨n, h⟩ := h
  obtain ⟨n', k⟩ := k
  refine ⟨n + n', ?_⟩
  have h1 := pcallFn_mono (pp := pp) (pexec_mono pp (Nat.le_add_right n n')) _ _ _ _ h
  have k1 := pexecDraw_mono (pcallFn_mono (pp := pp) (pexec_mono pp (Nat.le_add_left n' n))) k
  unfold pexecDraw
  simp only [prunOp, pguardOk, hf, ha, h1]
  rw [if_pos (hp _)]
  exact k1
theorem Dr.io {q : POp} (h : q.run (prestr T names) S = some (v, S1)) (hp : Again an S1 l) (k : Dr pp r0 ds (psetDst d v T) S1 S1 l R) : Dr pp r0 (⟨ix, .i, .op d none q, names, an⟩ :: ds) T S B l R := by
  obtain ⟨n, k⟩ := k
  refine ⟨n, ?_⟩
  unfold pexecDraw
  simp only [prunOp, pguardOk, h]
  rw [if_pos (hp _)]
  exact k
theorem Ex.draw {k : Nat} (h : Dr pp S.next ds T ⟨S.heap, S.next + k⟩ ⟨S.heap, S.next + k⟩ [] (T1, S1)) : Ex pp m (.draw k ds) T S (.normal, pflush m T1, S1) := by
  obtain ⟨n, h⟩ := h
  refine ⟨n + 1, ?_⟩
  rw [pexec_draw, h]
theorem Again.nil : Again an S [] := fun _ => trivial
theorem Again.anc {e : PSeen} (h : Nat.testBit an e.idx = true) (k : Again an S l) : Again an S (e :: l) := fun c => ⟨.inl h, k c⟩
theorem Again.op {T' : PEnv} {q : POp} (h : q.run T' S = some (v, S1)) (k : Again an S l) : Again an S (⟨ix, T', .op d none q, v⟩ :: l) := fun c => ⟨.inr ⟨S1, by simp only [prunOp, pguardOk, h]⟩, k c⟩
theorem Cl.body1 {f : Nat} {c : PCode} {res : List ARes} {args : List V} {e : AExit} (hf : pp f = some (.body m c res)) (h : Ex pp m c (pflush m (pargs args 0)) S (e, T1, S1)) (he : ∀ id, e ≠ .exit id) (hr : presVals T1 S1 res = some [v]) :
    Cl pp f args S (v, S1) := Cl.body hf h he hr
end
/-! ### the same rules, the way out open -/
inductive After (pp : Nat → Option PFn) (m : Nat) (b : PCode) : AExit × PEnv × PSt → AExit × PEnv × PSt → Prop
  | normal {T1 : PEnv} {S1 : PSt} {R : AExit × PEnv × PSt} (h : Ex pp m b T1 S1 R) : After pp m b (.normal, T1, S1) R
  | ret {T1 : PEnv} {S1 : PSt} : After pp m b (.ret, T1, S1) (.ret, T1, S1)
  | exit {T1 : PEnv} {S1 : PSt} {id : Nat} : After pp m b (.exit id, T1, S1) (.exit id, T1, S1)
inductive Out (id : Nat) : AExit × PEnv × PSt → AExit × PEnv × PSt → Prop
  | normal {T1 : PEnv} {S1 : PSt} : Out id (.normal, T1, S1) (.normal, T1, S1)
  | ret {T1 : PEnv} {S1 : PSt} : Out id (.ret, T1, S1) (.ret, T1, S1)
  | exit {T1 : PEnv} {S1 : PSt} : Out id (.exit id, T1, S1) (.normal, T1, S1)
  | out {T1 : PEnv} {S1 : PSt} {j : Nat} (h : j ≠ id) : Out id (.exit j, T1, S1) (.exit j, T1, S1)
inductive Rnd (pp : Nat → Option PFn) (m : Nat) (a : PCode) : AExit × PEnv × PSt → AExit × PEnv × PSt → Prop
  | normal {T1 : PEnv} {S1 : PSt} {R : AExit × PEnv × PSt} (h : Ex pp m (.loop a) T1 S1 R) : Rnd pp m a (.normal, T1, S1) R
  | ret {T1 : PEnv} {S1 : PSt} : Rnd pp m a (.ret, T1, S1) (.ret, T1, S1)
  | exit {T1 : PEnv} {S1 : PSt} {id : Nat} : Rnd pp m a (.exit id, T1, S1) (.exit id, T1, S1)
section
variable {pp : Nat → Option PFn} {m : Nat} {T : PEnv} {S : PSt} {a b : PCode} {r R : AExit × PEnv × PSt} {id : Nat}
theorem Ex.seqK (h : Ex pp m a T S r) (k : After pp m b r R) : Ex pp m (.seq a b) T S R := by
  cases k with
  | normal k => exact Ex.seq h k
  | ret => exact Ex.seqRet h
  | exit => exact Ex.seqExit h
theorem Ex.blockK (h : Ex pp m a T S r) (k : Out id r R) : Ex pp m (.block id a) T S R := by
  cases k with
  | normal => exact Ex.block h
  | ret => exact Ex.blockRet h
  | exit => exact Ex.blockExit h
  | out k => exact Ex.blockOut k h
theorem Ex.loopK (h : Ex pp m a T S r) (k : Rnd pp m a r R) : Ex pp m (.loop a) T S R := by
  cases k with
  | normal k => exact Ex.loop h k
  | ret => exact Ex.loopRet h
  | exit => exact Ex.loopExit h
theorem Ex.condT {c : POpd} (hv : pev T c = some (.bool true)) (h : Ex pp m a T S R) : Ex pp m (.cond c a b) T S R := Ex.cond hv (fun _ => h) (fun e => by cases e)
theorem Ex.condF {c : POpd} (hv : pev T c = some (.bool false)) (h : Ex pp m b T S R) : Ex pp m (.cond c a b) T S R := Ex.cond hv (fun e => by cases e) (fun _ => h)
end
/-! ### the slots, laid out -/
inductive Norm : PEnv → PEnv → Prop
  | nil : Norm [] []
  | cons {k : Nat} {v : V} {r r' : PEnv} (h : Norm r r') : Norm ((k, v) :: r) ((k, v) :: r')
theorem Norm.eq {T T' : PEnv} (h : Norm T T') : T = T' := by
  induction h with
  | nil => rfl
  | cons _ ih => rw [ih]
section
variable {pp : Nat → Option PFn} {m : Nat} {T T1 T2 : PEnv} {S S1 : PSt}
theorem Ex.regionN {ops : List POper} (h : Ops pp ops T S (T1, S1)) (e : Norm (pflush m T1) T2) : Ex pp m (.region ops) T S (.normal, T2, S1) := by
  rw [← e.eq]; exact Ex.region h
theorem Ops.opS {d : Option Nat} {q : POp} {r : List POper} {v : V} {R : PEnv × PSt} (h : q.run T S = some (v, S1)) (e : Norm (psetDst d v T) T2) (k : Ops pp r T2 S1 R) : Ops pp (.op d none q :: r) T S R := by
  rw [← e.eq] at k; exact Ops.op h k
theorem Ops.callS {d : Option Nat} {g : Option (Nat × Bool)} {f : POpd} {args : List POpd} {r : List POper} {j : Nat} {caps vs : List V} {v : V} {R : PEnv × PSt} (hg : pguardOk g T = some true) (hf : pev T f = some (.fn j caps)) (ha : pevs T args = some vs)
    (h : Cl pp j (vs ++ caps) S (v, S1)) (e : Norm (psetDst d v T) T2) (k : Ops pp r T2 S1 R) : Ops pp (.call d g f args :: r) T S R := by
  rw [← e.eq] at k; exact Ops.call hg hf ha h k
theorem Cl.bodyS {f : Nat} {c : PCode} {res : List ARes} {args l : List V} {e : AExit} {v : V} (hf : pp f = some (.body m c res)) (hn : Norm (pflush m (pargs args 0)) T) (h : Ex pp m c T S (e, T1, S1)) (he : ∀ id, e ≠ .exit id) (hr : presVals T1 S1 res = some l) (hv : poneOf l = v) :
    Cl pp f args S (v, S1) := by
  rw [← hn.eq] at h
  rw [← hv]; exact Cl.body hf h he hr
variable {r0 ix an : Nat} {B : PSt} {l : List PSeen} {R : PEnv × PSt} {names : List Nat} {ds : List PDStep} {d : Option Nat} {v : V} {T3 : PEnv}
theorem Dr.pS {q : POp} (hn : Norm (prestr T names) T3) (h : q.run T3 S = some (v, S1)) (e : Norm (psetDst d v T) T2) (k : Dr pp r0 ds T2 S B l R) : Dr pp r0 (⟨ix, .p, .op d none q, names, an⟩ :: ds) T S B l R := by
  rw [← hn.eq] at h
  rw [← e.eq] at k; exact Dr.p h k
theorem Dr.qS {q : POp} (hn : Norm (prestr T names) T3) (h : q.run T3 B = some (v, S1)) (e : Norm (psetDst d v T) T2) (k : Dr pp r0 ds T2 S B (⟨ix, T3, .op d none q, v⟩ :: l) R) : Dr pp r0 (⟨ix, .q, .op d none q, names, an⟩ :: ds) T S B l R := by
  rw [← hn.eq] at h k
  rw [← e.eq] at k; exact Dr.q h k
theorem Dr.aS {q : POp} (hn : Norm (prestr T names) T3) (hr1 : S.heap (r0 + ix) = none) (hr2 : Nat.ble (r0 + ix + 1) S.next = true) (h : q.run T3 ⟨S.heap, r0 + ix⟩ = some (v, S1)) (e : Norm (psetDst d v T) T2) (k : Dr pp r0 ds T2 ⟨S1.heap, S.next⟩ B l R) : Dr pp r0 (⟨ix, .a, .op d none q, names, an⟩ :: ds) T S B l R := by
  rw [← hn.eq] at h
  rw [← e.eq] at k; exact Dr.a ⟨hr1, Nat.le_of_ble_eq_true hr2⟩ h k
theorem Dr.iS {f : POpd} {args : List POpd} {j : Nat} {caps vs : List V} (hn : Norm (prestr T names) T3) (hf : pev T3 f = some (.fn j caps)) (ha : pevs T3 args = some vs)
    (h : Cl pp j (vs ++ caps) S (v, S1)) (hp : Again an S1 l) (e : Norm (psetDst d v T) T2) (k : Dr pp r0 ds T2 S1 S1 l R) : Dr pp r0 (⟨ix, .i, .call d none f args, names, an⟩ :: ds) T S B l R := by
  rw [← hn.eq] at hf ha
  rw [← e.eq] at k; exact Dr.i hf ha h hp k
theorem Dr.ioS {q : POp} (hn : Norm (prestr T names) T3) (h : q.run T3 S = some (v, S1)) (hp : Again an S1 l) (e : Norm (psetDst d v T) T2) (k : Dr pp r0 ds T2 S1 S1 l R) : Dr pp r0 (⟨ix, .i, .op d none q, names, an⟩ :: ds) T S B l R := by
  rw [← hn.eq] at h
  rw [← e.eq] at k; exact Dr.io h hp k
theorem Ex.drawN {k : Nat} {ds : List PDStep} (h : Dr pp S.next ds T ⟨S.heap, S.next + k⟩ ⟨S.heap, S.next + k⟩ [] (T1, S1)) (e : Norm (pflush m T1) T2) : Ex pp m (.draw k ds) T S (.normal, T2, S1) := by
  rw [← e.eq]; exact Ex.draw h
theorem Ops.opGS {d : Option Nat} {g : Nat × Bool} {q : POp} {r : List POper} {v : V} {R : PEnv × PSt} (hg : pguardOk (some g) T = some true) (h : q.run T S = some (v, S1)) (e : Norm (psetDst d v T) T2) (k : Ops pp r T2 S1 R) : Ops pp (.op d (some g) q :: r) T S R := by
  rw [← e.eq] at k; exact Ops.opG hg h k
theorem Ops.opNS {d : Option Nat} {g : Nat × Bool} {q : POp} {r : List POper} {R : PEnv × PSt} (hg : pguardOk (some g) T = some false) (e : Norm (psetDst d (.tup []) T) T2) (k : Ops pp r T2 S R) : Ops pp (.op d (some g) q :: r) T S R := by
  rw [← e.eq] at k; exact Ops.opN hg k
theorem Ops.callNS {d : Option Nat} {g : Nat × Bool} {f : POpd} {args : List POpd} {r : List POper} {R : PEnv × PSt} (hg : pguardOk (some g) T = some false) (e : Norm (psetDst d (.tup []) T) T2) (k : Ops pp r T2 S R) : Ops pp (.call d (some g) f args :: r) T S R := by
  rw [← e.eq] at k; exact Ops.callN hg k
end
end Go.Abs
