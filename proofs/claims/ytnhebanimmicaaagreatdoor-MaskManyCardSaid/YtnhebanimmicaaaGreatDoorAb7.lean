/- The abstract machine's operations, one by one: what each does, how it is made of the model's, and that the model follows. -/
import Derived.Test.YtnhebanimmicaaaGreatDoorAb6
import Derived.Lib.Bytealg
namespace Go.Abs

/-! ### constants and operands -/
def cvals (f : Value → Option AV) : List Value → Option (List AV)
  | [] => some []
  | v :: r => match f v with
    | none => none
    | some a => match cvals f r with
      | none => none
      | some l => some (a :: l)
noncomputable def cval : Nat → Value → Option AV
  | 0, _ => none
  | n + 1, v => match v with
    | .bool b => some (.bool b)
    | .int k n => some (mkInt k n)
    | .string s => some (mkStr s.size (enc s.data.toList))
    | .pointer none => some .nilptr
    | .slice none 0 0 => some .nilslice
    | .map none => some .nilmap
    | .nilFunc => some .nilfn
    | .nilIface => some .niliface
    | .agg vs => match vs.toList.all (·.oneCell') with
      | true => match cvals (cval n) vs.toList with
        | some l => some (.agg l)
        | none => none
      | false => none
    | _ => none

theorem cvals_ok {f : Value → Option AV} (μ : Mu) (hf : ∀ v a, f v = some a → VRel μ a v) : ∀ (l : List Value) (r : List AV), cvals f l = some r → VRels μ r l
  | [], r, h => by cases h; exact .nil
  | v :: l, r, h => by
    simp only [cvals] at h
    cases hv : f v with
    | none => rw [hv] at h; cases h
    | some a =>
      rw [hv] at h
      cases hl : cvals f l with
      | none => rw [hl] at h; cases h
      | some r' => rw [hl] at h; cases h; exact .cons (hf _ _ hv) (cvals_ok μ hf l r' hl)
theorem mkStr_rel (μ : Mu) (s : ByteArray) : VRel μ (mkStr s.size (enc s.data.toList)) (.string s) := by
  rw [mkStr_eq]
  · exact .str s _ _ rfl rfl
  · intro h
    have : s.data.toList = [] := by apply List.eq_nil_of_length_eq_zero; simpa using h
    rw [this]; rfl
theorem cval_ok (μ : Mu) : ∀ (n : Nat) (v : Value) (a : AV), cval n v = some a → VRel μ a v := by
  intro n
  induction n with
  | zero => intro v a h; cases h
  | succ n ih =>
    intro v a h
    unfold cval at h
    split at h
    · cases h; exact .bool _
    · cases h; rw [mkInt_eq]; exact .int _ _
    · cases h; exact mkStr_rel _ _
    · cases h; exact .nilptr
    · cases h; exact .nilslice
    · cases h; exact .nilmap
    · cases h; exact .nilfn
    · cases h; exact .niliface
    · split at h
      · rename_i hall
        split at h
        · rename_i l hl
          cases h
          exact .agg _ _ (cvals_ok μ ih _ _ hl) (List.all_eq_true.1 hall)
        · cases h
      · cases h
    · cases h

noncomputable def copd (x : Operand) : Option Opd :=
  match x with
  | .tmp n => some (.tmp n)
  | .const v => match cval 5 v with
    | some a => some (.const a)
    | none => none
  | .func f => some (.const (.fn f []))
  | .global _ => none

structure TRel (μ : Mu) (N : Nat) (t : Env) (tmps : Array Value) : Prop where
  size : N ≤ tmps.size
  get : ∀ j v, t.get j = some v → ∃ v', tmps[j]? = some v' ∧ VRel μ v v'
theorem TRel.mono {μ μ' : Mu} (h : μ.le μ') {N : Nat} {t : Env} {tmps : Array Value} (k : TRel μ N t tmps) : TRel μ' N t tmps :=
  ⟨k.size, fun j v hv => let ⟨v', a, b⟩ := k.get j v hv; ⟨v', a, b.mono h⟩⟩

theorem ev_ok {μ : Mu} {N : Nat} {t : Env} {a : Act} (h : TRel μ N t a.tmps) {x : Operand} {y : Opd} (hc : copd x = some y) {v : AV} (he : ev t y = some v) : VRel μ v (a.eval x) := by
  cases x with
  | tmp n =>
    cases hc
    obtain ⟨v', h1, h2⟩ := h.get n v he
    simpa [Act.eval, Array.getD_eq_getD_getElem?, h1] using h2
  | const c =>
    simp only [copd] at hc
    cases hv : cval 5 c with
    | none => rw [hv] at hc; cases hc
    | some b => rw [hv] at hc; cases hc; cases he; exact cval_ok μ 5 c _ hv
  | func f => cases hc; cases he; exact .fn f [] #[] .nil
  | global g => cases hc

noncomputable def copds : List Operand → Option (List Opd)
  | [] => some []
  | x :: r => match copd x with
    | none => none
    | some y => match copds r with
      | none => none
      | some l => some (y :: l)
theorem evs_ok {μ : Mu} {N : Nat} {t : Env} {a : Act} (h : TRel μ N t a.tmps) : ∀ {l : List Operand} {l' : List Opd} (_ : copds l = some l') {vs : List AV} (_ : evs t l' = some vs), VRels μ vs (l.map a.eval)
  | [], l', hc, vs, he => by cases hc; cases he; exact .nil
  | x :: r, l', hc, vs, he => by
    simp only [copds] at hc
    cases hx : copd x with
    | none => rw [hx] at hc; cases hc
    | some y =>
      rw [hx] at hc
      cases hr : copds r with
      | none => rw [hr] at hc; cases hc
      | some r' =>
        rw [hr] at hc; cases hc
        rw [evs_cons] at he
        cases h1 : ev t y with
        | none => rw [h1] at he; cases he
        | some v =>
          rw [h1] at he
          cases h2 : evs t r' with
          | none => rw [h2] at he; cases he
          | some vs' => rw [h2] at he; cases he; exact .cons (ev_ok h hx h1) (evs_ok h hr h2)

abbrev Run := Env → St → Option (AV × St)

/-- The model follows the operation. -/
def OpSound (P : Program) (o : Oper) (f : Run) : Prop :=
  ∀ (μ : Mu) (N : Nat) (t : Env) (s : St) (w : World) (a : Act) (v : AV) (s' : St), f t s = some (v, s') → TRel μ N t a.tmps → R μ s w → Free μ s.next s'.next →
    ∃ μ' nx w', (execOp a.eval o).run P w = .ok nx w' ∧ ((nx = .skip ∧ v = .tup []) ∨ ∃ v', nx = .value v' ∧ VRel μ' v v') ∧ R μ' s' w' ∧ Ext μ s w μ' s' w'

/-- An operation that yields a value and leaves memory alone. -/
theorem OpSound.pure_ {P : Program} {o : Oper} {f : Run} (h : ∀ (μ : Mu) (N : Nat) (t : Env) (s : St) (w : World) (a : Act) (v : AV) (s' : St), f t s = some (v, s') → TRel μ N t a.tmps → R μ s w →
    s' = s ∧ ∃ v', (execOp a.eval o).run P w = .ok (.value v') w ∧ VRel μ v v') : OpSound P o f := by
  intro μ N t s w a v s' hf ht hR _
  obtain ⟨rfl, v', h1, h2⟩ := h μ N t s w a v s' hf ht hR
  exact ⟨μ, _, w, h1, .inr ⟨v', rfl, h2⟩, hR, .refl _ _ _⟩

noncomputable def opMove (x : Opd) : Run := fun t s => match ev t x with
  | some v => some (v, s)
  | none => none
theorem opMove_ok {P : Program} {o : Oper} {x : Operand} {y : Opd} (ho : o.op = .move x ∨ o.op = .assign x) (hx : copd x = some y) : OpSound P o (opMove y) :=
  .pure_ fun μ N t s w a v s' hf ht _ => by
    unfold opMove at hf
    split at hf
    · rename_i v1 hv; cases hf
      exact ⟨rfl, a.eval x, by rcases ho with ho | ho <;> simp [execOp, ho], ev_ok ht hx hv⟩
    · cases hf

noncomputable def opPick (c x y : Opd) : Run := fun t s => match ev t c with
  | some (.bool b) => match b with
    | true => opMove x t s
    | false => opMove y t s
  | _ => none
theorem opPick_ok {P : Program} {o : Oper} {c x y : Operand} {c' x' y' : Opd} (ho : o.op = .pick c x y) (hc : copd c = some c') (hx : copd x = some x') (hy : copd y = some y') : OpSound P o (opPick c' x' y') :=
  .pure_ fun μ N t s w a v s' hf ht _ => by
    unfold opPick at hf
    split at hf
    · rename_i b hv
      have hb := ev_ok ht hc hv
      generalize he : a.eval c = vc at hb
      cases hb
      split at hf <;> unfold opMove at hf <;> split at hf
      · rename_i v1 hv1; cases hf
        exact ⟨rfl, a.eval x, by simp [execOp, ho, he, asBool], ev_ok ht hx hv1⟩
      · cases hf
      · rename_i v1 hv1; cases hf
        exact ⟨rfl, a.eval y, by simp [execOp, ho, he, asBool], ev_ok ht hy hv1⟩
      · cases hf
    · cases hf

noncomputable def opNilCheck (x : Opd) : Run := fun t s => match ev t x with
  | some (.ptr b o) => some (.ptr b o, s)
  | some (.fn f c) => some (.fn f c, s)
  | _ => none
theorem opNilCheck_ok {P : Program} {o : Oper} {x : Operand} {y : Opd} (ho : o.op = .nilCheck x) (hx : copd x = some y) : OpSound P o (opNilCheck y) :=
  .pure_ fun μ N t s w a v s' hf ht _ => by
    unfold opNilCheck at hf
    split at hf
    · rename_i b oo hv; cases hf
      have hb := ev_ok ht hx hv
      generalize he : a.eval x = vc at hb
      cases hb with
      | ptr b o c d e hm => exact ⟨rfl, _, by simp [execOp, ho, he], .ptr _ _ _ _ _ hm⟩
    · rename_i f c hv; cases hf
      have hb := ev_ok ht hx hv
      generalize he : a.eval x = vc at hb
      cases hb with
      | fn f caps vs h => exact ⟨rfl, _, by simp [execOp, ho, he], .fn _ _ _ h⟩
    · cases hf

/-! ### arithmetic -/
noncomputable def opBin (op : BinOp) (x y : Opd) : Run := fun t s => match ev t x with
  | some (.int k a) => match ev t y with
    | some (.int k' b) => match intBin op k a k' b with
      | some v => some (v, s)
      | none => none
    | _ => none
  | some (.str l a) => match ev t y with
    | some (.str l' b) => match strBin op l a l' b with
      | some v => some (v, s)
      | none => none
    | _ => none
  | some (.sym m md j) => match ev t y with
    | some (.int .i64 b) => match op with
      | .and => match eqI b m with
        | true => match eqI md 0 with
          | true => some (.int .i64 j, s)
          | false => some (.symR md j, s)
        | false => none
      | _ => none
    | _ => none
  | some (.symR md j) => match ev t y with
    | some (.int .i64 b) => match op with
      | .rem => match eqI b 0 with
        | true => none
        | false => match eqI b md with
          | true => some (.int .i64 j, s)
          | false => none
      | _ => none
    | _ => none
  | _ => none

theorem strBin_ok {op : BinOp} {x y : ByteArray} {v : AV} (h : strBin op x.size (enc x.data.toList) y.size (enc y.data.toList) = some v) (t : TypeId) (μ : Mu) :
    ∃ v', binOp op t (.string x) (.string y) = pure v' ∧ VRel μ v v' := by
  have hlx : x.data.toList.length = x.size := by simp
  have hly : y.data.toList.length = y.size := by simp
  have heq : strEq x.size (enc x.data.toList) y.size (enc y.data.toList) = (x.toList == y.toList) := by
    rw [bytes_toList, bytes_toList, ← strEq_eq, hlx, hly]
  have hlt : strLt x.size (enc x.data.toList) y.size (enc y.data.toList) = Op.bytesLess x.toList y.toList := by
    rw [bytes_toList, bytes_toList, ← strLt_eq, hlx, hly]
  unfold strBin at h
  cases op <;> simp only [binOp] at h ⊢
  case add =>
    split at h
    · rename_i hle
      have hle' : x.size + y.size ≤ 4611686018427387904 := Nat.le_of_ble_eq_true hle
      cases h
      have hmax : ¬ (((x.size + y.size : Nat) : Int) > IntKind.i64.max) := by
        have : IntKind.i64.max = 9223372036854775807 := by decide
        rw [this]; omega
      refine ⟨.string (x ++ y), by simp only [Op.stringOp, if_neg hmax], ?_⟩
      have he : Nat.add (Nat.mul (enc x.data.toList) (Nat.pow 256 y.size)) (enc y.data.toList) = enc (x ++ y).data.toList := by
        have : (x ++ y).data.toList = x.data.toList ++ y.data.toList := by simp
        rw [this, enc_append, hly]; rfl
      have hs : Nat.add x.size y.size = (x ++ y).size := by simp
      rw [he, hs]
      exact mkStr_rel _ _
    · cases h
  all_goals first
    | cases h; done
    | (cases h; simp only [mkBool_eq, heq, hlt]; exact ⟨_, rfl, .bool _⟩)

theorem opBin_ok {P : Program} {o : Oper} {op : BinOp} {tx ty : TypeId} {x y : Operand} {x' y' : Opd} (ho : o.op = .binOp op tx x y ty) (hx : copd x = some x') (hy : copd y = some y') : OpSound P o (opBin op x' y') :=
  .pure_ fun μ N t s w a v s' hf ht _ => by
    unfold opBin at hf
    split at hf
    · rename_i k n hv
      have hb := ev_ok ht hx hv
      generalize he : a.eval x = vc at hb
      cases hb
      split at hf
      · rename_i k' n' hv'
        have hb' := ev_ok ht hy hv'
        generalize he' : a.eval y = vc' at hb'
        cases hb'
        split at hf
        · rename_i r hr; cases hf
          obtain ⟨v', h1, h2⟩ := intBin_ok hr tx μ
          exact ⟨rfl, v', by simp only [execOp, ho, he, he', h1]; cases op <;> simp [eqGuard], h2⟩
        · cases hf
      · cases hf
    · rename_i l n hv
      have hb := ev_ok ht hx hv
      generalize he : a.eval x = vc at hb
      cases hb with | str s1 l n hl hb =>
      subst hl hb
      split at hf
      · rename_i l' n' hv'
        have hb' := ev_ok ht hy hv'
        generalize he' : a.eval y = vc' at hb'
        cases hb' with | str s2 l' n' hl' hb' =>
        subst hl' hb'
        split at hf
        · rename_i r hr; cases hf
          obtain ⟨v', h1, h2⟩ := strBin_ok hr tx μ
          exact ⟨rfl, v', by simp only [execOp, ho, he, he', h1]; cases op <;> simp [eqGuard], h2⟩
        · cases hf
      · cases hf
    · rename_i m md j hv
      have hb := ev_ok ht hx hv
      generalize he : a.eval x = vc at hb
      cases hb with | sym m md j n hj =>
      split at hf
      case h_2 => cases hf
      rename_i b hv'
      have hb' := ev_ok ht hy hv'
      generalize he' : a.eval y = vc' at hb'
      cases hb'
      split at hf
      case h_2 => cases hf
      split at hf
      case h_2 => cases hf
      rename_i hbm
      rw [eqI_eq, beq_iff_eq] at hbm
      subst hbm
      obtain ⟨v', h1, h2⟩ := intBin_ok (op := .and) (k := .i64) (a := n) (k' := .i64) (b := b) (v := mkInt .i64 (andI n b)) rfl tx μ
      rw [mkInt_eq] at h2
      cases h2
      have run : ∀ w, (execOp a.eval o).run P w = .ok (.value (.int .i64 (andI n b))) w := fun w => by simp [execOp, ho, he, he', h1, eqGuard]
      split at hf
      · rename_i hz
        rw [eqI_eq, beq_iff_eq] at hz
        subst hz
        cases hf
        rw [Int.tmod_zero] at hj
        subst hj
        exact ⟨rfl, _, run w, .int _ _⟩
      · cases hf
        exact ⟨rfl, _, run w, .symR _ _ _ hj⟩
    · rename_i md j hv
      have hb := ev_ok ht hx hv
      generalize he : a.eval x = vc at hb
      cases hb with | symR md j n hj =>
      split at hf
      case h_2 => cases hf
      rename_i b hv'
      have hb' := ev_ok ht hy hv'
      generalize he' : a.eval y = vc' at hb'
      cases hb'
      split at hf
      case h_2 => cases hf
      split at hf
      · cases hf
      rename_i hz
      split at hf
      case h_2 => cases hf
      rename_i hbm
      rw [eqI_eq, beq_iff_eq] at hbm
      subst hbm
      cases hf
      obtain ⟨v', h1, h2⟩ := intBin_ok (op := .rem) (k := .i64) (a := n) (k' := .i64) (b := b) (v := mkInt .i64 (n.tmod b)) (by simp only [intBin, hz]; rfl) tx μ
      rw [mkInt_eq] at h2
      cases h2
      subst hj
      exact ⟨rfl, _, by simp [execOp, ho, he, he', h1, eqGuard], .int _ _⟩
    · cases hf

/-- '==' | '!=' of bools. -/
noncomputable def opEqB (neg : Bool) (x y : Opd) : Run := fun t s => match ev t x with
  | some (.bool a) => match ev t y with
    | some (.bool b) => match a, b, neg with
      | true, true, false => some (.bool true, s)
      | true, true, true => some (.bool false, s)
      | false, false, false => some (.bool true, s)
      | false, false, true => some (.bool false, s)
      | true, false, false => some (.bool false, s)
      | true, false, true => some (.bool true, s)
      | false, true, false => some (.bool false, s)
      | false, true, true => some (.bool true, s)
    | _ => none
  | _ => none
theorem run_equal_bool {P : Program} {t : TypeId} (hu : P.underlying t = some .bool) (a b : Bool) (w : World) : (Op.equal t (.bool a) (.bool b)).run P w = .ok (a == b) w := by
  unfold Op.equal
  rw [show Op.maxDepth = 9999 + 1 from rfl, Op.equalIn]
  simp only [Sem.run_bind, run_underlying hu, Result.andThen_ok, Sem.run_pure]
theorem run_binOp_eqB {P : Program} {t : TypeId} (hu : P.underlying t = some .bool) (neg : Bool) (a b : Bool) (w : World) :
    (binOp (if neg then .neq else .eql) t (.bool a) (.bool b)).run P w = .ok (.bool (if neg then !(a == b) else (a == b))) w := by
  cases neg
  · show (do pure (Value.bool (← Op.equal t (.bool a) (.bool b))) : Sem Value).run P w = _
    rw [Sem.run_bind, run_equal_bool hu]; rfl
  · show (do pure (Value.bool (!(← Op.equal t (.bool a) (.bool b)))) : Sem Value).run P w = _
    rw [Sem.run_bind, run_equal_bool hu]; rfl
theorem run_guard_plain {P : Program} {op : BinOp} {t : TypeId} {x y : Operand} {a b : Value} (h : (∀ l, a ≠ .agg l) ∧ a ≠ .nilIface) (w : World) : (eqGuard op t x y a b).run P w = .ok () w := by
  cases a <;> first
    | exact absurd rfl h.2
    | exact absurd rfl (h.1 _)
    | (cases op <;> rfl)
theorem opEqB_ok {P : Program} {o : Oper} {tx ty : TypeId} {x y : Operand} {x' y' : Opd} {neg : Bool} (ho : o.op = .binOp (if neg then .neq else .eql) tx x y ty) (hu : P.underlying tx = some .bool)
    (hx : copd x = some x') (hy : copd y = some y') : OpSound P o (opEqB neg x' y') :=
  .pure_ fun μ N t s w a v s' hf ht _ => by
    unfold opEqB at hf
    split at hf
    · rename_i b1 hv
      have hb := ev_ok ht hx hv
      generalize he : a.eval x = vc at hb
      cases hb
      split at hf
      · rename_i b2 hv'
        have hb' := ev_ok ht hy hv'
        generalize he' : a.eval y = vc' at hb'
        cases hb'
        have hrun : (execOp a.eval o).run P w = .ok (.value (.bool (if neg then !(b1 == b2) else (b1 == b2)))) w := by
          simp only [execOp, ho, he, he', Sem.run_bind, run_guard_plain (a := .bool b1) ⟨fun _ => nofun, nofun⟩, Result.andThen_ok, run_binOp_eqB hu, Sem.run_pure]
        cases neg <;> cases b1 <;> cases b2 <;> cases hf <;> exact ⟨rfl, .bool _, hrun, .bool _⟩
      · cases hf
    · cases hf

noncomputable def opNot (x : Opd) : Run := fun t s => match ev t x with
  | some (.bool b) => match b with
    | true => some (.bool false, s)
    | false => some (.bool true, s)
  | _ => none
theorem opNot_ok {P : Program} {o : Oper} {tx : TypeId} {x : Operand} {x' : Opd} (ho : o.op = .unOp .not tx x) (hx : copd x = some x') : OpSound P o (opNot x') :=
  .pure_ fun μ N t s w a v s' hf ht _ => by
    unfold opNot at hf
    split at hf
    · rename_i b hv
      have hb := ev_ok ht hx hv
      generalize he : a.eval x = vc at hb
      cases hb
      cases b <;> cases hf <;> exact ⟨rfl, .bool _, by simp [execOp, ho, he, Op.unary], .bool _⟩
    · cases hf

noncomputable def opNeg (x : Opd) : Run := fun t s => match ev t x with
  | some (.int k n) => some (mkInt k (wrapF k (0 - n)), s)
  | _ => none
theorem opNeg_ok {P : Program} {o : Oper} {tx : TypeId} {x : Operand} {x' : Opd} (ho : o.op = .unOp .neg tx x) (hx : copd x = some x') : OpSound P o (opNeg x') :=
  .pure_ fun μ N t s w a v s' hf ht _ => by
    unfold opNeg at hf
    split at hf
    · rename_i k n hv
      have hb := ev_ok ht hx hv
      generalize he : a.eval x = vc at hb
      cases hb; cases hf
      rw [mkInt_eq, wrapF_eq]
      exact ⟨rfl, _, by simp only [execOp, ho, he, Op.unary, Op.intArith]; rfl, .int _ _⟩
    · cases hf

noncomputable def opConv (k : IntKind) (x : Opd) : Run := fun t s => match ev t x with
  | some (.int _ n) => some (mkInt k (wrapF k n), s)
  | _ => none
theorem opConv_ok {P : Program} {o : Oper} {src dst : TypeId} {x : Operand} {x' : Opd} {d : TypeDesc} {k : IntKind} (ho : o.op = .convert src dst x) (hs : P.underlying src = some d) (hu : P.underlying dst = some (.int k))
    (hx : copd x = some x') : OpSound P o (opConv k x') :=
  .pure_ fun μ N t s w a v s' hf ht _ => by
    unfold opConv at hf
    split at hf
    · rename_i k' n hv
      have hb := ev_ok ht hx hv
      generalize he : a.eval x = vc at hb
      cases hb; cases hf
      rw [mkInt_eq, wrapF_eq]
      refine ⟨rfl, .int k (k.wrap n), ?_, .int _ _⟩
      simp only [execOp, ho, he, convert, Sem.run_bind, run_underlying hs, run_underlying hu, Result.andThen_ok]
      cases d <;> rfl
    · cases hf

noncomputable def opConvStr (x : Opd) : Run := fun t s => match ev t x with
  | some (.str l n) => some (.str l n, s)
  | _ => none
theorem opConvStr_ok {P : Program} {o : Oper} {src dst : TypeId} {x : Operand} {x' : Opd} (ho : o.op = .convert src dst x) (hs : P.underlying src = some .string) (hu : P.underlying dst = some .string)
    (hx : copd x = some x') : OpSound P o (opConvStr x') :=
  .pure_ fun μ N t s w a v s' hf ht _ => by
    unfold opConvStr at hf
    split at hf
    · rename_i l n hv
      have hb := ev_ok ht hx hv
      generalize he : a.eval x = vc at hb
      cases hb with | str s1 l n hl hb =>
      cases hf
      exact ⟨rfl, _, by simp only [execOp, ho, he, convert, Sem.run_bind, run_underlying hs, run_underlying hu, Result.andThen_ok]; rfl, .str s1 l n hl hb⟩
    · cases hf

noncomputable def opExtract (x : Opd) (i : Nat) : Run := fun t s => match ev t x with
  | some (.tup l) => match l[i]? with
    | some v => some (v, s)
    | none => none
  | _ => none
theorem opExtract_ok {P : Program} {o : Oper} {x : Operand} {x' : Opd} {i : Nat} (ho : o.op = .extract x i) (hx : copd x = some x') : OpSound P o (opExtract x' i) :=
  .pure_ fun μ N t s w a v s' hf ht _ => by
    unfold opExtract at hf
    split at hf
    · rename_i l hv
      have hb := ev_ok ht hx hv
      generalize he : a.eval x = vc at hb
      cases hb with | tup l vs h =>
      split at hf
      · rename_i v1 hv1; cases hf
        obtain ⟨v', h1, h2⟩ := h.get i _ hv1
        have h1' : vs[i]? = some v' := by simpa using h1
        exact ⟨rfl, v', by simp [execOp, ho, he, Instr.extract, h1'], h2⟩
      · cases hf
    · cases hf

noncomputable def opMkfn (f : Nat) (caps : List Opd) : Run := fun t s => match evs t caps with
  | some l => some (.fn f l, s)
  | none => none
theorem opMkfn_ok {P : Program} {o : Oper} {f : Nat} {caps : Array Operand} {caps' : List Opd} (ho : o.op = .makeFunc (.func f) #[] caps) (hx : copds caps.toList = some caps') : OpSound P o (opMkfn f caps') :=
  .pure_ fun μ N t s w a v s' hf ht _ => by
    unfold opMkfn at hf
    split at hf
    · rename_i l hl; cases hf
      have := evs_ok ht hx hl
      exact ⟨rfl, .func (.func f) #[] (caps.map a.eval), by simp [execOp, ho, Instr.makeFunc], .fn _ _ _ (by simpa using this)⟩
    · cases hf

noncomputable def opIface (ti : Nat) (x : Opd) : Run := fun t s => match ev t x with
  | some v => some (.iface ti v, s)
  | none => none
theorem opIface_ok {P : Program} {o : Oper} {ti : TypeId} {x : Operand} {x' : Opd} {d : TypeDesc} (ho : o.op = .makeInterface ti x) (hu : P.underlying ti = some d) (hd : ∀ ms, d ≠ .interface ms) (hx : copd x = some x') :
    OpSound P o (opIface ti x') :=
  .pure_ fun μ N t s w a v s' hf ht _ => by
    unfold opIface at hf
    split at hf
    · rename_i v1 hv; cases hf
      refine ⟨rfl, .iface ti (a.eval x), ?_, .iface _ _ _ (ev_ok ht hx hv)⟩
      simp only [execOp, ho, Instr.makeInterface, Sem.run_bind, run_underlying hu, Result.andThen_ok]
      cases d <;> first | rfl | (rename_i ms; exact absurd rfl (hd ms))
    · cases hf

/-! ### strings -/
noncomputable def opIndexStr (x i : Opd) : Run := fun t s => match ev t x with
  | some (.str l n) => match ev t i with
    | some (.int _ j) => match j with
      | .ofNat j => match Nat.blt j l with
        | true => some (.int .u8 (.ofNat (litN (Nat.mod (Nat.div n (Nat.pow 256 (Nat.sub (Nat.sub l 1) j))) 256))), s)
        | false => none
      | .negSucc _ => none
    | _ => none
  | _ => none
theorem opIndexStr_ok {P : Program} {o : Oper} {tx : TypeId} {x i : Operand} {x' i' : Opd} (ho : o.op = .index tx x i) (hu : P.underlying tx = some .string) (hx : copd x = some x') (hi : copd i = some i') :
    OpSound P o (opIndexStr x' i') :=
  .pure_ fun μ N t s w a v s' hf ht _ => by
    unfold opIndexStr at hf
    split at hf
    case h_2 => cases hf
    rename_i l n hv
    have hb := ev_ok ht hx hv
    generalize he : a.eval x = vc at hb
    cases hb with | str s1 l n hl hb =>
    subst hl hb
    split at hf
    case h_2 => cases hf
    rename_i k j hv'
    have hb' := ev_ok ht hi hv'
    generalize he' : a.eval i = vc' at hb'
    cases hb'
    split at hf
    case h_2 => cases hf
    rename_i j
    split at hf
    case h_2 => cases hf
    rename_i hlt
    have hlt' : j < s1.size := by simpa [Nat.blt_eq] using hlt
    cases hf
    have hl : j < s1.data.toList.length := by simpa using hlt'
    have hg := enc_get s1.data.toList j hl
    have hlen : s1.data.toList.length = s1.size := by simp
    rw [hlen] at hg
    have hs : s1[j]? = some s1.data.toList[j] := by
      rw [getElem?_pos s1 j hlt']; rfl
    refine ⟨rfl, .int .u8 (s1.data.toList[j]).toNat, ?_, ?_⟩
    · have h0 : (0 : Int) ≤ Int.ofNat j := Int.natCast_nonneg j
      simp only [execOp, ho, he, he', Instr.index, asIntOf, Sem.run_bind, Sem.run_pure, Result.andThen_ok, run_underlying hu, if_pos h0]
      rw [show (Int.ofNat j).toNat = j from rfl, hs]
      rfl
    · rw [litN_eq]
      have e : Nat.mod (Nat.div (enc s1.data.toList) (Nat.pow 256 (Nat.sub (Nat.sub s1.size 1) j))) 256 = (s1.data.toList[j]).toNat := hg.symm
      rw [e]
      exact .int _ _

end Go.Abs
