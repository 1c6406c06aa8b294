/- The model follows one operation of the abstract machine's, calls among them; a list of operations. -/
import Derived.Test.YtnhebanimmicaaaGreatDoorAb13
namespace Go.Abs

/-- No place is taken from there on. -/
def FreeUp (μ : Mu) (n : Pos) : Prop := ∀ p, n.toNat ≤ p.toNat → μ p = none
theorem FreeUp.free {μ : Mu} {n k : Pos} (h : FreeUp μ n) : Free μ n k := fun p a _ => h p a
theorem FreeUp.ext {μ μ' : Mu} {s s' : St} {w w' : World} (h : FreeUp μ s.next) (e : Ext μ s w μ' s' w') : FreeUp μ' s'.next := fun p a => by
  rw [e.mu p (.inr a)]; exact h p (Nat.le_trans e.next a)

/-- The model follows a call. -/
def CallOk (P : Program) (call : CallF) : Prop :=
  ∀ (f : Nat) (args : List AV) (s : St) (v : AV) (s' : St) (μ : Mu) (w : World) (args' : Array Value) (o : Oper) (a : Act) (K : Act → World → Prop) (Q : Exit → Act → World → Prop),
    call f args s = some (v, s') → VRels μ args args'.toList → R μ s w → FreeUp μ s.next →
    (∀ μ' v' w', VRel μ' v v' → R μ' s' w' → Ext μ s w μ' s' w' → K (a.put o.dst v') w') → o.upon P a K Q ((callFunc f args').run P w)

theorem guard_ok {ops : Array Oper} {o : Oper} {g : Option (Nat × Bool)} (hc : cguard ops o.guard = some g) {μ : Mu} {N : Nat} {t : Env} {a : Act} (ht : TRel μ N t a.tmps) {b : Bool} (hg : guardOk g t = some b) :
    Region.wanted o (yielded ops a.tmps) = b := by
  unfold cguard at hc
  split at hc
  · rename_i hn
    cases hc; cases hg
    unfold Region.wanted; rw [hn]
  · rename_i j want hn
    split at hc
    case h_2 => cases hc
    rename_i d hd
    cases hc
    unfold guardOk at hg
    split at hg
    case h_1 h => cases h
    rename_i p w2 heq
    cases heq
    have key : ∀ v, t.get d = some v → ∃ v', a.tmps[d]? = some v' ∧ VRel μ v v' := fun v hv => ht.get d v hv
    unfold Region.wanted
    rw [hn]
    simp only [yielded, hd, Option.bind_some]
    split at hg
    · cases hg
    rename_i u hu
    obtain ⟨v', h1, h2⟩ := key _ hu
    rw [h1]
    unfold guardV at hg
    split at hg
    · rename_i bb
      cases h2
      cases bb <;> cases hg <;> first
        | (cases want <;> rfl)
        | (cases b <;> rfl)
    · rename_i l
      cases h2 with | tup l vs h =>
      cases l with
      | nil => cases hg; rfl
      | cons x l => cases hg
    · cases hg

theorem TRel.put {μ : Mu} {N : Nat} {t : Env} {a : Act} (ht : TRel μ N t a.tmps) {od : Option Tmp} {d : Option Nat} (hd : cdst N od = some d) {v : AV} {v' : Value} (hv : VRel μ v v') : TRel μ N (setDst d v t) (a.put od v').tmps := by
  cases od with
  | none => cases hd; exact ht
  | some n =>
    cases hlt : Nat.blt n N with
    | false => simp only [cdst, hlt] at hd; cases hd
    | true =>
    have hlt' : n < N := by simpa [Nat.blt_eq] using hlt
    simp only [cdst, hlt] at hd
    cases hd
    refine ⟨by simp [Act.put]; exact ht.size, fun j u hj => ?_⟩
    simp only [setDst] at hj
    rw [Env.get_bind] at hj
    split at hj
    · rename_i e
      cases hj
      have : n < a.tmps.size := Nat.lt_of_lt_of_le hlt' ht.size
      rw [← e]
      exact ⟨v', by simp [Act.put, this], hv⟩
    · rename_i e
      obtain ⟨u', h1, h2⟩ := ht.get j u hj
      have hne : n ≠ j := e
      exact ⟨u', by simp only [Act.put]; rw [Array.getElem?_setIfInBounds_ne hne]; exact h1, h2⟩

theorem execOp_call {P : Program} {o : Oper} {f : Operand} {args : Array Operand} {ts : Array TypeId} (ho : o.op = .call { callee := .value f, args, argTypes := ts }) {a : Act} {w : World} {g : FuncId} {caps : Array Value} (hf : a.eval f = .func (.func g) #[] caps) :
    (execOp a.eval o).run P w = (callFunc g (args.map a.eval ++ caps)).run P w := by
  simp only [execOp, ho, resolve, hf, Deferred.ofValue, Sem.run_bind, Sem.run_pure, Result.andThen_ok, invoke]
  simp

theorem runOp_ok {P : Program} {call : CallF} (hcall : CallOk P call) {N : Nat} {ops : Array Oper} {i : Nat} {o : Oper} (hio : ops[i]? = some o) {ao : AOper} (hc : coper P N ops o = some ao) {μ : Mu} {t : Env} {s s' : St} {w : World} {a : Act} {v : AV}
    (hr : runOp call ao t s = some (v, s')) (ht : TRel μ N t a.tmps) (hR : R μ s w) (hF : Free μ s.next s'.next) (hU : ∀ d g f l, ao = .call d g f l → FreeUp μ s.next) {K : Act → World → Prop} {Q : Exit → Act → World → Prop}
    (hK : ∀ μ' v' w', VRel μ' v v' → R μ' s' w' → Ext μ s w μ' s' w' → K (a.put o.dst v') w') : wpOp P ops Q i K a w := by
  unfold wpOp
  rw [hio]
  unfold coper at hc
  split at hc
  case h_1 => cases hc
  rename_i d hd
  split at hc
  case h_1 => cases hc
  rename_i g hg
  have skip : guardOk g t = some false → (some (AV.tup [], s) : Option (AV × St)) = some (v, s') →
      (if Region.wanted o (yielded ops a.tmps) = true then o.wp P a w K Q ∨ (o.asks P a w ∧ LetsOut Q) else K (a.put o.dst undef) w) := by
    intro h1 h2
    cases h2
    rw [guard_ok hg ht h1]
    exact hK μ undef w (.tup [] #[] .nil) hR (.refl _ _ _)
  simp only
  split at hc
  · rename_i f args ts heq
    split at hc
    case h_2 => cases hc
    rename_i f' hf
    split at hc
    case h_2 => cases hc
    rename_i l hl
    cases hc
    simp only [runOp] at hr
    split at hr
    · cases hr
    · rename_i hgd; exact skip hgd hr
    · rename_i hgd
      rw [guard_ok hg ht hgd, if_pos rfl]
      refine .inl ?_
      split at hr
      case h_2 => cases hr
      rename_i fn caps hfv
      split at hr
      case h_2 => cases hr
      rename_i vs hvs
      have hfn := ev_ok ht hf hfv
      generalize hfe : a.eval f = fv at hfn
      cases hfn with | fn fn caps cvs hcv =>
      have hav := evs_ok ht hl hvs
      unfold Oper.wp
      rw [execOp_call heq hfe]
      refine hcall fn (vs ++ caps) s v s' μ w (args.map a.eval ++ cvs) o a K Q hr ?_ hR (hU _ _ _ _ rfl) hK
      rw [Array.toList_append, Array.toList_map]
      exact hav.append hcv
  · cases hc
    simp only [runOp] at hr
    split at hr
    · cases hr
    · rename_i hgd
      rw [guard_ok hg ht hgd, if_pos rfl]
      refine .inl ?_
      obtain ⟨μ', nx, w', h1, h2, h3, h4⟩ := copT_ok (P := P) (o := o) μ N t s w a v s' hr ht hR hF
      unfold Oper.wp
      rw [h1]
      rcases h2 with ⟨rfl, rfl⟩ | ⟨v', rfl, hv⟩
      · exact hK μ' undef w' (.tup [] #[] .nil) h3 h4
      · exact hK μ' v' w' hv h3 h4
    · rename_i hgd; exact skip hgd hr

theorem coper_dst {P : Program} {N : Nat} {ops : Array Oper} {o : Oper} {ao : AOper} (hc : coper P N ops o = some ao) : cdst N o.dst = some ao.dst := by
  unfold coper at hc
  split at hc
  case h_1 => cases hc
  rename_i d hd
  split at hc
  case h_1 => cases hc
  split at hc
  · split at hc
    · split at hc
      · cases hc; exact hd
      · cases hc
    · cases hc
  · cases hc; exact hd

/-! ### how 'next' moves -/
/-- An operation never takes positions back. -/
def NextUp (call : CallF) : Prop := ∀ f args s v s', call f args s = some (v, s') → s.next.toNat ≤ s'.next.toNat

theorem defers_put (a : Act) (d : Option Tmp) (v : Value) : (a.put d v).defers = a.defers := by cases d <;> rfl

end Go.Abs
