/- The model follows the machine: results, calls, code. -/
import Derived.Test.YtnhebanimmicaaaGreatDoorAb20
import Derived.LoopN
import Derived.Lib.Bytealg
namespace Go.Abs

theorem TRel.flush {μ : Mu} {N : Nat} {t : Env} {tmps : Array Value} (h : TRel μ N t tmps) : TRel μ N t.flush tmps := ⟨h.size, fun j v hv => h.get j v (Env.flush_get hv)⟩

/-! ### what a function hands back -/
def resOf (tmps : Array Value) : ResultVar → Sem Value
  | .tmp t => pure (tmps.getD t undef)
  | .cell a t => do loadVar t (← asAddr (tmps.getD a undef))

theorem results_eq (fn : Func) (tmps : Array Value) : results fn tmps = (do
    let vs ← fn.results.mapM (resOf tmps)
    pure (if h : vs.size = 1 then vs[0] else .tuple vs)) := rfl

theorem res_ok {P : Program} {N : Nat} {μ : Mu} {t : Env} {s : St} {w : World} {tmps : Array Value} (ht : TRel μ N t tmps) (hR : R μ s w) : ∀ {l : List ResultVar} {res : List ARes} {vs : List AV},
    cres P N l = some res → resVals t s res = some vs → ∃ vs', (l.mapM (resOf tmps)).run P w = .ok vs' w ∧ VRels μ vs vs'
  | [], res, vs, h, k => by
    cases h
    cases k
    exact ⟨[], rfl, .nil⟩
  | r :: l, res, vs, h, k => by
    unfold cres at h
    split at h
    · cases h
    rename_i x hx
    split at h
    case h_2 => cases h
    rename_i l' hl'
    cases h
    have k' : (match (match x with
      | .tmp p => t.get p
      | .cell1 p => match t.get p with
        | some (.ptr b o) => match s.heap.get b with
          | some (.cells c _ _) => c.get (Pos.of o)
          | _ => none
        | _ => none
      | .cellN p n => match t.get p with
        | some (.ptr b o) => match s.read b o n with
          | some l => some (.agg l)
          | none => none
        | _ => none) with
      | none => none
      | some v => match resVals t s l' with
        | none => none
        | some l => some (v :: l)) = some vs := k
    split at k'
    · cases k'
    rename_i v hv
    split at k'
    · cases k'
    rename_i vs0 hvs0
    cases k'
    obtain ⟨vs', h1, h2⟩ := res_ok ht hR hl' hvs0
    have one : ∃ v', (resOf tmps r).run P w = .ok v' w ∧ VRel μ v v' := by
      have slot : ∀ (j : Nat) u, t.get j = some u → VRel μ u (tmps.getD j undef) := fun j u hu => by
        obtain ⟨u', q1, q2⟩ := ht.get j u hu
        rw [Array.getD_eq_getD_getElem?, q1]
        exact q2
      cases r with
      | tmp j =>
        cases hx
        exact ⟨_, rfl, slot j v hv⟩
      | cell j ti =>
        simp only at hx
        split at hx
        · cases hx
        rename_i d hu
        split at hx
        · rename_i hd
          cases hx
          simp only at hv
          split at hv
          case h_2 => cases hv
          rename_i b o hp
          split at hv
          case h_2 => cases hv
          rename_i c n m hb
          have hp' := slot j _ hp
          generalize he : tmps.getD j undef = vc at hp'
          cases hp' with | ptr b o cb dd e hm =>
          obtain ⟨b', d', t', e1, e2⟩ := hR.blk _ _ hb
          rw [hm] at e1; cases e1
          obtain ⟨_, cs, et, hw, _, hc⟩ := e2
          obtain ⟨_, v', q1, q2, q3⟩ := hc o v hv
          refine ⟨v', ?_, q2⟩
          have hcell : w.cell? ⟨cb, dd + o, none⟩ = some v' := by simp [World.cell?, hw, q1]
          simp only [resOf, he, asAddr, loadVar, Sem.run_bind, Sem.run_pure, Result.andThen_ok, run_isAgg hu, hd]
          simp [hcell]
        · rename_i hd
          split at hx
          case h_2 => cases hx
          rename_i i hi
          cases hx
          simp only at hv
          split at hv
          case h_2 => cases hv
          rename_i b o hp
          split at hv
          case h_2 => cases hv
          rename_i l0 hl0
          cases hv
          have hp' := slot j _ hp
          generalize he : tmps.getD j undef = vc at hp'
          cases hp' with | ptr b o cb dd e hm =>
          obtain ⟨l1, q1, q2, q3, q4⟩ := read_ok hR hm hl0
          refine ⟨.agg l1.toArray, ?_, .agg _ _ q1 q4⟩
          have := run_loadVar_mid (P := P) w cb (dd + o) ti l1 d q3 hu hd (by rw [hi]; simp [q2])
          simp only [resOf, he, asAddr, Sem.run_bind, Sem.run_pure, Result.andThen_ok, this]
    obtain ⟨v', g1, g2⟩ := one
    refine ⟨v' :: vs', ?_, .cons g2 h2⟩
    rw [List.mapM_cons, Sem.run_bind, g1, Result.andThen_ok, Sem.run_bind, h1, Result.andThen_ok]
    rfl

def oneOf : List AV → AV
  | [v] => v
  | l => .tup l
theorem results_ok {P : Program} {N : Nat} {μ : Mu} {t : Env} {s : St} {w : World} {tmps : Array Value} (ht : TRel μ N t tmps) (hR : R μ s w) {fn : Func} {res : List ARes} {vs : List AV}
    (h : cres P N fn.results.toList = some res) (k : resVals t s res = some vs) :
    ∃ v', (results fn tmps).run P w = .ok v' w ∧ VRel μ (oneOf vs) v' := by
  obtain ⟨vs', h1, h2⟩ := res_ok ht hR h k
  rw [results_eq, Sem.run_bind, Array.mapM_eq_mapM_toList]
  refine ⟨if h : vs'.toArray.size = 1 then vs'.toArray[0] else .tuple vs'.toArray, ?_, ?_⟩
  · rw [show (List.toArray <$> fn.results.toList.mapM (resOf tmps)) = (do let x ← fn.results.toList.mapM (resOf tmps); pure x.toArray) from (map_eq_pure_bind _ _), Sem.run_bind, h1]
    rfl
  · cases h2 with
    | nil => exact .tup _ _ .nil
    | cons a b =>
      cases b with
      | nil => exact a
      | cons b c => exact .tup _ _ (.cons a (.cons b c))

/-! ### a region in the text's order -/
def exitOf : AExit → Exit
  | .normal => .normal
  | .exit id => .exit id
  | .ret => .ret

theorem ops_ok {P : Program} {N : Nat} {ops : Array Oper} {call : CallF} (hcall : CallOk P call) {Q : Exit → Act → World → Prop} {t' : Env} {s' : St} : ∀ {r : List Oper} {l : List AOper} {i : Nat} {t : Env} {s : St} {μ : Mu} {a : Act} {w : World},
    copers P N ops r = some l → (∀ j, r[j]? = ops[i + j]?) → execOps call l t s = some (t', s') → TRel μ N t a.tmps → R μ s w → FreeUp μ s.next →
    (∀ a' w' μ', TRel μ' N t' a'.tmps → R μ' s' w' → Ext μ s w μ' s' w' → a'.defers = a.defers → Q .normal a' w') → wpOps P ops Q (List.range' i r.length) a w
  | [], l, i, t, s, μ, a, w, hc, hr, hx, ht, hR, hU, hK => by
    cases hc
    cases hx
    exact hK a w μ ht hR (.refl _ _ _) rfl
  | o :: r, l, i, t, s, μ, a, w, hc, hr, hx, ht, hR, hU, hK => by
    unfold copers at hc
    split at hc
    · cases hc
    rename_i ao hao
    split at hc
    case h_2 => cases hc
    rename_i l' hl'
    cases hc
    have hx' : (match runOp call ao t s with
      | none => none
      | some (v, s1) => execOps call l' (setDst ao.dst v t) s1) = some (t', s') := hx
    split at hx'
    · cases hx'
    rename_i v s1 hrun
    rw [List.length_cons, List.range'_succ, wpOps_cons]
    refine runOp_ok hcall ((hr 0).symm) hao hrun ht hR hU.free (fun _ _ _ _ _ => hU) fun μ' v' w' hv hR' hE => ?_
    refine ops_ok hcall (i := i + 1) hl' (fun j => ?_) hx' ((ht.mono hE.le).put (coper_dst hao) hv) hR' (hU.ext hE) fun a2 w2 μ2 h1 h2 h3 h4 => hK a2 w2 μ2 h1 h2 (hE.trans h3) (by rw [h4, defers_put])
    have := hr (j + 1)
    rw [show i + 1 + j = i + (j + 1) by omega]
    simpa using this

end Go.Abs
