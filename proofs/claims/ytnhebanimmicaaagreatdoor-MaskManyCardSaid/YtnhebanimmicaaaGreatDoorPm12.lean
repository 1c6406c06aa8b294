/- A program on this machine, and what its runs say of the model's calls. -/
import Derived.Test.YtnhebanimmicaaaGreatDoorPm11
namespace Go.Abs
open Go.RowKit

abbrev PPrim := List V → PSt → Option (V × PSt)
def plook : List (Nat × PPrim) → Nat → Option PPrim
  | [], _ => none
  | x :: r, f => if x.1 = f then some x.2 else plook r f
/-- A program: some functions by what is known of them, the others by their code. -/
noncomputable def pprog (P : Program) (ps : List (Nat × PPrim)) (f : Nat) : Option PFn := match plook ps f with
  | some F => some (.prim F)
  | none => pfn P f
/-- What is known of a function is so. -/
def PrimOk (P : Program) (kn : Kn) (f : Nat) (F : PPrim) : Prop := ∀ (ex : ACode → Env → St → Option (AExit × Env × St)) (args : List V) (S : PSt) (s : St) (v : V) (S' : PSt), F args S = some (v, S') → Sim S s → (∀ u ∈ args, Wf S u) →
    ∃ s', callFn (progOf P kn) ex f (args.map V.er) s = some (v.er, s') ∧ Sim S' s' ∧ Keep S S' ∧ Wf S' v
def PrimsOk (P : Program) (kn : Kn) (ps : List (Nat × PPrim)) : Prop := ∀ x ∈ ps, PrimOk P kn x.1 x.2
theorem plook_mem {ps : List (Nat × PPrim)} {f : Nat} {F : PPrim} (h : plook ps f = some F) : (f, F) ∈ ps := by
  induction ps with
  | nil => cases h
  | cons x r ih =>
    unfold plook at h
    split at h
    · rename_i e; subst e; cases h; exact List.mem_cons_self ..
    · exact List.mem_cons_of_mem _ (ih h)
theorem progOf_nil (P : Program) (ps : List (Nat × (List AV → St → Option (AV × St)))) (f : Nat) (h : primOf ps f = none) : progOf P ⟨[], [], ps⟩ f = (match P.funcs[f]? with
    | none => none
    | some fn => cfn P fn) := by
  have e : progOf P ⟨[], [], ps⟩ f = (match primOf ps f with
   | some run => some (.prim run)
   | none => match P.funcs[f]? with
    | none => none
    | some fn => cfn P fn) := rfl
  rw [e, h]
theorem progSim {P : Program} {ps : List (Nat × PPrim)} (hps : PrimsOk P ⟨[], [], []⟩ ps) : ProgSim (pprog P ps) (progOf P ⟨[], [], []⟩) := by
  refine ⟨fun f m c res h => ?_, fun f F h => ?_⟩
  · unfold pprog at h
    split at h
    · cases h
    unfold pfn at h
    split at h
    · cases h
    rename_i fn hfn
    split at h
    · cases h
    rename_i code hcode
    split at h
    · cases h
    rename_i r hr
    split at h
    · cases h
    rename_i c' hc
    cases h
    refine ⟨fn.ntmps, c', ?_, pccode_sim hc⟩
    rw [progOf_nil _ _ _ rfl, hfn]
    show cfn P fn = _
    unfold cfn
    simp only [hcode, hc, hr, frcN_eq]
  · unfold pprog at h
    split at h
    · rename_i F' hF
      cases h
      exact hps _ (plook_mem hF)
    · unfold pfn at h
      repeat' split at h
      all_goals cases h

/-! ### strings compared -/
def pCmp : PPrim
  | [.str x, .str y], S => some (.int .i64 (if Op.bytesLess x y = true then -1 else if x = y then 0 else 1), S)
  | _, _ => none
theorem pCmp_ok {P : Program} {kn : Kn} {f : Nat} (h : progOf P kn f = some .cmp) : PrimOk P kn f pCmp := by
  intro ex args S s v S' hF hs hw
  unfold pCmp at hF
  split at hF
  case h_2 => cases hF
  rename_i x y
  cases hF
  refine ⟨s, ?_, hs, .refl _, .of_none rfl⟩
  unfold callFn
  rw [h]
  have heq : strEq x.length (enc x) y.length (enc y) = decide (x = y) := by rw [strEq_eq, Bool.eq_iff_iff]; simp
  have hlt : strLt x.length (enc x) y.length (enc y) = Op.bytesLess x y := strLt_eq x y
  simp only [List.map_cons, List.map_nil, V.er, hlt, heq]
  cases hb : Op.bytesLess x y with
  | true => simp
  | false =>
    by_cases he : x = y
    · subst he; simp
    · simp [he]

/-! ### what a run says -/
def S0 : PSt := ⟨fun _ => none, 0⟩
theorem sim_empty : Sim S0 ⟨.leaf, .h⟩ := ⟨⟨rfl, fun a b h => (by cases h), fun a b h => (by cases h)⟩, fun a _ => rfl⟩
theorem pm_calls {P : Program} {ps : List (Nat × PPrim)} (hps : PrimsOk P ⟨[], [], []⟩ ps) (hm : P.follows .mixedOrders = true) (hn : namesOk P = true) {fuel f : Nat} {args : List V} {v : V} {S' : PSt}
    (h : pcallFn (pprog P ps) (pexec (pprog P ps) fuel) f args S0 = some (v, S')) (hr : ∀ u ∈ args, u.rows = []) {fn : Func} {c : Code} (hf : P.funcs[f]? = some fn) (hb : fn.body = some c)
    {args' : Array Value} (hargs : ∀ μ, VRels μ (args.map V.er) args'.toList) (w : World) : Calls P f args' w fun e w' => ∃ v' μ, e = .returned v' ∧ VRel μ v.er v' ∧ Below w.heap.size w w' := by
  obtain ⟨s', h1, _⟩ := pcallFn_sim (progSim hps) (pexec_sim (progSim hps) fuel) f args S0 ⟨.leaf, .h⟩ v S' h sim_empty (fun u hu => .of_none (hr u hu))
  exact calls_of_callFn (known_nil P) hm hn h1 hf hb hargs w
end Go.Abs
