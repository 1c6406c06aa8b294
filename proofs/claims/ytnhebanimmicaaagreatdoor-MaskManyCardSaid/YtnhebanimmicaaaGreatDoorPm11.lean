/- The machine's code made of the model's. -/
import Derived.Test.YtnhebanimmicaaaGreatDoorPm10
namespace Go.Abs

noncomputable def pcopT (P : Program) (op : Op) : POp := match pcop P op with
  | some q => q
  | none => .fail
noncomputable def pcoper (P : Program) (N : Nat) (ops : Array Oper) (o : Oper) : Option POper := match cdst N o.dst with
  | none => none
  | some d => match cguard ops o.guard with
    | none => none
    | some g => match o.op with
      | .call { callee := .value f, args, .. } => match pcopd f with
        | some f' => match pcopds args.toList with
          | some l => some (.call d g f' l)
          | none => none
        | none => none
      | op => some (.op d g (pcopT P op))
theorem pcopT_sim {P : Program} {op : Op} {d : Option Nat} {g : Option (Nat × Bool)} : OperSim (.op d g (pcopT P op)) (.op d g (copT P op)) := by
  unfold pcopT
  split
  · rename_i q hq
    obtain ⟨h1, h2⟩ := pcop_ok hq
    have : copT P op = q.runA := by
      unfold copT
      rw [copQ_eq, h1]
    rw [this]
    exact .op d g q h2
  · exact .fail d g _
theorem pcoper_sim {P : Program} {N : Nat} {ops : Array Oper} {o : Oper} {p : POper} (h : pcoper P N ops o = some p) {a : AOper} (k : coper P N ops o = some a) : OperSim p a := by
  unfold pcoper at h
  unfold coper at k
  split at h
  · cases h
  rename_i d hd
  rw [hd] at k
  dsimp only at k
  split at h
  · cases h
  rename_i g hg
  rw [hg] at k
  dsimp only at k
  split at h
  · rename_i f args ts ho
    split at h
    case h_2 => cases h
    rename_i f' hf
    split at h
    case h_2 => cases h
    rename_i l hl
    cases h
    obtain ⟨f1, f2⟩ := pcopd_ok hf
    obtain ⟨l1, l2⟩ := pcopds_ok hl
    rw [ho] at k
    dsimp only at k
    rw [f1] at k
    dsimp only at k
    rw [l1] at k
    cases k
    exact .call d g f' l f2 l2
  · rename_i op hno
    cases h
    split at k
    · rename_i f args ts ho
      exact (hno _ _ _ ho).elim
    · cases k
      exact pcopT_sim
noncomputable def pcopers (P : Program) (N : Nat) (ops : Array Oper) : List Oper → Option (List POper)
  | [] => some []
  | o :: r => match pcoper P N ops o with
    | none => none
    | some a => match pcopers P N ops r with
      | none => none
      | some l => some (a :: l)
theorem pcopers_sim {P : Program} {N : Nat} {ops : Array Oper} : ∀ {r : List Oper} {l : List POper} {k : List AOper}, pcopers P N ops r = some l → copers P N ops r = some k → All2 OperSim l k
  | [], l, k, h, h' => by cases h; cases h'; exact .nil
  | o :: r, l, k, h, h' => by
    unfold pcopers at h
    unfold copers at h'
    split at h
    · cases h
    rename_i p hp
    split at h
    · cases h
    rename_i l' hl
    cases h
    split at h'
    · cases h'
    rename_i a ha
    split at h'
    case h_2 => cases h'
    rename_i k' hk
    cases h'
    exact .cons (pcoper_sim hp ha) (pcopers_sim hl hk)

def POp.isFail : POp → Bool
  | .fail => true
  | _ => false
/-- Does an operation fit its class? -/
def clsChk (c : Cls) (o : POper) : Bool := match c with
  | .i => true
  | c => match o with
    | .call _ _ _ _ => false
    | .op _ _ q => match c with
      | .p => q.isP || q.isFail
      | .q => q.pure
      | .a => q.makes || q.isFail
      | .i => true
theorem clsChk_ok {c : Cls} {o : POper} (h : clsChk c o = true) : clsFits c o := by
  have key : ∀ q : POp, q.isFail = true → q = .fail := by
    intro q hq
    cases q <;> first | rfl | (cases hq; done)
  cases c with
  | i => trivial
  | p =>
    cases o with
    | call d g f l => cases h
    | op d g q =>
      have h' : (q.isP || q.isFail) = true := h
      rw [Bool.or_eq_true] at h'
      exact ⟨d, g, q, rfl, h'.elim .inl fun k => .inr (key q k)⟩
  | q =>
    cases o with
    | call d g f l => cases h
    | op d g q => exact ⟨d, g, q, rfl, h⟩
  | a =>
    cases o with
    | call d g f l => cases h
    | op d g q =>
      have h' : (q.makes || q.isFail) = true := h
      rw [Bool.or_eq_true] at h'
      exact ⟨d, g, q, rfl, h'.elim .inl fun k => .inr (key q k)⟩
noncomputable def pdstep (P : Program) (N : Nat) (ops : Array Oper) (d : DStep) : Option PDStep := match ops[d.idx]? with
  | none => none
  | some o => match pcoper P N ops o with
    | none => none
    | some p => match clsChk d.cls p with
      | true => some ⟨d.idx, d.cls, p, d.names, d.anc⟩
      | false => none
noncomputable def pdsteps (P : Program) (N : Nat) (ops : Array Oper) : List DStep → Option (List PDStep)
  | [] => some []
  | d :: r => match pdstep P N ops d with
    | none => none
    | some p => match pdsteps P N ops r with
      | none => none
      | some l => some (p :: l)
theorem pdsteps_sim {P : Program} {N : Nat} {ops : Array Oper} {bef : List Nat} : ∀ {l : List DStep} {k : List PDStep}, pdsteps P N ops l = some k → (∀ d ∈ l, StepOk P N ops bef d) → All2 DSim k l
  | [], k, h, _ => by cases h; exact .nil
  | d :: l, k, h, ho => by
    unfold pdsteps at h
    split at h
    · cases h
    rename_i p hp
    split at h
    · cases h
    rename_i k' hk
    cases h
    refine .cons ?_ (pdsteps_sim hk fun e he => ho e (List.mem_cons_of_mem _ he))
    obtain ⟨o, h1, h2, _⟩ := ho d (List.mem_cons_self ..)
    unfold pdstep at hp
    rw [h1] at hp
    dsimp only at hp
    split at hp
    · cases hp
    rename_i q hq
    split at hp
    case h_2 => cases hp
    rename_i hcls
    cases hp
    exact ⟨rfl, rfl, pcoper_sim hq h2, rfl, rfl, clsChk_ok hcls⟩

noncomputable def pcdraw (P : Program) (N : Nat) (ops : Array Oper) : Option PCode := match ops.toList.map edgesOf with
  | edges => match dsteps P N ops (befOf ops) ops.toList 0 with
    | none => none
    | some l => match order l with
      | ds => match and (edgesUp edges 0) (and (Nat.beq ds.length ops.size) (chkQ ops.size ds [] 0)) with
        | true => match pdsteps P N ops ds with
          | none => none
          | some ps => match taintOk ps [] with
            | true => some (.draw ops.size ps)
            | false => none
        | false => none
theorem pcdraw_sim {P : Program} {N : Nat} {ops : Array Oper} {c : PCode} (h : pcdraw P N ops = some c) {a : ACode} (k : cdraw P N ops = some a) : CSim c a := by
  unfold pcdraw at h
  unfold cdraw at k
  dsimp only at h k
  split at h
  · cases h
  rename_i l hl
  rw [hl] at k
  dsimp only at k
  split at h
  case h_2 => cases h
  rename_i hchk
  rw [hchk] at k
  dsimp only at k
  split at h
  · cases h
  rename_i ps hps
  split at h
  case h_2 => cases h
  rename_i ht
  cases h
  cases k
  exact .draw _ (pdsteps_sim hps fun d hd => dsteps_spec hl (fun j => by simp) d (mem_order hd)) ht

noncomputable def pccode (P : Program) (N : Nat) : Code → PCode
  | .skip => .skip
  | .region _ ops draw => match draw with
    | false => match pcopers P N ops ops.toList with
      | some l => .region l
      | none => .dead
    | true => match pcdraw P N ops with
      | some d => d
      | none => .dead
  | .seq a b => .seq (pccode P N a) (pccode P N b)
  | .cond c a b => match pcopd c with
    | none => .dead
    | some c' => .cond c' (pccode P N a) (pccode P N b)
  | .block id a => .block id (pccode P N a)
  | .loop a => .loop (pccode P N a)
  | .exit id => .exit id
  | .ret => .ret
  | _ => .dead
theorem pccode_sim {P : Program} {N : Nat} : ∀ {c : Code} {a : ACode}, ccode P N c = some a → CSim (pccode P N c) a := by
  intro c
  induction c with
  | skip => intro a h; cases h; exact .skip
  | exit id => intro a h; cases h; exact .exit id
  | ret => intro a h; cases h; exact .ret
  | region id ops draw =>
    intro a h
    cases draw with
    | false =>
      simp only [ccode] at h
      simp only [pccode]
      split at h
      case h_2 => cases h
      rename_i l hl
      cases h
      split
      · rename_i k hk; exact .region (pcopers_sim hk hl)
      · exact .dead _
    | true =>
      simp only [ccode] at h
      simp only [pccode]
      split
      · rename_i d hd
        split at h
        · rename_i a' ha
          cases h
          exact pcdraw_sim hd ha
        · rename_i ha
          exfalso
          unfold pcdraw at hd
          unfold cdraw at ha
          dsimp only at hd ha
          split at hd
          · cases hd
          rename_i l hl
          rw [hl] at ha
          dsimp only at ha
          split at hd
          case h_2 => cases hd
          rename_i hchk
          rw [hchk] at ha
          cases ha
      · exact .dead _
  | seq a b iha ihb =>
    intro r h
    simp only [ccode] at h
    split at h
    · cases h
    rename_i a' ha
    split at h
    case h_2 => cases h
    rename_i b' hb
    cases h
    exact .seq (iha ha) (ihb hb)
  | cond c a b iha ihb =>
    intro r h
    simp only [ccode] at h
    simp only [pccode]
    split at h
    · cases h
    rename_i c' hc
    split at h
    · cases h
    rename_i a' ha
    split at h
    case h_2 => cases h
    rename_i b' hb
    cases h
    split
    · exact .dead _
    · rename_i p hp
      have := (pcopd_ok hp).1
      rw [hc] at this
      cases this
      exact .cond p (iha ha) (ihb hb)
  | block id a iha =>
    intro r h
    simp only [ccode] at h
    split at h
    case h_2 => cases h
    rename_i a' ha
    cases h
    exact .block id (iha ha)
  | loop a iha =>
    intro r h
    simp only [ccode] at h
    split at h
    case h_2 => cases h
    rename_i a' ha
    cases h
    exact .loop (iha ha)
  | _ => intro r h; exact .dead _

/-- A function whose code is made. -/
noncomputable def pfn (P : Program) (f : Nat) : Option PFn := match P.funcs[f]? with
  | none => none
  | some fn => match fn.body with
    | none => none
    | some c => match cres P fn.ntmps fn.results.toList with
      | none => none
      | some r => match ccode P fn.ntmps c with
        | none => none
        | some _ => some (.body (Nat.lor (upCode c) (upRes fn.results.toList)) (pccode P fn.ntmps c) r)
end Go.Abs
