/- Drawn regions: a step that may be taken now may be taken first. -/
import Derived.Test.YtnhebanimmicaaaGreatDoorAb16
namespace Go.Abs

/-- A step is the operation of its number. -/
def StepOk (P : Program) (N : Nat) (ops : Array Oper) (bef : List Nat) (d : DStep) : Prop :=
  ∃ o, ops[d.idx]? = some o ∧ coper P N ops o = some d.o ∧ clsOf P o.op = d.cls ∧ d.anc = bef.getD d.idx 0

section
variable {P : Program} {N : Nat} {ops : Array Oper} {bef : List Nat} {call : CallF} {r0 : Pos}

theorem coper_op {o : Oper} {ao : AOper} (h : coper P N ops o = some ao) (hc : clsOf P o.op ≠ .i) : ∃ d g, ao = .op d g (copT P o.op) := by
  unfold coper at h
  split at h
  case h_1 => cases h
  rename_i d hd
  split at h
  case h_1 => cases h
  rename_i g hg
  split at h
  · rename_i f args ts heq
    rw [heq] at hc
    exact absurd rfl hc
  · cases h; exact ⟨d, g, rfl⟩

theorem runOp_op {d : Option Nat} {g : Option (Nat × Bool)} {r : Run} {t : Env} {s s' : St} {v : AV} (h : runOp call (.op d g r) t s = some (v, s')) :
    (guardOk g t = some true ∧ r t s = some (v, s')) ∨ (guardOk g t = some false ∧ v = .tup [] ∧ s' = s) := by
  unfold runOp at h
  simp only at h
  split at h
  · cases h
  · rename_i hg; exact .inl ⟨hg, h⟩
  · rename_i hg; cases h; exact .inr ⟨hg, rfl, rfl⟩
theorem runOp_true {d : Option Nat} {g : Option (Nat × Bool)} {r : Run} {t : Env} {s : St} (hg : guardOk g t = some true) : runOp call (.op d g r) t s = r t s := by
  simp only [runOp, hg]
theorem runOp_false {d : Option Nat} {g : Option (Nat × Bool)} {r : Run} {t : Env} {s : St} (hg : guardOk g t = some false) : runOp call (.op d g r) t s = some (.tup [], s) := by
  simp only [runOp, hg]

theorem StepOk.pure {d : DStep} (hd : StepOk P N ops bef d) (hc : d.cls = .p) {t : Env} {s s' : St} {v : AV} (h : runOp call d.o t s = some (v, s')) : s' = s ∧ ∀ s2, runOp call d.o t s2 = some (v, s2) := by
  obtain ⟨o, h1, h2, h3, _⟩ := hd
  rw [hc] at h3
  obtain ⟨dd, g, he⟩ := coper_op h2 (by rw [h3]; simp)
  rw [he] at h ⊢
  rcases runOp_op h with ⟨hg, hr⟩ | ⟨hg, rfl, rfl⟩
  · have hp : PureRun (copT P o.op) := by
      unfold copT
      split
      · rename_i r hr; rw [copQ_eq] at hr; exact cop_pure h3 hr
      · exact opFail_pure
    obtain ⟨e1, e2⟩ := hp t s v s' hr
    exact ⟨e1, fun s2 => by rw [runOp_true hg]; exact e2 s2⟩
  · exact ⟨rfl, fun s2 => runOp_false hg⟩
theorem StepOk.quiet {d : DStep} (hd : StepOk P N ops bef d) (hc : d.cls = .q) {t : Env} {s s' : St} {v : AV} (h : runOp call d.o t s = some (v, s')) : s' = s := by
  obtain ⟨o, h1, h2, h3, _⟩ := hd
  rw [hc] at h3
  obtain ⟨dd, g, he⟩ := coper_op h2 (by rw [h3]; simp)
  rw [he] at h
  rcases runOp_op h with ⟨hg, hr⟩ | ⟨hg, rfl, rfl⟩
  · have hp : QuietRun (copT P o.op) := by
      unfold copT
      split
      · rename_i r hr; rw [copQ_eq] at hr; exact cop_quiet h3 hr
      · intro t s v s' h; cases h
    exact hp t s v s' hr
  · rfl
theorem StepOk.alloc {d : DStep} (hd : StepOk P N ops bef d) (hc : d.cls = .a) {t : Env} {s s' : St} {v : AV} (h : runOp call d.o t s = some (v, s')) :
    (s' = s ∧ ∀ s2, runOp call d.o t s2 = some (v, s2)) ∨
    ∃ l : List AV, s' = s.new (.cells (rowOf l) l.length none) ∧ ∀ s2 : St, s2.next = s.next → runOp call d.o t s2 = some (v, s2.new (.cells (rowOf l) l.length none)) := by
  obtain ⟨o, h1, h2, h3, _⟩ := hd
  rw [hc] at h3
  obtain ⟨dd, g, he⟩ := coper_op h2 (by rw [h3]; simp)
  rw [he] at h ⊢
  rcases runOp_op h with ⟨hg, hr⟩ | ⟨hg, rfl, rfl⟩
  · have hp : AllocRun (copT P o.op) := by
      unfold copT
      split
      · rename_i r hr; rw [copQ_eq] at hr; exact cop_alloc h3 hr
      · intro t s v s' h; cases h
    obtain ⟨l, e1, e2⟩ := hp t s v s' hr
    exact .inr ⟨l, e1, fun s2 hs2 => by rw [runOp_true hg]; exact e2 s2 hs2⟩
  · exact .inl ⟨rfl, fun s2 => runOp_false hg⟩

/-- What two runs come to is alike. -/
def Like (F F' : Env × St) : Prop := Teq F.1 F'.1 ∧ F.2 = F'.2
theorem Like.trans {a b c : Env × St} (h : Like a b) (k : Like b c) : Like a c := ⟨fun p => (h.1 p).trans (k.1 p), h.2.trans k.2⟩

/-- The step behind the ones ahead of it. -/
theorem go_real {e d : DStep} {gs : List G} {t : Env} {s b : St} {l : List Seen} {v : AV} (hap : apartD e d = true) :
    (∀ ve s1, e.cls = .p → runOp call e.o (restr t e.names) b = some (ve, s1) → execG call r0 gs (setDst e.o.dst ve (setDst d.o.dst v t)) s b l = execG call r0 (.real e :: gs) (setDst d.o.dst v t) s b l) ∧
    (∀ ve s1, e.cls = .q → runOp call e.o (restr t e.names) b = some (ve, s1) → execG call r0 gs (setDst e.o.dst ve (setDst d.o.dst v t)) s b (⟨e.idx, restr t e.names, e.o, ve⟩ :: l) = execG call r0 (.real e :: gs) (setDst d.o.dst v t) s b l) ∧
    (∀ ve s1, e.cls = .a → runOp call e.o (restr t e.names) ⟨s.heap, r0.plus e.idx⟩ = some (ve, s1) → execG call r0 gs (setDst e.o.dst ve (setDst d.o.dst v t)) ⟨s1.heap, s.next⟩ b l = execG call r0 (.real e :: gs) (setDst d.o.dst v t) s b l) ∧
    (∀ ve s1, e.cls = .i → runOp call e.o (restr t e.names) s = some (ve, s1) → recheck call e.anc l s1 = true → execG call r0 gs (setDst e.o.dst ve (setDst d.o.dst v t)) s1 s1 l = execG call r0 (.real e :: gs) (setDst d.o.dst v t) s b l) := by
  have hf := apart_facts hap
  have hr : restr (setDst d.o.dst v t) e.names = restr t e.names := restr_setDst fun p hp => hf.2.1 p hp
  refine ⟨fun ve s1 hc h => ?_, fun ve s1 hc h => ?_, fun ve s1 hc h => ?_, fun ve s1 hc h h2 => ?_⟩ <;> simp only [execG, hc, hr, h]
  simp only [h2]

theorem move_pq {d : DStep} {post : List G} (hd : d.cls = .p ∨ d.cls = .q) (hok : StepOk P N ops bef d) : ∀ (pre : List G) (t : Env) (s b : St) (l : List Seen) (F : Env × St),
    (∀ e, G.real e ∈ pre → StepOk P N ops bef e ∧ apartD e d = true ∧ (d.cls = .q → e.cls.isI = false)) → execG call r0 (pre ++ .real d :: post) t s b l = some F →
    ∃ v, runOp call d.o (restr t d.names) b = some (v, b) ∧ ∃ F', execG call r0 (pre ++ post) (setDst d.o.dst v t) s b l = some F' ∧ Like F F'
  | [], t, s, b, l, F, _, h => by
    simp only [List.nil_append, execG] at h ⊢
    rcases hd with hd | hd
    · rw [hd] at h
      simp only at h
      split at h
      · cases h
      · rename_i v s1 hr
        obtain ⟨e1, _⟩ := hok.pure hd hr
        subst e1
        exact ⟨v, hr, F, h, fun _ => rfl, rfl⟩
    · rw [hd] at h
      simp only at h
      split at h
      · cases h
      · rename_i v s1 hr
        have e1 := hok.quiet hd hr
        subst e1
        obtain ⟨F', g1, g2⟩ := execG_congr (l' := l) (fun _ => rfl) (fun e he => List.mem_cons_of_mem _ he) h
        exact ⟨v, hr, F', g1, g2⟩
  | .ghost id x :: pre, t, s, b, l, F, hp, h => move_pq hd hok pre t (lay1 s id x) b l F (fun e he => hp e (List.mem_cons_of_mem _ he)) h
  | .real e :: pre, t, s, b, l, F, hp, h => by
    obtain ⟨heok, hap, hei⟩ := hp e (List.mem_cons_self ..)
    have hf := apart_facts hap
    have hp' : ∀ x, G.real x ∈ pre → StepOk P N ops bef x ∧ apartD x d = true ∧ (d.cls = .q → x.cls.isI = false) := fun x hx => hp x (List.mem_cons_of_mem _ hx)
    have hres : ∀ ve, restr (setDst e.o.dst ve t) d.names = restr t d.names := fun ve => restr_setDst fun p hpd => hf.1 p hpd
    have hsw : ∀ v ve, Teq (setDst d.o.dst v (setDst e.o.dst ve t)) (setDst e.o.dst ve (setDst d.o.dst v t)) := fun v ve => setDst_swap fun p hpd he => hf.2.2 p he hpd
    simp only [List.cons_append] at h ⊢
    have h0 := h
    simp only [execG] at h
    cases hc : e.cls with
    | p =>
      rw [hc] at h
      simp only at h
      split at h
      · cases h
      · rename_i ve s1 hr
        obtain ⟨v, g1, F', g2, g3⟩ := move_pq hd hok pre _ _ _ _ _ hp' h
        rw [hres] at g1
        obtain ⟨F2, k1, k2⟩ := execG_congr (l' := l) (hsw v ve) (fun _ h => h) g2
        exact ⟨v, g1, F2, by rw [← (go_real hap).1 ve s1 hc hr]; exact k1, g3.trans k2⟩
    | q =>
      rw [hc] at h
      simp only at h
      split at h
      · cases h
      · rename_i ve s1 hr
        obtain ⟨v, g1, F', g2, g3⟩ := move_pq hd hok pre _ _ _ _ _ hp' h
        rw [hres] at g1
        obtain ⟨F2, k1, k2⟩ := execG_congr (l' := ⟨e.idx, restr t e.names, e.o, ve⟩ :: l) (hsw v ve) (fun _ h => h) g2
        exact ⟨v, g1, F2, by rw [← (go_real hap).2.1 ve s1 hc hr]; exact k1, g3.trans k2⟩
    | a =>
      rw [hc] at h
      simp only at h
      split at h
      · cases h
      · rename_i ve s1 hr
        obtain ⟨v, g1, F', g2, g3⟩ := move_pq hd hok pre _ _ _ _ _ hp' h
        rw [hres] at g1
        obtain ⟨F2, k1, k2⟩ := execG_congr (l' := l) (hsw v ve) (fun _ h => h) g2
        exact ⟨v, g1, F2, by rw [← (go_real hap).2.2.1 ve s1 hc hr]; exact k1, g3.trans k2⟩
    | i =>
      have hdp : d.cls = .p := hd.resolve_right fun hq => by have := hei hq; rw [hc] at this; cases this
      rw [hc] at h
      simp only at h
      split at h
      · cases h
      · rename_i ve s1 hr
        split at h
        case h_2 => cases h
        rename_i hre
        obtain ⟨v, g1, F', g2, g3⟩ := move_pq hd hok pre _ _ _ _ _ hp' h
        rw [hres] at g1
        obtain ⟨F2, k1, k2⟩ := execG_congr (l' := l) (hsw v ve) (fun _ h => h) g2
        exact ⟨v, (hok.pure hdp g1).2 b, F2, by rw [← (go_real hap).2.2.2 ve s1 hc hr hre]; exact k1, g3.trans k2⟩

theorem move_a {d : DStep} {post : List G} (hd : d.cls = .a) (hok : StepOk P N ops bef d) : ∀ (pre : List G) (t : Env) (s b : St) (l : List Seen) (F : Env × St),
    (∀ e, G.real e ∈ pre → apartD e d = true) → execG call r0 (pre ++ .real d :: post) t s b l = some F →
    ∃ v, ((∀ s2, runOp call d.o (restr t d.names) s2 = some (v, s2)) ∧ ∃ F', execG call r0 (pre ++ post) (setDst d.o.dst v t) s b l = some F' ∧ Like F F') ∨
      ∃ l0 : List AV, (∀ s2 : St, s2.next = r0.plus d.idx → runOp call d.o (restr t d.names) s2 = some (v, s2.new (.cells (rowOf l0) l0.length none))) ∧
        ∃ F', execG call r0 (pre ++ .ghost (r0.plus d.idx) (.cells (rowOf l0) l0.length none) :: post) (setDst d.o.dst v t) s b l = some F' ∧ Like F F'
  | [], t, s, b, l, F, _, h => by
    simp only [List.nil_append, execG] at h ⊢
    rw [hd] at h
    simp only at h
    split at h
    · cases h
    · rename_i v s1 hr
      rcases hok.alloc hd hr with ⟨e1, e2⟩ | ⟨l0, e1, e2⟩
      · subst e1
        exact ⟨v, .inl ⟨e2, F, h, fun _ => rfl, rfl⟩⟩
      · subst e1
        exact ⟨v, .inr ⟨l0, e2, F, h, fun _ => rfl, rfl⟩⟩
  | .ghost id x :: pre, t, s, b, l, F, hp, h => move_a hd hok pre t (lay1 s id x) b l F (fun e he => hp e (List.mem_cons_of_mem _ he)) h
  | .real e :: pre, t, s, b, l, F, hp, h => by
    have hap := hp e (List.mem_cons_self ..)
    have hf := apart_facts hap
    have hp' : ∀ x, G.real x ∈ pre → apartD x d = true := fun x hx => hp x (List.mem_cons_of_mem _ hx)
    have hres : ∀ ve, restr (setDst e.o.dst ve t) d.names = restr t d.names := fun ve => restr_setDst fun p hpd => hf.1 p hpd
    have hsw : ∀ v ve, Teq (setDst d.o.dst v (setDst e.o.dst ve t)) (setDst e.o.dst ve (setDst d.o.dst v t)) := fun v ve => setDst_swap fun p hpd he => hf.2.2 p he hpd
    simp only [List.cons_append] at h ⊢
    simp only [execG] at h
    have fin : ∀ (ve : AV) (s1 b1 : St) (l1 : List Seen), execG call r0 (pre ++ .real d :: post) (setDst e.o.dst ve t) s1 b1 l1 = some F →
        (∀ gs v, execG call r0 gs (setDst e.o.dst ve (setDst d.o.dst v t)) s1 b1 l1 = execG call r0 (.real e :: gs) (setDst d.o.dst v t) s b l) →
        ∃ v, ((∀ s2, runOp call d.o (restr t d.names) s2 = some (v, s2)) ∧ ∃ F', execG call r0 (.real e :: (pre ++ post)) (setDst d.o.dst v t) s b l = some F' ∧ Like F F') ∨
          ∃ l0 : List AV, (∀ s2 : St, s2.next = r0.plus d.idx → runOp call d.o (restr t d.names) s2 = some (v, s2.new (.cells (rowOf l0) l0.length none))) ∧
            ∃ F', execG call r0 (.real e :: (pre ++ .ghost (r0.plus d.idx) (.cells (rowOf l0) l0.length none) :: post)) (setDst d.o.dst v t) s b l = some F' ∧ Like F F' := by
      intro ve s1 b1 l1 hrest hback
      obtain ⟨v, hv⟩ := move_a hd hok pre _ _ _ _ _ hp' hrest
      refine ⟨v, ?_⟩
      rcases hv with ⟨g1, F', g2, g3⟩ | ⟨l0, g1, F', g2, g3⟩
      · rw [hres] at g1
        obtain ⟨F2, k1, k2⟩ := execG_congr (l' := l1) (hsw v ve) (fun _ h => h) g2
        exact .inl ⟨g1, F2, by rw [← hback]; exact k1, g3.trans k2⟩
      · rw [hres] at g1
        obtain ⟨F2, k1, k2⟩ := execG_congr (l' := l1) (hsw v ve) (fun _ h => h) g2
        exact .inr ⟨l0, g1, F2, by rw [← hback]; exact k1, g3.trans k2⟩
    cases hc : e.cls with
    | p =>
      rw [hc] at h
      simp only at h
      split at h
      · cases h
      · rename_i ve s1 hr; exact fin ve _ _ _ h fun gs v => (go_real hap).1 ve s1 hc hr
    | q =>
      rw [hc] at h
      simp only at h
      split at h
      · cases h
      · rename_i ve s1 hr; exact fin ve _ _ _ h fun gs v => (go_real hap).2.1 ve s1 hc hr
    | a =>
      rw [hc] at h
      simp only at h
      split at h
      · cases h
      · rename_i ve s1 hr; exact fin ve _ _ _ h fun gs v => (go_real hap).2.2.1 ve s1 hc hr
    | i =>
      rw [hc] at h
      simp only at h
      split at h
      · cases h
      · rename_i ve s1 hr
        split at h
        case h_2 => cases h
        rename_i hre
        exact fin ve _ _ _ h fun gs v => (go_real hap).2.2.2 ve s1 hc hr hre

/-- What is made already is laid; the steps that are left of some. -/
noncomputable def lays (s : St) : List G → St
  | [] => s
  | .ghost id x :: r => lays (lay1 s id x) r
  | .real _ :: r => lays s r
def reals : List G → List G
  | [] => []
  | .ghost _ _ :: r => reals r
  | .real d :: r => .real d :: reals r
theorem mem_reals {d : DStep} : ∀ {gs : List G}, G.real d ∈ reals gs ↔ G.real d ∈ gs
  | [] => by simp [reals]
  | .ghost id x :: r => by simp [reals, mem_reals (gs := r)]
  | .real e :: r => by simp [reals, mem_reals (gs := r)]
theorem not_ghost_reals {id : Pos} {x : Blk} : ∀ {gs : List G}, G.ghost id x ∉ reals gs
  | [] => by simp [reals]
  | .ghost _ _ :: r => by simp [reals, not_ghost_reals (gs := r)]
  | .real e :: r => by simp [reals, not_ghost_reals (gs := r)]
theorem reals_sublist : ∀ (gs : List G), (reals gs).Sublist gs
  | [] => .slnil
  | .ghost _ _ :: r => (reals_sublist r).cons _
  | .real _ :: r => (reals_sublist r).cons_cons _

theorem mat {rest : List G} : ∀ (pre : List G) (t : Env) (s b : St) (l : List Seen), (∀ e, G.real e ∈ pre → e.cls = .p ∨ e.cls = .q) →
    execG call r0 (pre ++ rest) t s b l = execG call r0 (reals pre ++ rest) t (lays s pre) b l
  | [], t, s, b, l, _ => rfl
  | .ghost id x :: pre, t, s, b, l, hp => mat pre t (lay1 s id x) b l fun e he => hp e (List.mem_cons_of_mem _ he)
  | .real e :: pre, t, s, b, l, hp => by
    have hp' : ∀ x, G.real x ∈ pre → x.cls = .p ∨ x.cls = .q := fun x hx => hp x (List.mem_cons_of_mem _ hx)
    show execG call r0 (.real e :: (pre ++ rest)) t s b l = execG call r0 (.real e :: (reals pre ++ rest)) t (lays s pre) b l
    simp only [execG]
    rcases hp e (List.mem_cons_self ..) with hc | hc <;> rw [hc] <;> simp only <;> split
    · rfl
    · exact mat pre _ _ _ _ hp'
    · rfl
    · exact mat pre _ _ _ _ hp'

theorem move_i {d : DStep} {post : List G} (hd : d.cls = .i) : ∀ (pre : List G) (t : Env) (s b : St) (l : List Seen) (F : Env × St),
    (∀ g ∈ pre, ∃ e, g = .real e ∧ (e.cls = .p ∨ e.cls = .q) ∧ StepOk P N ops bef e ∧ apartD e d = true ∧ Nat.testBit d.anc e.idx = false) → execG call r0 (pre ++ .real d :: post) t s b l = some F →
    ∃ v s1, runOp call d.o (restr t d.names) s = some (v, s1) ∧ recheck call d.anc l s1 = true ∧ ∃ F', execG call r0 (pre ++ post) (setDst d.o.dst v t) s1 s1 l = some F' ∧ Like F F'
  | [], t, s, b, l, F, _, h => by
    simp only [List.nil_append, execG] at h ⊢
    rw [hd] at h
    simp only at h
    split at h
    · cases h
    · rename_i v s1 hr
      split at h
      case h_2 => cases h
      rename_i hre
      exact ⟨v, s1, hr, hre, F, h, fun _ => rfl, rfl⟩
  | g :: pre, t, s, b, l, F, hp, h => by
    obtain ⟨e, rfl, hc, heok, hap, hanc⟩ := hp g (List.mem_cons_self ..)
    have hf := apart_facts hap
    have hp' := fun x (hx : x ∈ pre) => hp x (List.mem_cons_of_mem _ hx)
    have hres : ∀ ve, restr (setDst e.o.dst ve t) d.names = restr t d.names := fun ve => restr_setDst fun p hpd => hf.1 p hpd
    have hsw : ∀ v ve, Teq (setDst d.o.dst v (setDst e.o.dst ve t)) (setDst e.o.dst ve (setDst d.o.dst v t)) := fun v ve => setDst_swap fun p hpd he => hf.2.2 p he hpd
    simp only [List.cons_append] at h ⊢
    simp only [execG] at h
    rcases hc with hc | hc
    · rw [hc] at h
      simp only at h
      split at h
      · cases h
      · rename_i ve s2 hr
        obtain ⟨v, s1, g1, g2, F', g3, g4⟩ := move_i hd pre _ _ _ _ _ hp' h
        rw [hres] at g1
        obtain ⟨F2, k1, k2⟩ := execG_congr (l' := l) (hsw v ve) (fun _ h => h) g3
        exact ⟨v, s1, g1, g2, F2, by rw [← (go_real hap).1 ve s1 hc ((heok.pure hc hr).2 s1)]; exact k1, g4.trans k2⟩
    · rw [hc] at h
      simp only at h
      split at h
      · cases h
      · rename_i ve s2 hr
        obtain ⟨v, s1, g1, g2, F', g3, g4⟩ := move_i hd pre _ _ _ _ _ hp' h
        rw [hres] at g1
        obtain ⟨v3, s3, q1, q2⟩ := recheck_iff.1 g2 ⟨e.idx, restr t e.names, e.o, ve⟩ (List.mem_cons_self ..) hanc
        have q2' : ve = v3 := q2
        subst q2'
        obtain ⟨F2, k1, k2⟩ := execG_congr (l' := ⟨e.idx, restr t e.names, e.o, ve⟩ :: l) (hsw v ve) (fun _ h => h) g3
        have hre : recheck call d.anc l s1 = true := recheck_iff.2 fun x hx hb => recheck_iff.1 g2 x (List.mem_cons_of_mem _ hx) hb
        exact ⟨v, s1, g1, hre, F2, by rw [← (go_real hap).2.1 ve s3 hc q1]; exact k1, g4.trans k2⟩
end

end Go.Abs
