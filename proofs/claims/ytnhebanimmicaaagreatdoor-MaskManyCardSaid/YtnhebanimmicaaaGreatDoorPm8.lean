/- Drawn regions, code, calls: the abstract machine follows. -/
import Derived.Test.YtnhebanimmicaaaGreatDoorPm7
namespace Go.Abs

theorem POp.indep {o : POp} (hp : o.isP = true) {T : PEnv} {S : PSt} {v : V} {S' : PSt} (hf : o.run T S = some (v, S')) (B : PSt) : o.run T B = some (v, B) := by
  cases o <;> first | (cases hp; done) | skip
  case pick c x y =>
    simp only [POp.run, pPick, pMove] at hf ⊢
    repeat' split at hf
    all_goals first
      | (cases hf; done)
      | (cases hf; simp_all)
  all_goals
    simp only [POp.run, pMove, pBuild, pNilCheck, pBin, pEqB, pEqNil, pEqSt, pNot, pNeg, pConv, pConvStr, pMkfn, pSliceS, pSliceStr, pFieldAddr, pIndexAddr, pIndexStr, pField1, pFieldN, pExtract, pLenS, pLenStr, pMin, pMax] at hf ⊢
    repeat' split at hf
    all_goals first
      | (cases hf; done)
      | (cases hf; simp_all; done)
      | (cases hf; simp_all; omega)
theorem POp.pureA {o : POp} (hp : o.isP = true) : PureRun o.runA := by
  cases o <;> first | (cases hp; done) | skip
  case move x => exact opMove_pure _
  case pick c x y => exact opPick_pure _ _ _
  case build z ps => exact buildR_pure _ _
  case nilCheck x => exact opNilCheck_pure _
  case bin op x y => exact opBin_pure _ _ _
  case eqB b x y => exact opEqB_pure _ _ _
  case eqNil n b x y => exact opEqNil_pure _ _ _ _
  case eqSt b ls x y => exact opEqSt_pure _ _ _ _
  case not x => exact opNot_pure _
  case neg x => exact opNeg_pure _
  case conv k x => exact opConv_pure _ _
  case convStr x => exact opConvStr_pure _
  case mkfn f caps => exact opMkfn_pure _ _
  case sliceS es x lo hi => exact opSliceS_pure _ _ _ _ _
  case sliceStr x lo hi => exact opSliceStr_pure _ _ _
  case fieldAddr off x => exact opFieldAddr_pure _ _
  case indexAddr es x i => exact opIndexAddr_pure _ _ _
  case indexStr x i => exact opIndexStr_pure _ _
  case field1 off x => exact opField1_pure _ _
  case fieldN off n x => exact opFieldN_pure _ _ _
  case extract x i => exact opExtract_pure _ _
  case lenS x => exact opLenS_pure _
  case lenStr x => exact opLenStr_pure _
  case min x y => exact opMin_pure _ _
  case max x y => exact opMax_pure _ _

theorem PSt.ext0 {S : PSt} {n : Nat} (h : S.next = n) : (⟨S.heap, n⟩ : PSt) = S := by cases S; cases h; rfl
theorem plus_of (a : Nat) : ∀ n, (Pos.of a).plus n = Pos.of (a + n)
  | 0 => rfl
  | n + 1 => by
    show ((Pos.of a).plus n).succ = _
    rw [plus_of a n, Pos.succ_of]; rfl

theorem prestr_get (T : PEnv) : ∀ (l : List Nat) (k : Nat), (prestr T l).get k = if k ∈ l then T.get k else none
  | [], k => by simp [prestr, PEnv.get_nil]
  | p :: r, k => by
    unfold prestr
    split
    · rename_i v hv
      rw [PEnv.get_put, prestr_get T r k]
      by_cases h : p = k
      · subst h; rw [if_pos rfl, if_pos (List.mem_cons_self ..), hv]
      · rw [if_neg h]
        have : k ∈ p :: r ↔ k ∈ r := by
          rw [List.mem_cons]; exact ⟨fun h' => h'.elim (fun e => absurd e.symm h) id, .inr⟩
        simp only [this]
    · rename_i hv
      rw [prestr_get T r k]
      by_cases h : k = p
      · subst h
        rw [if_pos (List.mem_cons_self ..), hv]
        split <;> rfl
      · have : k ∈ p :: r ↔ k ∈ r := by
          rw [List.mem_cons]; exact ⟨fun h' => h'.elim (fun e => absurd e h) id, .inr⟩
        simp only [this]
theorem restr_get' (t : Env) : ∀ (l : List Nat) (k : Nat), (restr t l).get k = if k ∈ l then t.get k else none
  | [], k => by
    rw [show restr t [] = Env.nil from rfl, Env.get_nil]; simp
  | p :: r, k => by
    have e : restr t (p :: r) = (match t.get p with
      | some v => .bind p v (restr t r)
      | none => restr t r) := rfl
    rw [e]
    split
    · rename_i v hv
      rw [Env.get_bind, restr_get' t r k]
      by_cases h : p = k
      · subst h; rw [if_pos rfl, if_pos (List.mem_cons_self ..), hv]
      · rw [if_neg h]
        have : k ∈ p :: r ↔ k ∈ r := by
          rw [List.mem_cons]; exact ⟨fun h' => h'.elim (fun e => absurd e.symm h) id, .inr⟩
        simp only [this]
    · rename_i hv
      rw [restr_get' t r k]
      by_cases h : k = p
      · subst h
        rw [if_pos (List.mem_cons_self ..), hv]
        split <;> rfl
      · have : k ∈ p :: r ↔ k ∈ r := by
          rw [List.mem_cons]; exact ⟨fun h' => h'.elim (fun e => absurd e h) id, .inr⟩
        simp only [this]
theorem prestr_sim {T : PEnv} {t : Env} (he : ESim T t) (l : List Nat) : ESim (prestr T l) (restr t l) := fun k => by
  rw [prestr_get, restr_get']
  split
  · exact he k
  · rfl
theorem prestr_wf {S : PSt} {T : PEnv} {l : List Nat} (hw : ∀ k v, k ∈ l → T.get k = some v → Wf S v) : EWf S (prestr T l) := fun k v hv => by
  rw [prestr_get] at hv
  split at hv
  · exact hw k v ‹_› hv
  · cases hv

/-! ### drawn regions -/
structure SeenSim (e : PSeen) (f : Seen) : Prop where
  idx : e.idx = f.idx
  t : ESim e.T f.t
  o : OperSim e.o f.o
  v : f.v = e.v.er
theorem precheck_sim {pc : PCallF} {ac : CallF} (hc : CallSim pc ac) {anc : Nat} {S : PSt} {s : St} (hs : Sim S s) : ∀ {l : List PSeen} {m : List Seen}, All2 SeenSim l m → (∀ e ∈ l, EWf S e.T) → precheck pc anc S l → recheck ac anc m s = true
  | _, _, .nil, _, _ => rfl
  | _, _, .cons (a := e) (b := f) (l := l) (m := m) h t, hw, hp => by
    have ih := precheck_sim hc hs t (fun x hx => hw x (List.mem_cons_of_mem _ hx)) hp.2
    have e1 : recheck ac anc (f :: m) s = (match Nat.testBit anc f.idx with
      | true => recheck ac anc m s
      | false => match runOp ac f.o f.t s with
        | some (v, _) => and (AV.beq f.v v) (recheck ac anc m s)
        | none => false) := rfl
    rw [e1]
    rcases hp.1 with hb | ⟨S', hr⟩
    · rw [← h.idx, hb]; exact ih
    · obtain ⟨s', q1, _⟩ := prunOp_sim hc h.o hr h.t hs (hw e (List.mem_cons_self ..))
      rw [q1, ih, h.v]
      have hb : AV.beq e.v.er e.v.er = true := AV.beq_refl _
      simp only [hb]
      cases Nat.testBit anc f.idx <;> rfl

/-- What isn't tainted is so in the elder memory already. -/
def Clean (B : PSt) (T : PEnv) (tn : List Nat) : Prop := ∀ k v, T.get k = some v → k ∉ tn → Wf B v
theorem Clean.put {B : PSt} {T : PEnv} {tn : List Nat} (h : Clean B T tn) (d : Option Nat) {v : V} (hv : Wf B v) : Clean B (psetDst d v T) (untaint d tn) := by
  cases d with
  | none => exact h
  | some p =>
    intro k u hu hk
    have hu' : (PEnv.put p v T).get k = some u := hu
    rw [PEnv.get_put] at hu'
    split at hu'
    · cases hu'; exact hv
    · rename_i hne
      refine h k u hu' fun hm => hk ?_
      show k ∈ tn.filter fun x => x != p
      rw [List.mem_filter]
      exact ⟨hm, by simpa using fun e => hne e.symm⟩
theorem Clean.taint {B : PSt} {T : PEnv} {tn : List Nat} (h : Clean B T tn) (d : Option Nat) (v : V) : Clean B (psetDst d v T) (addTaint d tn) := by
  cases d with
  | none => exact h
  | some p =>
    intro k u hu hk
    have hu' : (PEnv.put p v T).get k = some u := hu
    have hk' : k ∉ p :: tn := hk
    rw [List.mem_cons, not_or] at hk'
    rw [PEnv.get_put, if_neg (fun e => hk'.1 e.symm)] at hu'
    exact h k u hu' hk'.2
theorem Clean.restr {B : PSt} {T : PEnv} {tn l : List Nat} (h : Clean B T tn) (hm : meets l tn = false) : EWf B (prestr T l) := prestr_wf fun k v hk hv => h k v hv fun ht => by
  unfold meets at hm
  rw [List.any_eq_false] at hm
  exact hm k hk (by simpa using ht)
theorem runOp_pure {ac : CallF} {p : POper} {a : AOper} (ho : OperSim p a) {d : Option Nat} {g : Option (Nat × Bool)} {q : POp} (hp : p = .op d g q) (hq : q.isP = true ∨ q = .fail) {t : Env} {s : St} {v : AV} {s' : St} (h : runOp ac a t s = some (v, s'))
    (hf : q = .fail → guardOk g t = some false) (b : St) : runOp ac a t b = some (v, b) := by
  subst hp
  cases ho with
  | op d g o ho' =>
    have e : ∀ x, runOp ac (.op d g q.runA) t x = (match guardOk g t with
      | none => none
      | some true => q.runA t x
      | some false => some (.tup [], x)) := fun _ => rfl
    rw [e] at h ⊢
    split at h
    · cases h
    · rename_i hg
      rcases hq with hq | hq
      · exact (POp.pureA hq t s v s' h).2 b
      · rw [hf hq] at hg; cases hg
    · rename_i hg
      cases h; rfl
  | fail d g r =>
    have e : ∀ x, runOp ac (.op d g r) t x = (match guardOk g t with
      | none => none
      | some true => r t x
      | some false => some (.tup [], x)) := fun _ => rfl
    rw [e, hf rfl] at h ⊢
    cases h; rfl
theorem fail_guard {pc : PCallF} {d : Option Nat} {g : Option (Nat × Bool)} {T : PEnv} {S : PSt} {r : V × PSt} (h : prunOp pc (.op d g .fail) T S = some r) : pguardOk g T = some false ∧ r = (.tup [], S) := by
  simp only [prunOp] at h
  split at h
  · cases h
  · cases h
  · rename_i hg; exact ⟨hg, by cases h; rfl⟩
theorem pop_pure {pc : PCallF} {d : Option Nat} {g : Option (Nat × Bool)} {q : POp} (hq : q.pure = true) {T : PEnv} {S : PSt} {v : V} {S' : PSt} (h : prunOp pc (.op d g q) T S = some (v, S')) : S' = S := by
  simp only [prunOp] at h
  split at h
  · cases h
  · exact POp.pure_ hq h
  · cases h; rfl
theorem isP_pure {q : POp} (h : q.isP = true ∨ q = .fail) : q.pure = true := by
  rcases h with h | rfl
  · cases q <;> first | rfl | (cases h; done)
  · rfl
theorem pop_indep {pc : PCallF} {d : Option Nat} {g : Option (Nat × Bool)} {q : POp} (hq : q.isP = true ∨ q = .fail) {T : PEnv} {S : PSt} {v : V} {S' : PSt} (h : prunOp pc (.op d g q) T S = some (v, S')) (B : PSt) : prunOp pc (.op d g q) T B = some (v, B) := by
  simp only [prunOp] at h ⊢
  split at h
  · cases h
  · rename_i hg
    rcases hq with hq | rfl
    · exact POp.indep hq h B
    · cases h
  · rename_i hg
    cases h; rfl

theorem pexecDraw_sim {pc : PCallF} {ac : CallF} (hc : CallSim pc ac) {r0 : Nat} : ∀ {ds : List PDStep} {es : List DStep}, All2 DSim ds es → ∀ {tn : List Nat}, taintOk ds tn = true → ∀ {T : PEnv} {t : Env} {S B : PSt} {s b : St} {l : List PSeen} {m : List Seen} {T' : PEnv} {S' : PSt},
    pexecDraw pc r0 ds T S B l = some (T', S') → ESim T t → Sim S s → EWf S T → Sim B b → Keep B S → Clean B T tn → All2 SeenSim l m → (∀ e ∈ l, EWf B e.T) →
    ∃ t' s', execDraw ac (Pos.of r0) es t s b m = some (t', s') ∧ ESim T' t' ∧ t'.mask = t.mask ∧ Sim S' s' ∧ Keep S S' ∧ EWf S' T'
  | _, _, .nil, tn, htn, T, t, S, B, s, b, l, m, T', S', hf, he, hs, hw, hB, hk, hcl, hl, hlw => by
    cases hf; exact ⟨t, s, rfl, he, rfl, hs, .refl _, hw⟩
  | _, _, .cons (a := d) (b := e) (l := ds) (m := es) hd hds, tn, htn, T, t, S, B, s, b, l, m, T', S', hf, he, hs, hw, hB, hk, hcl, hl, hlw => by
    have hre := prestr_sim he d.names
    have hrw : EWf S (prestr T d.names) := prestr_wf fun k v _ hv => hw k v hv
    have ex : execDraw ac (Pos.of r0) (e :: es) t s b m = (match restr t e.names with
      | r => match e.cls with
        | .p => match runOp ac e.o r b with
          | none => none
          | some (v, _) => execDraw ac (Pos.of r0) es (setDst e.o.dst v t) s b m
        | .q => match runOp ac e.o r b with
          | none => none
          | some (v, _) => execDraw ac (Pos.of r0) es (setDst e.o.dst v t) s b (⟨e.idx, r, e.o, v⟩ :: m)
        | .a => match runOp ac e.o r ⟨s.heap, (Pos.of r0).plus e.idx⟩ with
          | none => none
          | some (v, s1) => execDraw ac (Pos.of r0) es (setDst e.o.dst v t) ⟨s1.heap, s.next⟩ b m
        | .i => match runOp ac e.o r s with
          | none => none
          | some (v, s1) => match recheck ac e.anc m s1 with
            | true => execDraw ac (Pos.of r0) es (setDst e.o.dst v t) s1 s1 m
            | false => none) := rfl
    rw [ex, ← hd.names, ← hd.cls, ← hd.idx, ← hd.anc]
    have hdst := hd.o.dst
    have hfit := hd.fits
    unfold pexecDraw at hf
    unfold taintOk at htn
    cases hcls : d.cls with
    | p =>
      rw [hcls] at hf hfit htn
      simp only at hf htn
      obtain ⟨dd, g, q, ho, hq⟩ := hfit
      split at hf
      · cases hf
      rename_i v S1 h1
      obtain ⟨s1, q1, q2, q3, q4⟩ := prunOp_sim hc hd.o h1 hre hs hrw
      have hS1 : S1 = S := by rw [ho] at h1; exact pop_pure (isP_pure hq) h1
      subst hS1
      have hrb := runOp_pure hd.o ho hq q1 (fun e => by
        rw [ho, e] at h1
        exact pguard_sim hre (fail_guard h1).1) b
      have hcl' : (meets d.names tn = true → Clean B (psetDst d.o.dst v T) (addTaint d.o.dst tn)) ∧ (meets d.names tn ≠ true → Clean B (psetDst d.o.dst v T) (untaint d.o.dst tn)) := by
        refine ⟨fun _ => hcl.taint _ _, fun hm => hcl.put _ ?_⟩
        have hm : meets d.names tn = false := by simpa using hm
        rw [ho] at h1
        have h2 := pop_indep hq h1 B
        rw [← ho] at h2
        obtain ⟨_, _, _, _, r4⟩ := prunOp_sim hc hd.o h2 hre hB (hcl.restr hm)
        exact r4
      split at htn
      · rename_i hm
        obtain ⟨t', s', r1, r2, r3, r4⟩ := pexecDraw_sim hc hds htn hf (psetDst_sim he _ v) hs (psetDst_wf hw _ q4) hB hk (hcl'.1 hm) hl hlw
        refine ⟨t', s', ?_, r2, by rw [r3, mask_setDst], r4⟩
        simp only [hrb, hdst]; exact r1
      · rename_i hm
        obtain ⟨t', s', r1, r2, r3, r4⟩ := pexecDraw_sim hc hds htn hf (psetDst_sim he _ v) hs (psetDst_wf hw _ q4) hB hk (hcl'.2 hm) hl hlw
        refine ⟨t', s', ?_, r2, by rw [r3, mask_setDst], r4⟩
        simp only [hrb, hdst]; exact r1
    | q =>
      rw [hcls] at hf hfit htn
      simp only at hf htn
      rw [Bool.and_eq_true, Bool.not_eq_true'] at htn
      split at hf
      · cases hf
      rename_i v S1 h1
      have hBw := hcl.restr htn.1
      obtain ⟨s1, q1, q2, q3, q4⟩ := prunOp_sim hc hd.o h1 hre hB hBw
      obtain ⟨dd, g, q, ho, hq⟩ := hfit
      have hS1 : S1 = B := by rw [ho] at h1; exact pop_pure hq h1
      subst hS1
      obtain ⟨t', s', r1, r2, r3, r4⟩ := pexecDraw_sim hc hds htn.2 hf (psetDst_sim he _ v) hs (psetDst_wf hw _ (q4.keep hk)) hB hk (hcl.put _ q4)
        (.cons (a := ⟨d.idx, prestr T d.names, d.o, v⟩) (b := ⟨d.idx, restr t d.names, e.o, v.er⟩) ⟨rfl, hre, hd.o, rfl⟩ hl) (fun x hx => by
          rcases List.mem_cons.1 hx with rfl | hx
          · exact hBw
          · exact hlw x hx)
      refine ⟨t', s', ?_, r2, by rw [r3, mask_setDst], r4⟩
      simp only [q1, hdst]; exact r1
    | a =>
      rw [hcls] at hf hfit htn
      simp only at hf htn
      obtain ⟨dd, g, q, ho, hq⟩ := hfit
      split at hf
      case isFalse => cases hf
      rename_i hroom
      split at hf
      · cases hf
      rename_i v S1 h1
      have hs0 : Sim0 ⟨S.heap, r0 + d.idx⟩ ⟨s.heap, (Pos.of r0).plus d.idx⟩ := ⟨plus_of _ _, hs.heap, fun a b h => hs.wf a b h⟩
      have fin : ∀ s1 : St, runOp ac e.o (restr t d.names) ⟨s.heap, (Pos.of r0).plus d.idx⟩ = some (v.er, s1) → Sim ⟨S1.heap, S.next⟩ ⟨s1.heap, s.next⟩ → Keep S ⟨S1.heap, S.next⟩ → Wf ⟨S1.heap, S.next⟩ v →
          ∃ t' s', (match runOp ac e.o (restr t d.names) ⟨s.heap, (Pos.of r0).plus d.idx⟩ with
            | none => none
            | some (v, s1) => execDraw ac (Pos.of r0) es (setDst e.o.dst v t) ⟨s1.heap, s.next⟩ b m) = some (t', s') ∧ ESim T' t' ∧ t'.mask = t.mask ∧ Sim S' s' ∧ Keep S S' ∧ EWf S' T' := fun s1 q1 q2 q3 q4 => by
        obtain ⟨t', s', r1, r2, r3, r4, r5, r6⟩ := pexecDraw_sim hc hds htn hf (psetDst_sim he _ v) q2 (psetDst_wf (hw.keep q3) _ q4) hB (hk.trans q3) (hcl.taint _ _) hl hlw
        refine ⟨t', s', ?_, r2, by rw [r3, mask_setDst], r4, q3.trans r5, r6⟩
        rw [q1]; simp only [hdst]; exact r1
      have same : ∀ s1 : St, S1 = ⟨S.heap, r0 + d.idx⟩ → s1.heap = s.heap → Sim ⟨S1.heap, S.next⟩ ⟨s1.heap, s.next⟩ ∧ Keep S ⟨S1.heap, S.next⟩ := fun s1 h1 h2 => by
        subst h1
        rw [h2]
        exact ⟨hs, .refl _⟩
      have hgs : ∀ gb, pguardOk g (prestr T d.names) = some gb → guardOk g (restr t d.names) = some gb := fun gb h => pguard_sim hre h
      cases hop : e.o with
      | call dd' g' f' l' => have := hd.o; rw [ho, hop] at this; cases this
      | op dd' g' r' =>
      have hos := hd.o
      rw [ho, hop] at hos
      have eR : ∀ x, runOp ac (.op dd' g' r') (restr t d.names) x = (match guardOk g' (restr t d.names) with
          | none => none
          | some true => r' (restr t d.names) x
          | some false => some (.tup [], x)) := fun _ => rfl
      have hg' : g' = g := by cases hos <;> rfl
      subst hg'
      rw [ho] at h1
      simp only [prunOp] at h1
      rw [hop] at fin
      split at h1
      · cases h1
      · rename_i hg
        cases hos with
        | fail => cases h1
        | op _ _ _ hok =>
        rcases hq with hq | rfl
        · obtain ⟨bb, x, g1, g2, g3, g4, g5⟩ := POp.made hq hok h1 hre hs0 hrw hroom.1
          subst g1
          have hkn : Keep S ⟨(PSt.new ⟨S.heap, r0 + d.idx⟩ bb).heap, S.next⟩ := by
            have := Keep.new (S := ⟨S.heap, r0 + d.idx⟩) hroom.1 bb
            exact ⟨Nat.le_refl _, this.row⟩
          have hsn := hs0.new hroom.1 g3 g4
          refine fin (St.new ⟨s.heap, (Pos.of r0).plus d.idx⟩ x) (by rw [eR, hgs _ hg]; exact g2) ⟨⟨hs.next, hsn.heap, hsn.wf⟩, fun a ha => by
            have ha' : S.next ≤ a := ha
            show (if a = r0 + d.idx then _ else _) = none
            rw [if_neg (by have := hroom.2; omega)]
            exact hs.fresh a ha'⟩ hkn g5
        · cases h1
      · rename_i hg
        cases h1
        have := same ⟨s.heap, (Pos.of r0).plus d.idx⟩ rfl rfl
        exact fin _ (by rw [eR, hgs _ hg]; rfl) this.1 this.2 wf_tup0
    | i =>
      rw [hcls] at hf htn
      simp only at hf htn
      split at hf
      · cases hf
      rename_i v S1 h1
      split at hf
      case isFalse => cases hf
      rename_i hpre
      obtain ⟨s1, q1, q2, q3, q4⟩ := prunOp_sim hc hd.o h1 hre hs hrw
      have hk1 := hk.trans q3
      have hchk := precheck_sim hc q2 hl (fun x hx => (hlw x hx).keep hk1) hpre
      obtain ⟨t', s', r1, r2, r3, r4, r5, r6⟩ := pexecDraw_sim hc hds htn hf (psetDst_sim he _ v) q2 (psetDst_wf (hw.keep q3) _ q4) q2 (.refl _) (fun k u hu _ => psetDst_wf (hw.keep q3) _ q4 k u hu) hl (fun x hx => (hlw x hx).keep hk1)
      refine ⟨t', s', ?_, r2, by rw [r3, mask_setDst], r4, q3.trans r5, r6⟩
      simp only [q1, hchk, hdst]; exact r1
end Go.Abs
