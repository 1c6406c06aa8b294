/- Code, calls: the abstract machine follows. -/
import Derived.Test.YtnhebanimmicaaaGreatDoorPm8
namespace Go.Abs

noncomputable def resA (t : Env) (s : St) (r : ARes) : Option AV := match r with
      | .tmp p => t.get p
      | .cell1 p => match t.get p with
        | some (.ptr b o) => match s.heap.get b with
          | some (.cells c _ _) => c.get (Pos.of o)
          | _ => none
        | _ => none
      | .cellN p n => match t.get p with
        | some (.ptr b o) => match s.read b o n with
          | some l => some (.agg l)
          | none => none
        | _ => none
theorem presVals_sim {T : PEnv} {t : Env} {S : PSt} {s : St} (he : ESim T t) (hs : Sim S s) (hw : EWf S T) : ∀ {res : List ARes} {l : List V}, presVals T S res = some l → resVals t s res = some (l.map V.er) ∧ ∀ u ∈ l, Wf S u
  | [], l, h => by cases h; exact ⟨rfl, fun u hu => by cases hu⟩
  | r :: res, l, h => by
    have e : resVals t s (r :: res) = (match resA t s r with
    | none => none
    | some v => match resVals t s res with
      | none => none
      | some l => some (v :: l)) := rfl
    unfold presVals at h
    split at h
    · cases h
    rename_i v hv
    split at h
    · cases h
    rename_i vs hvs
    cases h
    obtain ⟨i1, i2⟩ := presVals_sim he hs hw hvs
    have key : resA t s r = some v.er ∧ Wf S v := by
      cases r with
      | tmp p =>
        have hv' : T.get p = some v := hv
        have := he p
        rw [hv'] at this
        exact ⟨this, hw p v hv'⟩
      | cell1 p =>
        simp only [resA] at hv ⊢
        split at hv
        case h_2 => cases hv
        rename_i a o hp
        have hg := he p
        rw [hp] at hg
        split at hv
        case h_2 => cases hv
        rename_i cs hb
        obtain ⟨x, h1, c, rfl, h3⟩ := hs.heap a _ hb
        have hg' : t.get p = some (.ptr (Pos.of a) o) := hg
        rw [hg']
        simp only [h1]
        refine ⟨by rw [h3, hv]; rfl, hs.wf a _ hb v (List.mem_of_getElem? hv)⟩
      | cellN p n =>
        simp only [resA] at hv ⊢
        split at hv
        case h_2 => cases hv
        rename_i a o hp
        have hg := he p
        rw [hp] at hg
        split at hv
        case h_2 => cases hv
        rename_i cs hb
        split at hv
        case isFalse => cases hv
        rename_i hl
        cases hv
        obtain ⟨x, h1, c, rfl, h3⟩ := hs.heap a _ hb
        have hg' : t.get p = some (.ptr (Pos.of a) o) := hg
        rw [hg']
        simp only [St.read, h1, holds_read h3 n o hl]
        refine ⟨by simp [V.er, V.ers_eq], .agg fun u hu => hs.wf a _ hb u (List.mem_of_mem_drop (List.mem_of_mem_take hu))⟩
    rw [e, key.1, i1]
    exact ⟨rfl, fun u hu => by
      rcases List.mem_cons.1 hu with rfl | hu
      · exact key.2
      · exact i2 u hu⟩

theorem pargs_get : ∀ (l : List V) (i k : Nat), (pargs l i).get k = if i ≤ k ∧ k < i + l.length then l[k - i]? else none
  | [], i, k => by
    rw [if_neg (by simp)]; rfl
  | v :: l, i, k => by
    unfold pargs
    rw [PEnv.get_cons]
    by_cases h : i = k
    · subst h
      rw [if_pos rfl, if_pos (by simp)]; simp
    · rw [if_neg h, pargs_get l (i + 1) k]
      by_cases h2 : i + 1 ≤ k ∧ k < i + 1 + l.length
      · rw [if_pos h2, if_pos (by simp; omega)]
        have : k - i = (k - (i + 1)) + 1 := by omega
        rw [this, List.getElem?_cons_succ]
      · rw [if_neg h2, if_neg (by simp; omega)]
theorem pargs_sim (m : Nat) (args : List V) : ESim (pflush m (pargs args 0)) (.base m (T.fill (args.map V.er) 0 .leaf)) := fun k => by
  rw [get_filter, Env.get_base, pargs_get]
  split
  · rw [T.get_fill, T.get_leaf]
    simp only [List.length_map]
    split
    · simp
    · rfl
  · rfl
theorem pargs_wf {S : PSt} {args : List V} (h : ∀ u ∈ args, Wf S u) (m : Nat) : EWf S (pflush m (pargs args 0)) := pflush_wf (fun k v hv => by
  rw [pargs_get] at hv
  split at hv
  · exact h v (List.mem_of_getElem? hv)
  · cases hv) m

/-- How a program of this machine stands to one of the abstract one. -/
structure ProgSim (pp : Nat → Option PFn) (ap : Nat → Option AFn) : Prop where
  body : ∀ f m c res, pp f = some (.body m c res) → ∃ n c', ap f = some (.body n m c' res) ∧ CSim c c'
  prim : ∀ f F, pp f = some (.prim F) → ∀ (ex : ACode → Env → St → Option (AExit × Env × St)) (args : List V) (S : PSt) (s : St) (v : V) (S' : PSt), F args S = some (v, S') → Sim S s → (∀ u ∈ args, Wf S u) →
    ∃ s', callFn ap ex f (args.map V.er) s = some (v.er, s') ∧ Sim S' s' ∧ Keep S S' ∧ Wf S' v
def ExSim (px : Nat → PCode → PEnv → PSt → PRes) (ax : ACode → Env → St → Option (AExit × Env × St)) : Prop :=
  ∀ (m : Nat) {c : PCode} {c' : ACode}, CSim c c' → ∀ (T : PEnv) (t : Env) (S : PSt) (s : St) (e : AExit) (T' : PEnv) (S' : PSt), px m c T S = some (e, T', S') → ESim T t → t.mask = m → Sim S s → EWf S T →
    ∃ t' s', ax c' t s = some (e, t', s') ∧ ESim T' t' ∧ t'.mask = m ∧ Sim S' s' ∧ Keep S S' ∧ EWf S' T'

theorem poneOf_er (l : List V) : (poneOf l).er = (match l.map V.er with
    | [v] => v
    | l => .tup l) := by
  unfold poneOf
  split
  · rfl
  · rename_i h
    match l, h with
    | [], _ => rfl
    | [v], h => exact absurd rfl (h v)
    | a :: b :: l, _ => simp [V.er, V.ers_eq]
theorem poneOf_wf {S : PSt} {l : List V} (h : ∀ u ∈ l, Wf S u) : Wf S (poneOf l) := by
  unfold poneOf
  split
  · exact h _ (List.mem_cons_self ..)
  · exact .tup h
theorem prunBody_sim {px : PCode → PEnv → PSt → PRes} {ax : ACode → Env → St → Option (AExit × Env × St)} {m : Nat} {c : PCode} {c' : ACode}
    (hx : ∀ (T : PEnv) (t : Env) (S : PSt) (s : St) (e : AExit) (T' : PEnv) (S' : PSt), px c T S = some (e, T', S') → ESim T t → t.mask = m → Sim S s → EWf S T →
      ∃ t' s', ax c' t s = some (e, t', s') ∧ ESim T' t' ∧ t'.mask = m ∧ Sim S' s' ∧ Keep S S' ∧ EWf S' T')
    {res : List ARes} {args : List V} {S : PSt} {s : St} {v : V} {S' : PSt} (h : prunBody px m c res args S = some (v, S')) (hs : Sim S s) (hw : ∀ u ∈ args, Wf S u) :
    ∃ s', runBody ax m c' res (args.map V.er) s = some (v.er, s') ∧ Sim S' s' ∧ Keep S S' ∧ Wf S' v := by
  unfold prunBody at h
  split at h
  · cases h
  rename_i e T1 S1 h1
  obtain ⟨t1, s1, q1, q2, q3, q4, q5, q6⟩ := hx _ _ _ _ _ _ _ h1 (pargs_sim m args) rfl hs (pargs_wf hw m)
  have fin : ∀ l, presVals T1 S1 res = some l → v = poneOf l → S' = S1 → (∀ id, e ≠ .exit id) → ∃ s', runBody ax m c' res (args.map V.er) s = some (v.er, s') ∧ Sim S' s' ∧ Keep S S' ∧ Wf S' v := fun l hl h1 h2 h3 => by
    subst h1; subst h2
    obtain ⟨r1, r2⟩ := presVals_sim q2 q4 q6 hl
    refine ⟨s1, ?_, q4, q5, poneOf_wf r2⟩
    unfold runBody
    rw [q1, poneOf_er]
    cases e with
    | exit id => exact absurd rfl (h3 id)
    | normal =>
      simp only [r1]
      generalize l.map V.er = k
      match k with
      | [] => rfl
      | [_] => rfl
      | _ :: _ :: _ => rfl
    | ret =>
      simp only [r1]
      generalize l.map V.er = k
      match k with
      | [] => rfl
      | [_] => rfl
      | _ :: _ :: _ => rfl
  cases e with
  | exit id => cases h
  | normal =>
    simp only at h
    split at h
    · cases h
    rename_i l hl
    cases h
    exact fin l hl rfl rfl (fun _ h => by cases h)
  | ret =>
    simp only at h
    split at h
    · cases h
    rename_i l hl
    cases h
    exact fin l hl rfl rfl (fun _ h => by cases h)
theorem pcallFn_sim {pp : Nat → Option PFn} {ap : Nat → Option AFn} (hp : ProgSim pp ap) {px : Nat → PCode → PEnv → PSt → PRes} {ax : ACode → Env → St → Option (AExit × Env × St)} (hx : ExSim px ax) : CallSim (pcallFn pp px) (callFn ap ax) := by
  intro f args S s v S' h hs hw
  unfold pcallFn at h
  split at h
  · cases h
  · rename_i F hF
    exact hp.prim f F hF ax args S s v S' h hs hw
  · rename_i m c res hf
    obtain ⟨n, c', h1, h2⟩ := hp.body f m c res hf
    obtain ⟨s', q1, q2⟩ := prunBody_sim (hx m h2) h hs hw
    refine ⟨s', ?_, q2⟩
    unfold callFn
    rw [h1]
    exact q1

theorem pexec_sim {pp : Nat → Option PFn} {ap : Nat → Option AFn} (hp : ProgSim pp ap) : ∀ n, ExSim (pexec pp n) (exec ap n) := by
  intro n
  induction n with
  | zero => intro m c c' hc T t S s e T' S' h; cases h
  | succ n ih =>
    intro m c c' hc T t S s e T' S' h he hm hs hw
    have hcall := pcallFn_sim hp ih
    cases hc with
    | skip => cases h; exact ⟨t, s, rfl, he, hm, hs, .refl _, hw⟩
    | exit id => cases h; exact ⟨t, s, rfl, he, hm, hs, .refl _, hw⟩
    | ret => cases h; exact ⟨t, s, rfl, he, hm, hs, .refl _, hw⟩
    | dead a => cases h
    | region hl =>
      rename_i ps qs
      simp only [pexec] at h
      split at h
      case h_2 => cases h
      rename_i T1 S1 h1
      cases h
      obtain ⟨t1, s1, r1, r2, r3, r4, r5, r6⟩ := pexecOps_sim hcall hl h1 he hs hw
      obtain ⟨f1, f2⟩ := pflush_sim r2
      refine ⟨t1.flush, s1, ?_, by rw [← hm, ← r3]; exact f1, by rw [f2, r3, hm], r4, r5, pflush_wf r6 m⟩
      have eq : exec ap (n + 1) (.region qs) t s = (match execOps (callFn ap (exec ap n)) qs t s with
        | some (t', s') => retE .normal t'.flush s'
        | none => none) := rfl
      rw [eq, r1]
      exact retE_eq _ _ _
    | draw k hd ht =>
      rename_i ds es
      simp only [pexec] at h
      split at h
      case h_2 => cases h
      rename_i T1 S1 h1
      cases h
      have hs' : Sim ⟨S.heap, S.next + k⟩ ⟨s.heap, s.next.plus k⟩ := ⟨⟨by
          show s.next.plus k = _
          rw [hs.next, plus_of], hs.heap, hs.wf⟩, fun a ha => hs.fresh a (by have ha' : S.next + k ≤ a := ha; omega)⟩
      have hk' : Keep S ⟨S.heap, S.next + k⟩ := ⟨Nat.le_add_right _ _, fun a cs lk h => ⟨lk, h⟩⟩
      have hw' := hw.keep hk'
      obtain ⟨t1, s1, r1, r2, r3, r4, r5, r6⟩ := pexecDraw_sim hcall hd ht h1 he hs' hw' hs' (.refl _) (fun k v hv _ => hw' k v hv) .nil (fun x hx => by cases hx)
      obtain ⟨f1, f2⟩ := pflush_sim r2
      refine ⟨t1.flush, s1, ?_, by rw [← hm, ← r3]; exact f1, by rw [f2, r3, hm], r4, hk'.trans r5, pflush_wf r6 m⟩
      have eq : exec ap (n + 1) (.draw k es) t s = (match execDraw (callFn ap (exec ap n)) s.next es t ⟨s.heap, s.next.plus k⟩ ⟨s.heap, s.next.plus k⟩ [] with
        | some (t', s') => retE .normal t'.flush s'
        | none => none) := rfl
      rw [← hs.next] at r1
      rw [eq, r1]
      exact retE_eq _ _ _
    | seq ha hb =>
      rename_i a b a' b'
      simp only [pexec] at h
      split at h
      · cases h
      rename_i e1 T1 S1 h1
      obtain ⟨t1, s1, r1, r2, r3, r4, r5, r6⟩ := ih m ha _ _ _ _ _ _ _ h1 he hm hs hw
      have eq : exec ap (n + 1) (.seq a' b') t s = (match exec ap n a' t s with
        | none => none
        | some (e, t', s') => match e with
          | .normal => exec ap n b' t' s'
          | .exit id => some (.exit id, t', s')
          | .ret => some (.ret, t', s')) := rfl
      rw [eq, r1]
      cases e1 with
      | normal =>
        obtain ⟨t2, s2, g1, g2, g3, g4, g5, g6⟩ := ih m hb _ _ _ _ _ _ _ h r2 r3 r4 r6
        exact ⟨t2, s2, g1, g2, g3, g4, r5.trans g5, g6⟩
      | exit id => cases h; exact ⟨t1, s1, rfl, r2, r3, r4, r5, r6⟩
      | ret => cases h; exact ⟨t1, s1, rfl, r2, r3, r4, r5, r6⟩
    | cond c ha hb =>
      rename_i a b a' b'
      simp only [pexec] at h
      split at h
      case h_2 => cases h
      rename_i v hv
      have eq : exec ap (n + 1) (.cond c.toA a' b') t s = (match ev t c.toA with
        | some (.bool v) => match v with
          | true => exec ap n a' t s
          | false => exec ap n b' t s
        | _ => none) := rfl
      rw [eq, pev_sim he hv]
      cases v with
      | true => exact ih m ha _ _ _ _ _ _ _ h he hm hs hw
      | false => exact ih m hb _ _ _ _ _ _ _ h he hm hs hw
    | block id ha =>
      rename_i a a'
      simp only [pexec] at h
      split at h
      · cases h
      rename_i e1 T1 S1 h1
      obtain ⟨t1, s1, r1, r2, r3, r4, r5, r6⟩ := ih m ha _ _ _ _ _ _ _ h1 he hm hs hw
      have eq : exec ap (n + 1) (.block id a') t s = (match exec ap n a' t s with
        | none => none
        | some (e, t', s') => match e with
          | .normal => some (.normal, t', s')
          | .exit i => match Nat.beq i id with
            | true => some (.normal, t', s')
            | false => some (.exit i, t', s')
          | .ret => some (.ret, t', s')) := rfl
      rw [eq, r1]
      cases e1 with
      | normal => cases h; exact ⟨t1, s1, rfl, r2, r3, r4, r5, r6⟩
      | exit i =>
        simp only at h ⊢
        by_cases hi : i = id
        · rw [if_pos hi] at h
          cases h
          rw [show Nat.beq i id = true from by rw [hi]; exact Nat.beq_refl _]
          exact ⟨t1, s1, rfl, r2, r3, r4, r5, r6⟩
        · rw [if_neg hi] at h
          cases h
          rw [show Nat.beq i id = false from by
            cases hb : Nat.beq i id with
            | false => rfl
            | true => exact absurd (Nat.eq_of_beq_eq_true hb) hi]
          exact ⟨t1, s1, rfl, r2, r3, r4, r5, r6⟩
      | ret => cases h; exact ⟨t1, s1, rfl, r2, r3, r4, r5, r6⟩
    | loop ha =>
      rename_i a a'
      simp only [pexec] at h
      split at h
      · cases h
      rename_i e1 T1 S1 h1
      obtain ⟨t1, s1, r1, r2, r3, r4, r5, r6⟩ := ih m ha _ _ _ _ _ _ _ h1 he hm hs hw
      have eq : exec ap (n + 1) (.loop a') t s = (match exec ap n a' t s with
        | none => none
        | some (e, t', s') => match e with
          | .normal => exec ap n (.loop a') t' s'
          | .exit i => some (.exit i, t', s')
          | .ret => some (.ret, t', s')) := rfl
      rw [eq, r1]
      cases e1 with
      | normal =>
        obtain ⟨t2, s2, g1, g2, g3, g4, g5, g6⟩ := ih m (.loop ha) _ _ _ _ _ _ _ h r2 r3 r4 r6
        exact ⟨t2, s2, g1, g2, g3, g4, r5.trans g5, g6⟩
      | exit id => cases h; exact ⟨t1, s1, rfl, r2, r3, r4, r5, r6⟩
      | ret => cases h; exact ⟨t1, s1, rfl, r2, r3, r4, r5, r6⟩
end Go.Abs
