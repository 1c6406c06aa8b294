/- Drawn regions: one step of the model, in the run that is held against it. -/
import Derived.Test.YtnhebanimmicaaaGreatDoorAb18
namespace Go.Abs

theorem reals_append : ∀ (l m : List G), reals (l ++ m) = reals l ++ reals m
  | [], m => rfl
  | .ghost _ _ :: l, m => reals_append l m
  | .real d :: l, m => congrArg (List.cons (G.real d)) (reals_append l m)
theorem reals_reals : ∀ (l : List G), reals (reals l) = reals l
  | [] => rfl
  | .ghost _ _ :: l => reals_reals l
  | .real d :: l => congrArg (List.cons (G.real d)) (reals_reals l)

structure DInv (P : Program) (N : Nat) (ops : Array Oper) (bef : List Nat) (call : CallF) (F0 : Env × St) (μ0 : Mu) (s0 : St) (w0 : World) (ds : List Deferred)
    (listed : Array Bool) (a : Act) (w : World) (μ : Mu) (t : Env) (s : St) (gs : List G) : Prop where
  run : ∃ F, execG call s0.next gs t s s [] = some F ∧ Like F0 F
  ht : TRel μ N t a.tmps
  hR : R μ s w
  hE : Ext μ0 s0 w0 μ s w
  hd : a.defers = ds
  gh : ∀ id x, G.ghost id x ∈ gs → GhostOk μ s w w0.heap.size s0.next id x
  al : ∀ d, G.real d ∈ gs → d.cls = .a → μ (s0.next.plus d.idx) = none ∧ (s0.next.plus d.idx).toNat < s.next.toNat
  ok : ∀ d, G.real d ∈ gs → StepOk P N ops bef d
  pw : gs.Pairwise (GRel μ)

section
variable {P : Program} {N : Nat} {ops : Array Oper} {bef : List Nat} {call : CallF} {F0 : Env × St} {μ0 : Mu} {s0 : St} {w0 : World} {ds : List Deferred} {listed : Array Bool}

theorem DInv.done {a : Act} {w : World} {μ : Mu} {t : Env} {s : St} {gs : List G} (h : DInv P N ops bef call F0 μ0 s0 w0 ds listed a w μ t s gs) (hn : ∀ d, G.real d ∉ gs) :
    TRel μ N F0.1 a.tmps ∧ R μ F0.2 w ∧ Ext μ0 s0 w0 μ F0.2 w := by
  obtain ⟨F, h1, h2, h3⟩ := h.run
  rw [execG_done hn] at h1
  cases h1
  have := lays_ok (rest := []) gs h.hR h.hE (fun id x hx => h.gh id x (by simpa using hx)) (by simpa using h.pw)
  refine ⟨⟨h.ht.size, fun j v hv => h.ht.get j v (by rw [← h2]; exact hv)⟩, ?_, ?_⟩
  · rw [h3]; exact this.1
  · rw [h3]; exact this.2.1

theorem pw_drop {μ : Mu} {pre post : List G} {x : G} (h : (pre ++ x :: post).Pairwise (GRel μ)) : (pre ++ post).Pairwise (GRel μ) :=
  h.sublist ((List.sublist_cons_self x post).append_left pre)

theorem mem_drop {pre post : List G} {x y : G} (h : y ∈ pre ++ post) : y ∈ pre ++ x :: post := by
  rw [List.mem_append] at h ⊢
  exact h.imp id (List.mem_cons_of_mem _)

theorem GRel.mono {μ μ' : Mu} {w : World} {s : St} {m : Nat} {r0 : Pos} (hle : μ.le μ') {x y : G} (hx : ∀ id b, x = .ghost id b → GhostOk μ s w m r0 id b) (hy : ∀ id b, y = .ghost id b → GhostOk μ s w m r0 id b) (h : GRel μ x y) : GRel μ' x y := by
  cases x with
  | real e => cases y <;> exact h
  | ghost id b =>
    cases y with
    | real d => exact h
    | ghost id' b' =>
      intro c d e c' d' e' h1 h2
      obtain ⟨c1, d1, e1, k1, _⟩ := (hx id b rfl).blk
      obtain ⟨c2, d2, e2, k2, _⟩ := (hy id' b' rfl).blk
      rw [hle _ _ k1] at h1; cases h1
      rw [hle _ _ k2] at h2; cases h2
      exact h _ _ _ _ _ _ k1 k2

theorem GhostOk.ext {μ μ' : Mu} {s s' : St} {w w' : World} {m : Nat} {r0 id : Pos} {x : Blk} (g : GhostOk μ s w m r0 id x) (e : Ext μ s w μ' s' w') : GhostOk μ' s' w' m r0 id x := by
  obtain ⟨c, d, t, k1, k2, k3, k4⟩ := g.blk
  exact ⟨⟨c, d, t, e.le _ _ k1, k2.mono e.le (e.keep c k2.lt k3), e.own c k2.lt k3, k4⟩, g.lo, Nat.lt_of_lt_of_le g.hi e.next, g.mate⟩

/-- A step that reads memory at most. -/
theorem DInv.pq (hcall : CallOk P call) {a : Act} {w : World} {μ : Mu} {t : Env} {s : St} {pre post : List G} {d : DStep} (h : DInv P N ops bef call F0 μ0 s0 w0 ds listed a w μ t s (pre ++ .real d :: post))
    (hc : d.cls = .p ∨ d.cls = .q) (hpre : ∀ e, G.real e ∈ pre → apartD e d = true ∧ (d.cls = .q → e.cls.isI = false)) (hU : FreeUp μ s.next) {K : Act → World → Prop} {Q : Exit → Act → World → Prop}
    (hK : ∀ a' w' μ' v, DInv P N ops bef call F0 μ0 s0 w0 ds listed a' w' μ' (setDst d.o.dst v t) s (pre ++ post) → K a' w') : wpOp P ops Q d.idx K a w := by
  obtain ⟨F, hF, hL⟩ := h.run
  have hok := h.ok d (by simp)
  obtain ⟨v, hr, F', hF', hL'⟩ := move_pq hc hok pre t s s [] F (fun e he => ⟨h.ok e (List.mem_append_left _ he), hpre e he⟩) hF
  obtain ⟨o, ho, hco, _, _⟩ := hok
  refine runOp_ok hcall ho hco hr (h.ht.restr _) h.hR hU.free (fun _ _ _ _ _ => hU) fun μ' v' w' hv hR hE => hK _ _ μ' v ?_
  exact {
    run := ⟨F', hF', hL.trans hL'⟩
    ht := (h.ht.mono hE.le).put (coper_dst hco) hv
    hR := hR
    hE := h.hE.trans hE
    hd := by rw [defers_put]; exact h.hd
    gh := fun id x hx => (h.gh id x (mem_drop hx)).ext hE
    al := fun e he ha => by
      obtain ⟨h1, h2⟩ := h.al e (mem_drop he) ha
      exact ⟨by rw [hE.mu _ (.inl h2)]; exact h1, h2⟩
    ok := fun e he => h.ok e (mem_drop he)
    pw := (pw_drop h.pw).imp_of_mem fun ha hb hr => hr.mono hE.le (fun id b e => h.gh id b (by rw [← e]; exact mem_drop ha)) (fun id b e => h.gh id b (by rw [← e]; exact mem_drop hb)) }

theorem R.leaf (μ : Mu) (p : Pos) (w : World) : R μ ⟨.leaf, p⟩ w := by
  have h : ∀ q x, (St.mk .leaf p).heap.get q ≠ some x := fun q x hq => by
    rw [show (St.mk .leaf p).heap.get q = none from T.get_leaf q] at hq
    cases hq
  exact ⟨fun q _ => T.get_leaf q, fun q x hq => absurd hq (h q x), fun q r x y b d t d' t' hq => absurd hq (h q x)⟩

/-- A step that makes a row. -/
theorem DInv.a (hcall : CallOk P call) {a : Act} {w : World} {μ : Mu} {t : Env} {s : St} {pre post : List G} {d : DStep} (h : DInv P N ops bef call F0 μ0 s0 w0 ds listed a w μ t s (pre ++ .real d :: post))
    (hc : d.cls = .a) (hpre : ∀ e, G.real e ∈ pre → apartD e d = true) (hU : FreeUp μ s.next) {K : Act → World → Prop} {Q : Exit → Act → World → Prop}
    (hK : ∀ a' w' μ' v gs, DInv P N ops bef call F0 μ0 s0 w0 ds listed a' w' μ' (setDst d.o.dst v t) s gs → reals gs = reals (pre ++ post) → K a' w') : wpOp P ops Q d.idx K a w := by
  obtain ⟨F, hF, hL⟩ := h.run
  have hok := h.ok d (by simp)
  have hni : ∀ dd g f l, d.o ≠ .call dd g f l := by
    intro dd g f l e
    obtain ⟨o, _, h2, h3, _⟩ := hok
    rw [hc] at h3
    obtain ⟨_, _, he⟩ := coper_op h2 (by rw [h3]; simp)
    rw [e] at he; cases he
  obtain ⟨v, hv⟩ := move_a hc hok pre t s s [] F hpre hF
  have hid := h.al d (by simp) hc
  obtain ⟨o, ho, hco, _, _⟩ := hok
  rcases hv with ⟨hr, F', hF', hL'⟩ | ⟨l0, hr, F', hF', hL'⟩
  · refine runOp_ok hcall ho hco (hr s) (h.ht.restr _) h.hR hU.free (fun _ _ _ _ _ => hU) fun μ' v' w' hv hR hE => hK _ _ μ' v (pre ++ post) ?_ rfl
    exact {
      run := ⟨F', hF', hL.trans hL'⟩
      ht := (h.ht.mono hE.le).put (coper_dst hco) hv
      hR := hR
      hE := h.hE.trans hE
      hd := by rw [defers_put]; exact h.hd
      gh := fun id x hx => (h.gh id x (mem_drop hx)).ext hE
      al := fun e he ha => by
        obtain ⟨h1, h2⟩ := h.al e (mem_drop he) ha
        exact ⟨by rw [hE.mu _ (.inl h2)]; exact h1, h2⟩
      ok := fun e he => h.ok e (mem_drop he)
      pw := (pw_drop h.pw).imp_of_mem fun ha hb hr => hr.mono hE.le (fun id b e => h.gh id b (by rw [← e]; exact mem_drop ha)) (fun id b e => h.gh id b (by rw [← e]; exact mem_drop hb)) }
  · have hsucc : (s0.next.plus d.idx).succ.toNat = (s0.next.plus d.idx).toNat + 1 := Pos.toNat_succ _
    refine runOp_ok hcall ho hco (hr ⟨.leaf, s0.next.plus d.idx⟩ rfl) (h.ht.restr _) (R.leaf μ _ w) (fun p h1 h2 => ?_) (fun _ _ _ _ e => absurd e (hni _ _ _ _)) fun μ' v' w' hv hR hE => ?_
    · have h2' : p.toNat < (s0.next.plus d.idx).succ.toNat := h2
      have h1' : (s0.next.plus d.idx).toNat ≤ p.toNat := h1
      rw [Pos.toNat_inj (show p.toNat = (s0.next.plus d.idx).toNat by omega)]
      exact hid.1
    have hkeep : ∀ b, b < w.heap.size → w'.heap[b]? = w.heap[b]? := fun b hb => hE.keep b hb fun q x d' t' hq => by
      rw [show (St.mk .leaf _).heap.get q = none from T.get_leaf q] at hq; cases hq
    have hmu : ∀ p, p ≠ s0.next.plus d.idx → μ' p = μ p := fun p hp => hE.mu p (by
      show p.toNat < (s0.next.plus d.idx).toNat ∨ (s0.next.plus d.idx).succ.toNat ≤ p.toNat
      rcases Nat.lt_trichotomy p.toNat (s0.next.plus d.idx).toNat with h | h | h
      · exact .inl h
      · exact absurd (Pos.toNat_inj h) hp
      · exact .inr (by omega))
    have hown : ∀ b, NotIn μ s b → b < w.heap.size → NotIn μ' s b := fun b hn hb q x d' t' hq => by
      obtain ⟨b', d1, t1, k1, _⟩ := h.hR.blk q x hq
      rw [hE.le _ _ k1, ← k1]
      exact hn q x d' t' hq
    obtain ⟨c, e1, t1, k1, k2⟩ := hR.blk (s0.next.plus d.idx) (.cells (rowOf l0) l0.length none) (by
      show ((T.leaf : T Blk).put (some _) (s0.next.plus d.idx)).get (s0.next.plus d.idx) = _
      rw [T.get_put, if_pos rfl])
    have hcge : w.heap.size ≤ c := by
      rcases Nat.lt_or_ge c w.heap.size with hlt | hge
      · have : NotIn μ' ((St.mk .leaf (s0.next.plus d.idx)).new (.cells (rowOf l0) l0.length none)) c := hE.own c hlt fun q x d' t' hq => by
          rw [show (St.mk .leaf _).heap.get q = none from T.get_leaf q] at hq; cases hq
        refine absurd k1 (this _ (.cells (rowOf l0) l0.length none) _ _ ?_)
        show ((T.leaf : T Blk).put (some _) (s0.next.plus d.idx)).get (s0.next.plus d.idx) = _
        rw [T.get_put, if_pos rfl]
      · exact hge
    have hnot : NotIn μ' s c := fun q x d' t' hq => by
      obtain ⟨b', d1, t1, q1, q2⟩ := h.hR.blk q x hq
      rw [hE.le _ _ q1]
      intro e
      have := q2.lt
      cases e
      omega
    have hpl : (s0.next.plus d.idx).toNat = s0.next.toNat + d.idx := Pos.toNat_plus _ _
    have gold : ∀ id x, G.ghost id x ∈ pre ++ post → GhostOk μ' s w' w0.heap.size s0.next id x := fun id x hx => by
      have g := h.gh id x (mem_drop hx)
      obtain ⟨c', d', t', q1, q2, q3, q4⟩ := g.blk
      exact ⟨⟨c', d', t', hE.le _ _ q1, q2.mono hE.le (hkeep _ q2.lt), hown _ q3 q2.lt, q4⟩, g.lo, g.hi, g.mate⟩
    have gnew : GhostOk μ' s w' w0.heap.size s0.next (s0.next.plus d.idx) (.cells (rowOf l0) l0.length none) :=
      ⟨⟨c, e1, t1, k1, k2, hnot, Nat.le_trans h.hE.size hcge⟩, by omega, hid.2, rfl⟩
    have hmem : ∀ y, y ∈ pre ++ .ghost (s0.next.plus d.idx) (.cells (rowOf l0) l0.length none) :: post → y = .ghost (s0.next.plus d.idx) (.cells (rowOf l0) l0.length none) ∨ y ∈ pre ++ post := fun y hy => by
      rw [List.mem_append, List.mem_cons] at hy
      rw [List.mem_append]
      rcases hy with h | h | h
      · exact .inr (.inl h)
      · exact .inl h
      · exact .inr (.inr h)
    have hpw := (pw_drop h.pw).imp_of_mem fun ha hb hr => hr.mono hE.le (fun id b e => h.gh id b (by rw [← e]; exact mem_drop ha)) (fun id b e => h.gh id b (by rw [← e]; exact mem_drop hb))
    have hapart : ∀ id x, G.ghost id x ∈ pre ++ post → ∀ c' d' t', μ' id = some (c', d', t') → c' ≠ c := fun id x hx c' d' t' he => by
      obtain ⟨c2, d2, t2, q1, q2, _⟩ := (h.gh id x (mem_drop hx)).blk
      rw [hE.le _ _ q1] at he
      cases he
      have := q2.lt
      omega
    refine hK _ _ μ' v (pre ++ .ghost (s0.next.plus d.idx) (.cells (rowOf l0) l0.length none) :: post) ?_ ?_
    · exact {
        run := ⟨F', hF', hL.trans hL'⟩
        ht := (h.ht.mono hE.le).put (coper_dst hco) hv
        hR := ⟨h.hR.fresh, fun p x hp => by
          obtain ⟨b', d', t', q1, q2⟩ := h.hR.blk p x hp
          exact ⟨b', d', t', hE.le _ _ q1, q2.mono hE.le (hkeep _ q2.lt)⟩, fun p q x y b d1 t1 d2 t2 hp hq m1 m2 hne => by
          obtain ⟨b1, d1', t1', q1, _⟩ := h.hR.blk p x hp
          obtain ⟨b2, d2', t2', q2, _⟩ := h.hR.blk q y hq
          rw [hE.le _ _ q1, ← q1] at m1
          rw [hE.le _ _ q2, ← q2] at m2
          exact h.hR.apart p q x y b d1 t1 d2 t2 hp hq m1 m2 hne⟩
        hE := {
          le := h.hE.le.trans hE.le
          mu := fun p hp => by
            have := hid.2
            rw [hmu p (fun e => by rw [e] at hp; omega), h.hE.mu p hp]
          next := h.hE.next
          size := Nat.le_trans h.hE.size hE.size
          os := hE.os.trans h.hE.os
          tape := hE.tape.trans h.hE.tape
          output := hE.output.trans h.hE.output
          keep := fun b hb hn => (hkeep b (Nat.lt_of_lt_of_le hb h.hE.size)).trans (h.hE.keep b hb hn)
          own := fun b hb hn => hown b (h.hE.own b hb hn) (Nat.lt_of_lt_of_le hb h.hE.size) }
        hd := by rw [defers_put]; exact h.hd
        gh := fun id x hx => by
          rcases hmem _ hx with h1 | h1
          · cases h1; exact gnew
          · exact gold id x h1
        al := fun e he ha => by
          rcases hmem _ he with h1 | h1
          · cases h1
          · obtain ⟨h2, h3⟩ := h.al e (mem_drop h1) ha
            have hne : e.idx ≠ d.idx := by
              have hp3 := List.pairwise_append.1 h.pw
              rcases List.mem_append.1 h1 with h4 | h4
              · exact (hp3.2.2 _ h4 _ (List.mem_cons_self ..)).2
              · exact fun e' => ((List.pairwise_cons.1 hp3.2.1).1 _ h4).2 e'.symm
            have hpe : (s0.next.plus e.idx).toNat = s0.next.toNat + e.idx := Pos.toNat_plus _ _
            exact ⟨by rw [hmu _ (fun e' => hne (by rw [e'] at hpe; omega))]; exact h2, h3⟩
        ok := fun e he => by
          rcases hmem _ he with h1 | h1
          · cases h1
          · exact h.ok e (mem_drop h1)
        pw := by
          have hp3 := List.pairwise_append.1 hpw
          refine List.pairwise_append.2 ⟨hp3.1, List.pairwise_cons.2 ⟨fun y hy => ?_, hp3.2.1⟩, fun y hy z hz => ?_⟩
          · cases y with
            | real e => trivial
            | ghost id x =>
              intro c1 d1 t1 c2 d2 t2 m1 m2
              rw [k1] at m1; cases m1
              exact fun e => hapart id x (List.mem_append_right _ hy) _ _ _ m2 e.symm
          · rcases List.mem_cons.1 hz with rfl | hz
            · cases y with
              | real e => trivial
              | ghost id x =>
                intro c1 d1 t1 c2 d2 t2 m1 m2
                rw [k1] at m2; cases m2
                exact hapart id x (List.mem_append_left _ hy) _ _ _ m1
            · exact hp3.2.2 y hy z hz }
    · rw [reals_append, reals_append]
      rfl

/-- Any other step: all ahead of it reads memory at most. -/
theorem DInv.i (hcall : CallOk P call) {a : Act} {w : World} {μ : Mu} {t : Env} {s : St} {pre post : List G} {d : DStep} (h : DInv P N ops bef call F0 μ0 s0 w0 ds listed a w μ t s (pre ++ .real d :: post))
    (hc : d.cls = .i) (hpre : ∀ e, G.real e ∈ pre → apartD e d = true ∧ (e.cls = .p ∨ e.cls = .q) ∧ Nat.testBit d.anc e.idx = false) (hU : FreeUp μ s.next) {K : Act → World → Prop} {Q : Exit → Act → World → Prop}
    (hK : ∀ a' w' μ' v s' gs, DInv P N ops bef call F0 μ0 s0 w0 ds listed a' w' μ' (setDst d.o.dst v t) s' gs → reals gs = reals (pre ++ post) → K a' w') : wpOp P ops Q d.idx K a w := by
  obtain ⟨F, hF, hL⟩ := h.run
  have hok := h.ok d (by simp)
  obtain ⟨hR1, hE1, hn1, hg1⟩ := lays_ok (rest := .real d :: post) pre h.hR h.hE h.gh h.pw
  rw [mat pre t s s [] (fun e he => (hpre e he).2.1)] at hF
  obtain ⟨v, s1, hr, _, F', hF', hL'⟩ := move_i hc (reals pre) t (lays s pre) s [] F (fun g hg => by
    cases g with
    | ghost id x => exact absurd hg not_ghost_reals
    | real e =>
      have he := mem_reals.1 hg
      exact ⟨e, rfl, (hpre e he).2.1, h.ok e (List.mem_append_left _ he), (hpre e he).1, (hpre e he).2.2⟩) hF
  obtain ⟨o, ho, hco, _, _⟩ := hok
  have hU1 : FreeUp μ (lays s pre).next := by rw [hn1]; exact hU
  refine runOp_ok hcall ho hco hr (h.ht.restr _) hR1 hU1.free (fun _ _ _ _ _ => hU1) fun μ' v' w' hv hR hE => hK _ _ μ' v s1 (reals pre ++ post) ?_ ?_
  · have hmem : ∀ y, y ∈ reals pre ++ post → (y ∈ pre ++ .real d :: post) ∧ (∀ id x, y = .ghost id x → y ∈ post) := fun y hy => by
      rcases List.mem_append.1 hy with h1 | h1
      · cases y with
        | ghost id x => exact absurd h1 not_ghost_reals
        | real e => exact ⟨List.mem_append_left _ (mem_reals.1 h1), fun id x e => by cases e⟩
      · exact ⟨List.mem_append_right _ (List.mem_cons_of_mem _ h1), fun _ _ _ => h1⟩
    exact {
      run := ⟨F', hF', hL.trans hL'⟩
      ht := (h.ht.mono hE.le).put (coper_dst hco) hv
      hR := hR
      hE := hE1.trans hE
      hd := by rw [defers_put]; exact h.hd
      gh := fun id x hx => (hg1 id x (List.mem_cons_of_mem _ ((hmem _ hx).2 id x rfl))).ext hE
      al := fun e he ha => by
        obtain ⟨h1, h2⟩ := h.al e (hmem _ he).1 ha
        rw [← hn1] at h2
        exact ⟨by rw [hE.mu _ (.inl h2)]; exact h1, Nat.lt_of_lt_of_le h2 hE.next⟩
      ok := fun e he => h.ok e (hmem _ he).1
      pw := ((pw_drop h.pw).sublist ((reals_sublist pre).append_right post)).imp_of_mem fun ha hb hr => hr.mono hE.le
        (fun id b e => hg1 id b (List.mem_cons_of_mem _ (by rw [← e]; exact (hmem _ ha).2 id b e))) (fun id b e => hg1 id b (List.mem_cons_of_mem _ (by rw [← e]; exact (hmem _ hb).2 id b e))) }
  · rw [reals_append, reals_append, reals_reals]
end

end Go.Abs
