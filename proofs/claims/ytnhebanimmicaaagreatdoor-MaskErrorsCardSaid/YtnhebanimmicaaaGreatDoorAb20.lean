/- Drawn regions: every order comes to what the machine's one order comes to. -/
import Derived.Test.YtnhebanimmicaaaGreatDoorAb19
namespace Go.Abs

/-! ### what the check says -/
theorem chkD_spec {n : Nat} : ∀ {r l : List DStep} {done : Nat}, chkD n r l done = true → (∀ j, Nat.testBit done j = true ↔ ∃ e ∈ l, e.idx = j) →
    r.Pairwise (fun e d => fitsBehind d e = true ∧ e.idx ≠ d.idx) ∧ (∀ e ∈ l, ∀ d ∈ r, fitsBehind d e = true ∧ e.idx ≠ d.idx) ∧ ∀ j, j < n → ∃ e, (e ∈ l ∨ e ∈ r) ∧ e.idx = j
  | [], l, done, h, hd => by
    refine ⟨.nil, fun e _ d hd => (by cases hd), fun j hj => ?_⟩
    have h' : done + 1 = 2 ^ n := Nat.eq_of_beq_eq_true h
    have : Nat.testBit done j = true := by
      rw [show done = 2 ^ n - 1 by omega, Nat.testBit_two_pow_sub_one]
      simpa using hj
    obtain ⟨e, h1, h2⟩ := (hd j).1 this
    exact ⟨e, .inl h1, h2⟩
  | d :: r, l, done, h, hd => by
    have h' : (!Nat.testBit done d.idx && (l.all (fitsBehind d) && chkD n r (d :: l) (done ||| 2 ^ d.idx))) = true := h
    rw [Bool.and_eq_true, Bool.and_eq_true] at h'
    obtain ⟨h1, h2, h3⟩ := h'
    have hnot : ¬ ∃ e ∈ l, e.idx = d.idx := fun hx => by
      rw [(hd d.idx).2 hx] at h1; cases h1
    have ih := chkD_spec h3 (fun j => by
      rw [Nat.testBit_or, Bool.or_eq_true, Nat.testBit_two_pow, decide_eq_true_eq, hd j]
      constructor
      · rintro (⟨e, h1, h2⟩ | h1)
        · exact ⟨e, List.mem_cons_of_mem _ h1, h2⟩
        · exact ⟨d, List.mem_cons_self .., h1⟩
      · rintro ⟨e, h1, h2⟩
        rcases List.mem_cons.1 h1 with h3 | h1
        · exact .inr (by rw [← h3]; exact h2)
        · exact .inl ⟨e, h1, h2⟩)
    refine ⟨List.pairwise_cons.2 ⟨fun y hy => ih.2.1 d (List.mem_cons_self ..) y hy, ih.1⟩, fun e he y hy => ?_, fun j hj => ?_⟩
    · rcases List.mem_cons.1 hy with rfl | hy
      · exact ⟨List.all_eq_true.1 h2 e he, fun e' => hnot ⟨e, he, e'⟩⟩
      · exact ih.2.1 e (List.mem_cons_of_mem _ he) y hy
    · obtain ⟨e, h4, h5⟩ := ih.2.2 j hj
      refine ⟨e, ?_, h5⟩
      rcases h4 with h4 | h4
      · rcases List.mem_cons.1 h4 with rfl | h4
        · exact .inr (List.mem_cons_self ..)
        · exact .inl h4
      · exact .inr (List.mem_cons_of_mem _ h4)

theorem mem_phased {imms : List DStep} {al : List (Nat × Nat)} {x : Nat × DStep} : ∀ {l : List DStep}, x ∈ phased imms al l → x.2 ∈ l
  | [], h => by cases h
  | d :: r, h => by
    unfold phased at h
    split at h
    · exact List.mem_cons_of_mem _ (mem_phased h)
    · rcases List.mem_cons.1 h with rfl | h
      · exact List.mem_cons_self ..
      · exact List.mem_cons_of_mem _ (mem_phased h)
theorem mem_inPhase {p : Nat} {l : List (Nat × DStep)} {d : DStep} (h : d ∈ inPhase p l) : ∃ x ∈ l, x.2 = d := by
  unfold inPhase at h
  rw [List.mem_filterMap] at h
  obtain ⟨x, h1, h2⟩ := h
  split at h2
  · exact ⟨x, h1, by cases h2; rfl⟩
  · cases h2
theorem mem_lay {l : List (Nat × DStep)} {d : DStep} : ∀ {m : List DStep} {p : Nat}, d ∈ lay l m p → d ∈ m ∨ ∃ x ∈ l, x.2 = d
  | [], p, h => .inr (mem_inPhase h)
  | e :: m, p, h => by
    rcases List.mem_append.1 (show d ∈ inPhase p l ++ e :: lay l m (Nat.succ p) from h) with h | h
    · exact .inr (mem_inPhase h)
    · rcases List.mem_cons.1 h with rfl | h
      · exact .inl (List.mem_cons_self ..)
      · exact (mem_lay h).imp (List.mem_cons_of_mem _) id
theorem mem_order {l : List DStep} {d : DStep} (h : d ∈ order l) : d ∈ l := by
  rcases mem_lay (show d ∈ lay (phased (immsOf l) (allocsOf (immsOf l) l) l) (immsOf l) 0 from h) with h | ⟨x, h1, rfl⟩
  · exact (List.mem_filter.1 h).1
  · exact mem_phased h1

theorem dsteps_spec {P : Program} {N : Nat} {ops : Array Oper} {bef : List Nat} : ∀ {r : List Oper} {i : Nat} {l : List DStep}, dsteps P N ops bef r i = some l → (∀ j, r[j]? = ops[i + j]?) → ∀ d ∈ l, StepOk P N ops bef d
  | [], i, l, h, _, d, hd => by cases h; cases hd
  | o :: r, i, l, h, hr, d, hd => by
    unfold dsteps at h
    dsimp only at h
    split at h
    · cases h
    · rename_i ao hao
      split at h
      · cases h
      · rename_i l' hl'
        cases h
        rcases List.mem_cons.1 hd with rfl | hd
        · exact ⟨o, (hr 0).symm, hao, rfl, rfl⟩
        · exact dsteps_spec hl' (fun j => by
            have := hr (j + 1)
            rw [show i.succ + j = i + (j + 1) by omega]
            simpa using this) d hd

theorem edgesUp_spec : ∀ {l : List (List Nat)} {i : Nat}, edgesUp l i = true → ∀ j es, l[j]? = some es → ∀ e ∈ es, e < i + j
  | [], i, _, j, es, h, _, _ => by simp at h
  | x :: l, i, h, j, es, hj, e, he => by
    have h' : (x.all (fun e => Nat.blt e i) && edgesUp l (Nat.succ i)) = true := h
    rw [Bool.and_eq_true] at h'
    cases j with
    | zero =>
      cases hj
      have := List.all_eq_true.1 h'.1 e he
      rw [Nat.blt_eq] at this
      exact this
    | succ j =>
      have := edgesUp_spec h'.2 j es (by simpa using hj) e he
      omega

/-! ### the region -/
section
variable {P : Program} {N : Nat} {ops : Array Oper} {call : CallF}

theorem ready_iff {listed : Array Bool} {i : Nat} : i ∈ Region.ready .any ops listed ↔ ∃ o, ops[i]? = some o ∧ listed.getD i true = false ∧ ∀ e ∈ edgesOf o, listed.getD e false = true := by
  unfold Region.ready
  rw [List.mem_filter, List.mem_range, Bool.and_eq_true, Bool.not_eq_true']
  constructor
  · rintro ⟨h1, h2, h3⟩
    have ho : ops[i]? = some ops[i] := Array.getElem?_eq_getElem h1
    refine ⟨ops[i], ho, h2, fun e he => ?_⟩
    rw [ho] at h3
    simp only [Option.map_some, Option.getD_some] at h3
    rw [Array.all_eq_true'] at h3
    unfold edgesOf at he
    rw [List.mem_filterMap] at he
    obtain ⟨x, h4, h5⟩ := he
    split at h5
    · rename_i hb
      cases h5
      have := h3 x (by simpa using h4)
      rw [hb] at this
      simpa using this
    · cases h5
  · rintro ⟨o, ho, h2, h3⟩
    have hlt : i < ops.size := by
      rcases Nat.lt_or_ge i ops.size with h | h
      · exact h
      · rw [Array.getElem?_eq_none h] at ho; cases ho
    refine ⟨hlt, h2, ?_⟩
    rw [ho]
    simp only [Option.map_some, Option.getD_some]
    rw [Array.all_eq_true']
    intro x hx
    cases hb : Region.binds .any x with
    | false => rfl
    | true =>
      have := h3 x.on (by
        unfold edgesOf
        rw [List.mem_filterMap]
        exact ⟨x, by simpa using hx, by rw [hb]⟩)
      simp [this]

theorem getD_set {l : Array Bool} {i j : Nat} {b : Bool} (hi : i < l.size) : (l.setIfInBounds i true).getD j b = if j = i then true else l.getD j b := by
  rw [Array.getD_eq_getD_getElem?, Array.getD_eq_getD_getElem?]
  by_cases e : j = i
  · subst e; rw [if_pos rfl]; simp [hi]
  · rw [if_neg e, Array.getElem?_setIfInBounds_ne (fun h => e h.symm)]

theorem split_real {gs : List G} {d : DStep} (h : G.real d ∈ gs) : ∃ pre post, gs = pre ++ .real d :: post := by
  obtain ⟨a, b, h⟩ := List.append_of_mem h
  exact ⟨a, b, h⟩

theorem draw_go (hcall : CallOk P call) {F0 : T AV × St} {μ0 : Mu} {s0 : St} {w0 : World} {ds : List Deferred} {Q : Exit → Act → World → Prop} (hU0 : FreeUp μ0 s0.next)
    (hup : edgesUp (ops.toList.map edgesOf) 0 = true)
    (hK : ∀ a w μ, TRel μ N F0.1 a.tmps → R μ F0.2 w → Ext μ0 s0 w0 μ F0.2 w → a.defers = ds → Q .normal a w) :
    ∀ (k : Nat) (listed : Array Bool) (a : Act) (w : World) (μ : Mu) (t : T AV) (s : St) (gs : List G),
      DInv P N ops (ancs (ops.toList.map edgesOf) []) call F0 μ0 s0 w0 ds listed a w μ t s gs → (reals gs).length = k → listed.size = ops.size →
      (∀ i, i < ops.size → (listed.getD i true = false ↔ ∃ d, G.real d ∈ gs ∧ d.idx = i)) →
      (∀ i o, ops[i]? = some o → listed.getD i false = true → ∀ e ∈ edgesOf o, listed.getD e false = true) → wpAny P .any ops Q k listed a w := by
  intro k
  induction k with
  | zero =>
    intro listed a w μ t s gs hI hk hsz hli hcl
    have hno : ∀ d, G.real d ∉ gs := fun d hd => by
      have := mem_reals.2 hd
      rw [List.length_eq_zero_iff.1 hk] at this
      cases this
    obtain ⟨h1, h2, h3⟩ := hI.done hno
    refine ⟨?_, hK _ _ _ h1 h2 h3 hI.hd⟩
    rw [List.eq_nil_iff_forall_not_mem]
    intro i hi
    obtain ⟨o, h4, h5, _⟩ := ready_iff.1 hi
    have hlt : i < ops.size := by
      rcases Nat.lt_or_ge i ops.size with h | h
      · exact h
      · rw [Array.getElem?_eq_none h] at h4; cases h4
    obtain ⟨d, h6, _⟩ := (hli i hlt).1 h5
    exact hno d h6
  | succ k ih =>
    intro listed a w μ t s gs hI hk hsz hli hcl
    refine ⟨fun hnil => ?_, fun i hi => ?_⟩
    · have hall : ∀ i, i < ops.size → listed.getD i true = true := by
        intro i
        induction i using Nat.strongRecOn with
        | _ i ihi =>
          intro hlt
          cases hb : listed.getD i true with
          | true => rfl
          | false =>
            have ho : ops[i]? = some ops[i] := Array.getElem?_eq_getElem hlt
            have : i ∈ Region.ready .any ops listed := ready_iff.2 ⟨ops[i], ho, hb, fun e he => by
              have hlt' := edgesUp_spec hup i (edgesOf ops[i]) (by simp [hlt]) e he
              have := ihi e (by omega) (by omega)
              rw [Array.getD_eq_getD_getElem?] at this ⊢
              rw [Array.getElem?_eq_getElem (by omega)] at this ⊢
              exact this⟩
            rw [hnil] at this
            cases this
      have hno : ∀ d, G.real d ∉ gs := fun d hd => by
        obtain ⟨o, h1, _⟩ := hI.ok d hd
        have hlt : d.idx < ops.size := by
          rcases Nat.lt_or_ge d.idx ops.size with h | h
          · exact h
          · rw [Array.getElem?_eq_none h] at h1; cases h1
        have := (hli _ hlt).2 ⟨d, hd, rfl⟩
        rw [hall _ hlt] at this
        cases this
      obtain ⟨h1, h2, h3⟩ := hI.done hno
      exact hK _ _ _ h1 h2 h3 hI.hd
    · obtain ⟨o, h4, h5, h6⟩ := ready_iff.1 hi
      have hlt : i < ops.size := by
        rcases Nat.lt_or_ge i ops.size with h | h
        · exact h
        · rw [Array.getElem?_eq_none h] at h4; cases h4
      obtain ⟨d, hd, hdi⟩ := (hli i hlt).1 h5
      obtain ⟨pre, post, rfl⟩ := split_real hd
      have hok := hI.ok d hd
      have hU : FreeUp μ s.next := hU0.ext hI.hE
      have hp3 := List.pairwise_append.1 hI.pw
      have hp4 := List.pairwise_cons.1 hp3.2.1
      have hanc : ∀ e, G.real e ∈ pre ++ .real d :: post → Nat.testBit d.anc e.idx = false := fun e he => by
        cases hb : Nat.testBit d.anc e.idx with
        | false => rfl
        | true =>
          obtain ⟨o', q1, _, _, q4⟩ := hok
          have hS : listed.getD e.idx false = true := ancs_spec (S := fun j => listed.getD j false = true) (ops.toList.map edgesOf) [] [] rfl
            (fun i hS es hes e he => by
              simp only [List.nil_append, List.getElem?_map] at hes
              cases ho : ops.toList[i]? with
              | none => rw [ho] at hes; cases hes
              | some o =>
                rw [ho] at hes
                cases hes
                exact hcl i o (by simpa using ho) hS e he)
            (fun i j es _ hlt _ _ => absurd hlt (Nat.not_lt_zero _)) i e.idx (edgesOf o) (by simp [h4]) h6 (by rw [← hdi, ← q4]; exact hb)
          obtain ⟨o2, q5, _⟩ := hI.ok e he
          have hlt2 : e.idx < ops.size := by
            rcases Nat.lt_or_ge e.idx ops.size with h | h
            · exact h
            · rw [Array.getElem?_eq_none h] at q5; cases q5
          have := (hli _ hlt2).2 ⟨e, he, rfl⟩
          rw [Array.getD_eq_getD_getElem?] at this hS
          rw [Array.getElem?_eq_getElem (by omega)] at this hS
          simp at this hS
          rw [this] at hS
          cases hS
      have hfit : ∀ e, G.real e ∈ pre → apartD e d = true ∧ (match d.cls with
          | .p => true
          | .q => not e.cls.isI
          | .a => true
          | .i => and (not e.cls.isI) (not e.cls.isA)) = true := fun e he => by
        have h1 := (hp3.2.2 _ he _ (List.mem_cons_self ..)).1
        unfold fitsBehind at h1
        rw [hanc e (List.mem_append_left _ he)] at h1
        have h1' : (apartD e d && (match d.cls with
          | .p => true
          | .q => not e.cls.isI
          | .a => true
          | .i => and (not e.cls.isI) (not e.cls.isA))) = true := h1
        rwa [Bool.and_eq_true] at h1'
      have next : ∀ a' w' μ' t' s' gs', DInv P N ops (ancs (ops.toList.map edgesOf) []) call F0 μ0 s0 w0 ds listed a' w' μ' t' s' gs' → reals gs' = reals (pre ++ post) →
          wpAny P .any ops Q k (listed.setIfInBounds i true) a' w' := fun a' w' μ' t' s' gs' hI' hgs => by
        refine ih _ a' w' μ' t' s' gs' { hI' with } ?_ (by simp [hsz]) (fun j hj => ?_) (fun j o' ho' hj e he => ?_)
        · rw [hgs]
          rw [reals_append] at hk ⊢
          rw [List.length_append] at hk ⊢
          have : (reals (G.real d :: post)).length = (reals post).length + 1 := rfl
          omega
        · rw [getD_set (by omega)]
          have hiff : (∃ e, G.real e ∈ gs' ∧ e.idx = j) ↔ (∃ e, G.real e ∈ pre ++ post ∧ e.idx = j) := by
            simp only [← mem_reals (gs := gs'), hgs, mem_reals]
          rw [hiff]
          split
          · rename_i e
            subst e
            constructor
            · intro h; cases h
            · rintro ⟨e, he, hej⟩
              exfalso
              rcases List.mem_append.1 he with he | he
              · exact (hp3.2.2 _ he _ (List.mem_cons_self ..)).2 (hej.trans hdi.symm)
              · exact (hp4.1 _ he).2 (hdi.trans hej.symm)
          · rename_i hne
            rw [hli j hj]
            constructor
            · rintro ⟨e, he, hej⟩
              refine ⟨e, ?_, hej⟩
              rw [List.mem_append, List.mem_cons] at he
              rw [List.mem_append]
              rcases he with h | h | h
              · exact .inl h
              · cases h; exact absurd (hej.symm.trans hdi) hne
              · exact .inr h
            · rintro ⟨e, he, hej⟩
              exact ⟨e, mem_drop he, hej⟩
        · rw [getD_set (by omega)] at hj
          rw [getD_set (by omega)]
          split at hj
          · rename_i e'
            subst e'
            rw [h4] at ho'; cases ho'
            split
            · rfl
            · exact h6 e he
          · split
            · rfl
            · exact hcl j o' ho' hj e he
      rw [← hdi]
      rw [← hdi] at next
      cases hc : d.cls with
      | p =>
        exact hI.pq hcall (.inl hc) (fun e he => ⟨(hfit e he).1, fun h => by rw [hc] at h; cases h⟩) hU fun a' w' μ' v hI' => next a' w' μ' _ s _ hI' rfl
      | q =>
        exact hI.pq hcall (.inr hc) (fun e he => ⟨(hfit e he).1, fun h => by have := (hfit e he).2; rw [hc] at this; simpa using this⟩) hU fun a' w' μ' v hI' => next a' w' μ' _ s _ hI' rfl
      | a => exact hI.a hcall hc (fun e he => (hfit e he).1) hU fun a' w' μ' v gs hI' hg => next a' w' μ' _ s gs hI' hg
      | i =>
        refine hI.i hcall hc (fun e he => ⟨(hfit e he).1, ?_, hanc e (List.mem_append_left _ he)⟩) hU fun a' w' μ' v s' gs hI' hg => next a' w' μ' _ s' gs hI' hg
        have := (hfit e he).2
        rw [hc] at this
        cases he' : e.cls <;> rw [he'] at this <;> simp [Cls.isI, Cls.isA] at this ⊢

theorem draw_ok (hm : P.follows .mixedOrders = true) (hcall : CallOk P call) {n : Nat} {dl : List DStep} (hc : cdraw P N ops = some (.draw n dl)) {μ : Mu} {t t' : T AV} {s s' : St} {w : World} {a : Act}
    (hr : execDraw call s.next dl t ⟨s.heap, s.next.plus n⟩ ⟨s.heap, s.next.plus n⟩ [] = some (t', s')) (ht : TRel μ N t a.tmps) (hR : R μ s w) (hU : FreeUp μ s.next)
    {id : Nat} {Q : Exit → Act → World → Prop} (hK : ∀ a' w' μ', TRel μ' N t' a'.tmps → R μ' s' w' → Ext μ s w μ' s' w' → a'.defers = a.defers → Q .normal a' w') : (Code.region id ops true).wp P Q a w := by
  unfold cdraw at hc
  simp only at hc
  split at hc
  · cases hc
  rename_i l hl
  split at hc
  case h_2 => cases hc
  rename_i hchk
  cases hc
  have hchk' : (edgesUp (ops.toList.map edgesOf) 0 && (Nat.beq (order l).length ops.size && chkD ops.size (order l) [] 0)) = true := hchk
  rw [Bool.and_eq_true, Bool.and_eq_true] at hchk'
  obtain ⟨hup, hlen, hck⟩ := hchk'
  have hsp := chkD_spec hck (fun j => by simp)
  have hlen' : (order l).length = ops.size := Nat.eq_of_beq_eq_true hlen
  have hok : ∀ d ∈ order l, StepOk P N ops (ancs (ops.toList.map edgesOf) []) d := fun d hd => dsteps_spec hl (fun j => by simp) d (mem_order hd)
  have hmem : ∀ d, G.real d ∈ (order l).map G.real ↔ d ∈ order l := fun d => by simp
  have hreals : ∀ l : List DStep, reals (l.map G.real) = l.map G.real := fun l => by
    induction l with
    | nil => rfl
    | cons d l ih => simp [reals, ih]
  have hpl : (s.next.plus ops.size).toNat = s.next.toNat + ops.size := Pos.toNat_plus _ _
  have hid : ∀ d ∈ order l, d.idx < ops.size := fun d hd => by
    obtain ⟨o, h1, _⟩ := hok d hd
    rcases Nat.lt_or_ge d.idx ops.size with h | h
    · exact h
    · rw [Array.getElem?_eq_none h] at h1; cases h1
  refine wp_region_any hm (draw_go (F0 := (t', s')) (μ0 := μ) (s0 := s) (w0 := w) (ds := a.defers) hcall hU hup hK ops.size _ a _ μ t ⟨s.heap, s.next.plus ops.size⟩ ((order l).map .real) ?_ ?_ ?_ ?_ ?_)
  · exact {
      run := ⟨(t', s'), by rw [← execDraw_eq]; exact hr, fun _ => rfl, rfl⟩
      ht := ht
      hR := ⟨fun p hp => hR.fresh p (by have hp' : (s.next.plus ops.size).toNat ≤ p.toNat := hp; omega), fun p x hp => hR.drew.blk p x hp, hR.apart⟩
      hE := { Ext.drew μ s w with
        mu := fun _ _ => rfl
        next := by show s.next.toNat ≤ (s.next.plus ops.size).toNat; omega
        own := fun _ _ h => h }
      hd := rfl
      gh := fun id x hx => by simp at hx
      al := fun d hd _ => by
        have := hid d ((hmem d).1 hd)
        have hpe : (s.next.plus d.idx).toNat = s.next.toNat + d.idx := Pos.toNat_plus _ _
        exact ⟨hU _ (by omega), by show (s.next.plus d.idx).toNat < (s.next.plus ops.size).toNat; omega⟩
      ok := fun d hd => hok d ((hmem d).1 hd)
      pw := by
        rw [List.pairwise_map]
        exact hsp.1 }
  · rw [hreals, List.length_map, hlen']
  · simp
  · intro i hi
    constructor
    · intro _
      obtain ⟨e, h1, h2⟩ := hsp.2.2 i hi
      rcases h1 with h1 | h1
      · cases h1
      · exact ⟨e, (hmem e).2 h1, h2⟩
    · intro _
      simp [Array.getD_eq_getD_getElem?, hi]
  · intro i o ho hli
    exfalso
    have hlt : i < ops.size := by
      rcases Nat.lt_or_ge i ops.size with h | h
      · exact h
      · rw [Array.getElem?_eq_none h] at ho; cases ho
    rw [Array.getD_eq_getD_getElem?, Array.getElem?_replicate, if_pos hlt] at hli
    cases hli
end

end Go.Abs
