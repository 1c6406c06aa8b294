/- Drawn regions: every order comes to what the machine's one order comes to. -/
import Derived.Test.YtnhebanimmicaaaGreatDoorAb19
namespace Go.Abs

/-! ### what the check says -/
theorem chkD_spec {n : Nat} : ∀ {r l : List DStep} {done : Nat}, chkD n r l done = true → (∀ j, Nat.testBit done j = true ↔ ∃ e ∈ l, e.idx = j) →
    r.Pairwise (fun e d => fitsBehind d e = true ∧ e.idx ≠ d.idx) ∧ (∀ e ∈ l, ∀ d ∈ r, fitsBehind d e = true ∧ e.idx ≠ d.idx) ∧ ∀ j, j < n → ∃ e, (e ∈ l ∨ e ∈ r) ∧ e.idx = j
  | [], l, done, h, hd => by
    refine ⟨.nil, fun e _ d hd => (by cases hd), fun j hj => ?_⟩
    have h' : done + 1 = 2 ^ n := Nat.eq_of_beq_eq_true h
    have : Nat.testBit done j = true := by
      rw [show done = 2 ^ n - 1 by omega, Nat.testBit_two_pow_sub_one]
      simpa using hj
    obtain ⟨e, h1, h2⟩ := (hd j).1 this
    exact ⟨e, .inl h1, h2⟩
  | d :: r, l, done, h, hd => by
    have h' : (!Nat.testBit done d.idx && (l.all (fitsBehind d) && chkD n r (d :: l) (done ||| 2 ^ d.idx))) = true := h
    rw [Bool.and_eq_true, Bool.and_eq_true] at h'
    obtain ⟨h1, h2, h3⟩ := h'
    have hnot : ¬ ∃ e ∈ l, e.idx = d.idx := fun hx => by
      rw [(hd d.idx).2 hx] at h1; cases h1
    have ih := chkD_spec h3 (fun j => by
      rw [Nat.testBit_or, Bool.or_eq_true, Nat.testBit_two_pow, decide_eq_true_eq, hd j]
      constructor
      · rintro (⟨e, h1, h2⟩ | h1)
        · exact ⟨e, List.mem_cons_of_mem _ h1, h2⟩
        · exact ⟨d, List.mem_cons_self .., h1⟩
      · rintro ⟨e, h1, h2⟩
        rcases List.mem_cons.1 h1 with h3 | h1
        · exact .inr (by rw [← h3]; exact h2)
        · exact .inl ⟨e, h1, h2⟩)
    refine ⟨List.pairwise_cons.2 ⟨fun y hy => ih.2.1 d (List.mem_cons_self ..) y hy, ih.1⟩, fun e he y hy => ?_, fun j hj => ?_⟩
    · rcases List.mem_cons.1 hy with rfl | hy
      · exact ⟨List.all_eq_true.1 h2 e he, fun e' => hnot ⟨e, he, e'⟩⟩
      · exact ih.2.1 e (List.mem_cons_of_mem _ he) y hy
    · obtain ⟨e, h4, h5⟩ := ih.2.2 j hj
      refine ⟨e, ?_, h5⟩
      rcases h4 with h4 | h4
      · rcases List.mem_cons.1 h4 with rfl | h4
        · exact .inr (List.mem_cons_self ..)
        · exact .inl h4
      · exact .inr (List.mem_cons_of_mem _ h4)

theorem frcB_eq (n : Nat) (f : Nat → Bool) : frcB n f = f n := by cases n <;> rfl
theorem bitOf_eq (m k : Nat) : bitOf m k = Nat.testBit m k := by
  unfold bitOf Nat.testBit
  show Nat.beq ((m >>> k) &&& 1) 1 = (1 &&& (m >>> k) != 0)
  rw [Nat.and_comm 1, Nat.and_one_is_mod, Bool.eq_iff_iff, Nat.beq_eq, bne_iff_ne]
  omega
theorem shl_eq (k : Nat) : Nat.shiftLeft 1 k = 2 ^ k := Nat.one_shiftLeft k
theorem maskL_bit {k : Nat} : ∀ {l : List Nat}, k ∈ l → Nat.testBit (maskL l) k = true
  | j :: l, h => by
    show Nat.testBit (Nat.shiftLeft 1 j ||| maskL l) k = true
    rw [Nat.testBit_or, shl_eq, Nat.testBit_two_pow, Bool.or_eq_true, decide_eq_true_eq]
    rcases List.mem_cons.1 h with h | h
    · exact .inl h.symm
    · exact .inr (maskL_bit h)
theorem wM_bit {d : DStep} {k : Nat} (h : d.o.dst = some k) : Nat.testBit (wM d) k = true := by
  unfold wM
  rw [h]
  show Nat.testBit (Nat.shiftLeft 1 k) k = true
  rw [shl_eq, Nat.testBit_two_pow, decide_eq_true_eq]
theorem rwM_bit {d : DStep} {k : Nat} (h : k ∈ d.names ∨ d.o.dst = some k) : Nat.testBit (rwM d) k = true := by
  show Nat.testBit (maskL d.names ||| wM d) k = true
  rw [Nat.testBit_or, Bool.or_eq_true]
  exact h.imp maskL_bit wM_bit
theorem land_zero {a b k : Nat} (h : a &&& b = 0) (ha : Nat.testBit a k = true) (hb : Nat.testBit b k = true) : False := by
  have : Nat.testBit (a &&& b) k = true := by rw [Nat.testBit_and, ha, hb]; rfl
  rw [h] at this
  simp at this
theorem lor_zero {a b : Nat} (h : a ||| b = 0) : a = 0 ∧ b = 0 := Nat.or_eq_zero_iff.1 h
theorem apart_of {d e : DStep} (h : Nat.beq (Nat.lor (Nat.land (wM e) (rwM d)) (Nat.land (wM d) (rwM e))) 0 = true) : apartD e d = true := by
  obtain ⟨h1, h2⟩ := lor_zero (Nat.eq_of_beq_eq_true h)
  have n1 : ∀ k, e.o.dst = some k → k ∉ d.names := fun k hk hm => land_zero h1 (wM_bit hk) (rwM_bit (.inl hm))
  have n2 : ∀ k, e.o.dst = some k → d.o.dst ≠ some k := fun k hk hm => land_zero h1 (wM_bit hk) (rwM_bit (.inr hm))
  have n3 : ∀ k, d.o.dst = some k → k ∉ e.names := fun k hk hm => land_zero h2 (wM_bit hk) (rwM_bit (.inl hm))
  have nm : ∀ (k : Nat) (l : List Nat), k ∉ l → memP k l = false := fun k l hk => by
    cases hb : memP k l with
    | false => rfl
    | true => exact absurd (memP_iff.1 hb) hk
  unfold apartD
  rw [Bool.and_eq_true]
  constructor
  · split
    · rfl
    · rename_i k hk
      rw [nm _ _ (n1 k hk)]
      split
      · rfl
      · rename_i j hj
        have : Nat.beq k j = false := by
          cases hb : Nat.beq k j with
          | false => rfl
          | true => exact absurd (by rw [Nat.eq_of_beq_eq_true hb]; exact hj) (n2 k hk)
        show (!false && !Nat.beq k j) = true
        rw [this]; rfl
  · split
    · rfl
    · rename_i k hk
      rw [nm _ _ (n3 k hk)]; rfl
theorem pairQ_fits {d e : DStep} (h : pairQ d.anc (wM d) (rwM d) (clsN d.cls) (nums e) = true) : fitsBehind d e = true := by
  have h' : (Bool.rec (Bool.rec false (clsFit (clsN d.cls) (clsN e.cls)) (Nat.beq (Nat.lor (Nat.land (wM e) (rwM d)) (Nat.land (wM d) (rwM e))) 0)) true (bitOf d.anc e.idx) : Bool) = true := h
  unfold fitsBehind
  rw [bitOf_eq] at h'
  cases hb : Nat.testBit d.anc e.idx with
  | true => rfl
  | false =>
    rw [hb] at h'
    generalize hz : Nat.beq (Nat.lor (Nat.land (wM e) (rwM d)) (Nat.land (wM d) (rwM e))) 0 = z at h'
    cases z with
    | false => cases h'
    | true =>
      show (apartD e d && _) = true
      rw [apart_of hz]
      have h2 : clsFit (clsN d.cls) (clsN e.cls) = true := h'
      cases hd : d.cls <;> cases he : e.cls <;> rw [hd, he] at h2 <;> first
        | rfl
        | (cases h2; done)
        | (revert h2; decide)
theorem allQ_all {d : DStep} : ∀ {l : List DStep}, allQ d.anc (wM d) (rwM d) (clsN d.cls) (l.map nums) = true → l.all (fitsBehind d) = true
  | [], _ => rfl
  | e :: l, h => by
    have h' : (Bool.rec false (allQ d.anc (wM d) (rwM d) (clsN d.cls) (l.map nums)) (pairQ d.anc (wM d) (rwM d) (clsN d.cls) (nums e)) : Bool) = true := h
    generalize hz : pairQ d.anc (wM d) (rwM d) (clsN d.cls) (nums e) = z at h'
    cases z with
    | false => cases h'
    | true => rw [List.all_cons, pairQ_fits hz, allQ_all h']; rfl
theorem chkQ_chkD {n : Nat} : ∀ {r l : List DStep} {done : Nat}, chkQ n r (l.map nums) done = true → chkD n r l done = true
  | [], _, _, h => h
  | d :: r, l, done, h => by
    unfold chkQ at h
    simp only [frcB_eq] at h
    rw [bitOf_eq] at h
    unfold chkD
    cases hb : Nat.testBit done d.idx with
    | true => rw [hb] at h; cases h
    | false =>
      rw [hb] at h
      generalize hz : allQ d.anc (wM d) (rwM d) (clsN d.cls) (l.map nums) = z at h
      cases z with
      | false => cases h
      | true =>
        rw [allQ_all hz]
        have h2 : chkQ n r ((d :: l).map nums) (Nat.lor done (Nat.shiftLeft 1 d.idx)) = true := h
        have e1 : Nat.shiftLeft 1 d.idx = Nat.pow 2 d.idx := shl_eq _
        rw [e1] at h2
        show (!false && (true && chkD n r (d :: l) (Nat.lor done (Nat.pow 2 d.idx)))) = true
        rw [chkQ_chkD h2]; rfl

theorem bool_rec_mem {α : Type} {b : Bool} {x : α} {p q : List α} (h : x ∈ (Bool.rec p q b : List α)) : x ∈ p ∨ x ∈ q := by
  cases b
  · exact .inl h
  · exact .inr h
theorem mem_imms {d : DStep} : ∀ {l : List DStep}, d ∈ immsOf l → d ∈ l
  | [], h => by cases h
  | e :: l, h => by
    rcases bool_rec_mem (show d ∈ (Bool.rec (immsOf l) (e :: immsOf l) (immsOf.isImm e.cls) : List DStep) from h) with h | h
    · exact List.mem_cons_of_mem _ (mem_imms h)
    · rcases List.mem_cons.1 h with rfl | h
      · exact List.mem_cons_self ..
      · exact List.mem_cons_of_mem _ (mem_imms h)
theorem frcP_eq (n : Nat) (f : Nat → List (Nat × DStep)) : frcP n f = f n := by cases n <;> rfl
theorem mem_phased {imms : List DStep} {al : List (Nat × Nat)} {x : Nat × DStep} : ∀ {l : List DStep}, x ∈ phased imms al l → x.2 ∈ l
  | [], h => by cases h
  | d :: r, h => by
    rcases bool_rec_mem (show x ∈ (Bool.rec (frcP (phaseOf imms al d) fun p => (p, d) :: phased imms al r) (phased imms al r) (immsOf.isImm d.cls) : List (Nat × DStep)) from h) with h | h
    · rw [frcP_eq] at h
      rcases List.mem_cons.1 h with rfl | h
      · exact List.mem_cons_self ..
      · exact List.mem_cons_of_mem _ (mem_phased h)
    · exact List.mem_cons_of_mem _ (mem_phased h)
theorem mem_inPhase {p : Nat} {k : List DStep} {d : DStep} : ∀ {l : List (Nat × DStep)}, d ∈ inPhase p l k → d ∈ k ∨ ∃ x ∈ l, x.2 = d
  | [], h => .inl h
  | x :: l, h => by
    rcases bool_rec_mem (show d ∈ (Bool.rec (inPhase p l k) (x.2 :: inPhase p l k) (Nat.beq x.1 p) : List DStep) from h) with h | h
    · exact (mem_inPhase h).imp id fun ⟨y, h1, h2⟩ => ⟨y, List.mem_cons_of_mem _ h1, h2⟩
    · rcases List.mem_cons.1 h with rfl | h
      · exact .inr ⟨x, List.mem_cons_self .., rfl⟩
      · exact (mem_inPhase h).imp id fun ⟨y, h1, h2⟩ => ⟨y, List.mem_cons_of_mem _ h1, h2⟩
theorem mem_notPhase {p : Nat} {y : Nat × DStep} : ∀ {l : List (Nat × DStep)}, y ∈ notPhase p l → y ∈ l
  | [], h => by cases h
  | x :: l, h => by
    rcases bool_rec_mem (show y ∈ (Bool.rec (x :: notPhase p l) (notPhase p l) (Nat.beq x.1 p) : List (Nat × DStep)) from h) with h | h
    · rcases List.mem_cons.1 h with rfl | h
      · exact List.mem_cons_self ..
      · exact List.mem_cons_of_mem _ (mem_notPhase h)
    · exact List.mem_cons_of_mem _ (mem_notPhase h)
theorem mem_lay {d : DStep} : ∀ {m : List DStep} {p : Nat} {l : List (Nat × DStep)}, d ∈ lay m p l → d ∈ m ∨ ∃ x ∈ l, x.2 = d
  | [], p, l, h => (mem_inPhase (show d ∈ inPhase p l [] from h)).imp (fun h => by cases h) id
  | e :: m, p, l, h => by
    rcases mem_inPhase (show d ∈ inPhase p l (e :: lay m (Nat.succ p) (notPhase p l)) from h) with h | h
    · rcases List.mem_cons.1 h with rfl | h
      · exact .inl (List.mem_cons_self ..)
      · rcases mem_lay h with h | ⟨x, h1, h2⟩
        · exact .inl (List.mem_cons_of_mem _ h)
        · exact .inr ⟨x, mem_notPhase h1, h2⟩
    · exact .inr h
theorem mem_order {l : List DStep} {d : DStep} (h : d ∈ order l) : d ∈ l := by
  rcases mem_lay (show d ∈ lay (immsOf l) 0 (phased (immsOf l) (allocsOf (immsOf l) l) l) from h) with h | ⟨x, h1, rfl⟩
  · exact mem_imms h
  · exact mem_phased h1

theorem dsteps_spec {P : Program} {N : Nat} {ops : Array Oper} {bef : List Nat} : ∀ {r : List Oper} {i : Nat} {l : List DStep}, dsteps P N ops bef r i = some l → (∀ j, r[j]? = ops[i + j]?) → ∀ d ∈ l, StepOk P N ops bef d
  | [], i, l, h, _, d, hd => by cases h; cases hd
  | o :: r, i, l, h, hr, d, hd => by
    unfold dsteps at h
    dsimp only at h
    split at h
    · cases h
    · rename_i ao hao
      split at h
      · cases h
      · rename_i l' hl'
        cases h
        rcases List.mem_cons.1 hd with rfl | hd
        · exact ⟨o, (hr 0).symm, hao, rfl, rfl⟩
        · exact dsteps_spec hl' (fun j => by
            have := hr (j + 1)
            rw [show i.succ + j = i + (j + 1) by omega]
            simpa using this) d hd

theorem edgesUp_spec : ∀ {l : List (List Nat)} {i : Nat}, edgesUp l i = true → ∀ j es, l[j]? = some es → ∀ e ∈ es, e < i + j
  | [], i, _, j, es, h, _, _ => by simp at h
  | x :: l, i, h, j, es, hj, e, he => by
    have h' : (x.all (fun e => Nat.blt e i) && edgesUp l (Nat.succ i)) = true := h
    rw [Bool.and_eq_true] at h'
    cases j with
    | zero =>
      cases hj
      have := List.all_eq_true.1 h'.1 e he
      rw [Nat.blt_eq] at this
      exact this
    | succ j =>
      have := edgesUp_spec h'.2 j es (by simpa using hj) e he
      omega

/-! ### the region -/
section
variable {P : Program} {N : Nat} {ops : Array Oper} {call : CallF}

theorem ready_iff {listed : Array Bool} {i : Nat} : i ∈ Region.ready .any ops listed ↔ ∃ o, ops[i]? = some o ∧ listed.getD i true = false ∧ ∀ e ∈ edgesOf o, listed.getD e false = true := by
  unfold Region.ready
  rw [List.mem_filter, List.mem_range, Bool.and_eq_true, Bool.not_eq_true']
  constructor
  · rintro ⟨h1, h2, h3⟩
    have ho : ops[i]? = some ops[i] := Array.getElem?_eq_getElem h1
    refine ⟨ops[i], ho, h2, fun e he => ?_⟩
    rw [ho] at h3
    simp only [Option.map_some, Option.getD_some] at h3
    rw [Array.all_eq_true'] at h3
    unfold edgesOf at he
    rw [List.mem_filterMap] at he
    obtain ⟨x, h4, h5⟩ := he
    split at h5
    · rename_i hb
      cases h5
      have := h3 x (by simpa using h4)
      rw [hb] at this
      simpa using this
    · cases h5
  · rintro ⟨o, ho, h2, h3⟩
    have hlt : i < ops.size := by
      rcases Nat.lt_or_ge i ops.size with h | h
      · exact h
      · rw [Array.getElem?_eq_none h] at ho; cases ho
    refine ⟨hlt, h2, ?_⟩
    rw [ho]
    simp only [Option.map_some, Option.getD_some]
    rw [Array.all_eq_true']
    intro x hx
    cases hb : Region.binds .any x with
    | false => rfl
    | true =>
      have := h3 x.on (by
        unfold edgesOf
        rw [List.mem_filterMap]
        exact ⟨x, by simpa using hx, by rw [hb]⟩)
      simp [this]

theorem getD_set {l : Array Bool} {i j : Nat} {b : Bool} (hi : i < l.size) : (l.setIfInBounds i true).getD j b = if j = i then true else l.getD j b := by
  rw [Array.getD_eq_getD_getElem?, Array.getD_eq_getD_getElem?]
  by_cases e : j = i
  · subst e; rw [if_pos rfl]; simp [hi]
  · rw [if_neg e, Array.getElem?_setIfInBounds_ne (fun h => e h.symm)]

theorem split_real {gs : List G} {d : DStep} (h : G.real d ∈ gs) : ∃ pre post, gs = pre ++ .real d :: post := by
  obtain ⟨a, b, h⟩ := List.append_of_mem h
  exact ⟨a, b, h⟩

theorem draw_go (hcall : CallOk P call) {F0 : Env × St} {μ0 : Mu} {s0 : St} {w0 : World} {ds : List Deferred} {Q : Exit → Act → World → Prop} (hU0 : FreeUp μ0 s0.next)
    (hup : edgesUp (ops.toList.map edgesOf) 0 = true)
    (hK : ∀ a w μ, TRel μ N F0.1 a.tmps → R μ F0.2 w → Ext μ0 s0 w0 μ F0.2 w → a.defers = ds → Q .normal a w) :
    ∀ (k : Nat) (listed : Array Bool) (a : Act) (w : World) (μ : Mu) (t : Env) (s : St) (gs : List G),
      DInv P N ops (befOf ops) call F0 μ0 s0 w0 ds listed a w μ t s gs → (reals gs).length = k → listed.size = ops.size →
      (∀ i, i < ops.size → (listed.getD i true = false ↔ ∃ d, G.real d ∈ gs ∧ d.idx = i)) →
      (∀ i o, ops[i]? = some o → listed.getD i false = true → ∀ e ∈ edgesOf o, listed.getD e false = true) → wpAny P .any ops Q k listed a w := by
  intro k
  induction k with
  | zero =>
    intro listed a w μ t s gs hI hk hsz hli hcl
    have hno : ∀ d, G.real d ∉ gs := fun d hd => by
      have := mem_reals.2 hd
      rw [List.length_eq_zero_iff.1 hk] at this
      cases this
    obtain ⟨h1, h2, h3⟩ := hI.done hno
    refine ⟨?_, hK _ _ _ h1 h2 h3 hI.hd⟩
    rw [List.eq_nil_iff_forall_not_mem]
    intro i hi
    obtain ⟨o, h4, h5, _⟩ := ready_iff.1 hi
    have hlt : i < ops.size := by
      rcases Nat.lt_or_ge i ops.size with h | h
      · exact h
      · rw [Array.getElem?_eq_none h] at h4; cases h4
    obtain ⟨d, h6, _⟩ := (hli i hlt).1 h5
    exact hno d h6
  | succ k ih =>
    intro listed a w μ t s gs hI hk hsz hli hcl
    refine ⟨fun hnil => ?_, fun i hi => ?_⟩
    · have hall : ∀ i, i < ops.size → listed.getD i true = true := by
        intro i
        induction i using Nat.strongRecOn with
        | _ i ihi =>
          intro hlt
          cases hb : listed.getD i true with
          | true => rfl
          | false =>
            have ho : ops[i]? = some ops[i] := Array.getElem?_eq_getElem hlt
            have : i ∈ Region.ready .any ops listed := ready_iff.2 ⟨ops[i], ho, hb, fun e he => by
              have hlt' := edgesUp_spec hup i (edgesOf ops[i]) (by simp [hlt]) e he
              have := ihi e (by omega) (by omega)
              rw [Array.getD_eq_getD_getElem?] at this ⊢
              rw [Array.getElem?_eq_getElem (by omega)] at this ⊢
              exact this⟩
            rw [hnil] at this
            cases this
      have hno : ∀ d, G.real d ∉ gs := fun d hd => by
        obtain ⟨o, h1, _⟩ := hI.ok d hd
        have hlt : d.idx < ops.size := by
          rcases Nat.lt_or_ge d.idx ops.size with h | h
          · exact h
          · rw [Array.getElem?_eq_none h] at h1; cases h1
        have := (hli _ hlt).2 ⟨d, hd, rfl⟩
        rw [hall _ hlt] at this
        cases this
      obtain ⟨h1, h2, h3⟩ := hI.done hno
      exact hK _ _ _ h1 h2 h3 hI.hd
    · obtain ⟨o, h4, h5, h6⟩ := ready_iff.1 hi
      have hlt : i < ops.size := by
        rcases Nat.lt_or_ge i ops.size with h | h
        · exact h
        · rw [Array.getElem?_eq_none h] at h4; cases h4
      obtain ⟨d, hd, hdi⟩ := (hli i hlt).1 h5
      obtain ⟨pre, post, rfl⟩ := split_real hd
      have hok := hI.ok d hd
      have hU : FreeUp μ s.next := hU0.ext hI.hE
      have hp3 := List.pairwise_append.1 hI.pw
      have hp4 := List.pairwise_cons.1 hp3.2.1
      have hanc : ∀ e, G.real e ∈ pre ++ .real d :: post → Nat.testBit d.anc e.idx = false := fun e he => by
        cases hb : Nat.testBit d.anc e.idx with
        | false => rfl
        | true =>
          obtain ⟨o', q1, _, _, q4⟩ := hok
          have hS : listed.getD e.idx false = true := befOf_spec (S := fun j => listed.getD j false = true)
            (fun i hS es hes e he => by
              simp only [List.getElem?_map] at hes
              cases ho : ops.toList[i]? with
              | none => rw [ho] at hes; cases hes
              | some o =>
                rw [ho] at hes
                cases hes
                exact hcl i o (by simpa using ho) hS e he)
            i e.idx (edgesOf o) (by simp [h4]) h6 (by rw [← hdi, ← q4]; exact hb)
          obtain ⟨o2, q5, _⟩ := hI.ok e he
          have hlt2 : e.idx < ops.size := by
            rcases Nat.lt_or_ge e.idx ops.size with h | h
            · exact h
            · rw [Array.getElem?_eq_none h] at q5; cases q5
          have := (hli _ hlt2).2 ⟨e, he, rfl⟩
          rw [Array.getD_eq_getD_getElem?] at this hS
          rw [Array.getElem?_eq_getElem (by omega)] at this hS
          simp at this hS
          rw [this] at hS
          cases hS
      have hfit : ∀ e, G.real e ∈ pre → apartD e d = true ∧ (match d.cls with
          | .p => true
          | .q => not e.cls.isI
          | .a => true
          | .i => and (not e.cls.isI) (not e.cls.isA)) = true := fun e he => by
        have h1 := (hp3.2.2 _ he _ (List.mem_cons_self ..)).1
        unfold fitsBehind at h1
        rw [hanc e (List.mem_append_left _ he)] at h1
        have h1' : (apartD e d && (match d.cls with
          | .p => true
          | .q => not e.cls.isI
          | .a => true
          | .i => and (not e.cls.isI) (not e.cls.isA))) = true := h1
        rwa [Bool.and_eq_true] at h1'
      have next : ∀ a' w' μ' t' s' gs', DInv P N ops (befOf ops) call F0 μ0 s0 w0 ds listed a' w' μ' t' s' gs' → reals gs' = reals (pre ++ post) →
          wpAny P .any ops Q k (listed.setIfInBounds i true) a' w' := fun a' w' μ' t' s' gs' hI' hgs => by
        refine ih _ a' w' μ' t' s' gs' { hI' with } ?_ (by simp [hsz]) (fun j hj => ?_) (fun j o' ho' hj e he => ?_)
        · rw [hgs]
          rw [reals_append] at hk ⊢
          rw [List.length_append] at hk ⊢
          have : (reals (G.real d :: post)).length = (reals post).length + 1 := rfl
          omega
        · rw [getD_set (by omega)]
          have hiff : (∃ e, G.real e ∈ gs' ∧ e.idx = j) ↔ (∃ e, G.real e ∈ pre ++ post ∧ e.idx = j) := by
            simp only [← mem_reals (gs := gs'), hgs, mem_reals]
          rw [hiff]
          split
          · rename_i e
            subst e
            constructor
            · intro h; cases h
            · rintro ⟨e, he, hej⟩
              exfalso
              rcases List.mem_append.1 he with he | he
              · exact (hp3.2.2 _ he _ (List.mem_cons_self ..)).2 (hej.trans hdi.symm)
              · exact (hp4.1 _ he).2 (hdi.trans hej.symm)
          · rename_i hne
            rw [hli j hj]
            constructor
            · rintro ⟨e, he, hej⟩
              refine ⟨e, ?_, hej⟩
              rw [List.mem_append, List.mem_cons] at he
              rw [List.mem_append]
              rcases he with h | h | h
              · exact .inl h
              · cases h; exact absurd (hej.symm.trans hdi) hne
              · exact .inr h
            · rintro ⟨e, he, hej⟩
              exact ⟨e, mem_drop he, hej⟩
        · rw [getD_set (by omega)] at hj
          rw [getD_set (by omega)]
          split at hj
          · rename_i e'
            subst e'
            rw [h4] at ho'; cases ho'
            split
            · rfl
            · exact h6 e he
          · split
            · rfl
            · exact hcl j o' ho' hj e he
      rw [← hdi]
      rw [← hdi] at next
      cases hc : d.cls with
      | p =>
        exact hI.pq hcall (.inl hc) (fun e he => ⟨(hfit e he).1, fun h => by rw [hc] at h; cases h⟩) hU fun a' w' μ' v hI' => next a' w' μ' _ s _ hI' rfl
      | q =>
        exact hI.pq hcall (.inr hc) (fun e he => ⟨(hfit e he).1, fun h => by have := (hfit e he).2; rw [hc] at this; simpa using this⟩) hU fun a' w' μ' v hI' => next a' w' μ' _ s _ hI' rfl
      | a => exact hI.a hcall hc (fun e he => (hfit e he).1) hU fun a' w' μ' v gs hI' hg => next a' w' μ' _ s gs hI' hg
      | i =>
        refine hI.i hcall hc (fun e he => ⟨(hfit e he).1, ?_, hanc e (List.mem_append_left _ he)⟩) hU fun a' w' μ' v s' gs hI' hg => next a' w' μ' _ s' gs hI' hg
        have := (hfit e he).2
        rw [hc] at this
        cases he' : e.cls <;> rw [he'] at this <;> simp [Cls.isI, Cls.isA] at this ⊢

theorem draw_ok (hm : P.follows .mixedOrders = true) (hcall : CallOk P call) {n : Nat} {dl : List DStep} (hc : cdraw P N ops = some (.draw n dl)) {μ : Mu} {t t' : Env} {s s' : St} {w : World} {a : Act}
    (hr : execDraw call s.next dl t ⟨s.heap, s.next.plus n⟩ ⟨s.heap, s.next.plus n⟩ [] = some (t', s')) (ht : TRel μ N t a.tmps) (hR : R μ s w) (hU : FreeUp μ s.next)
    {id : Nat} {Q : Exit → Act → World → Prop} (hK : ∀ a' w' μ', TRel μ' N t' a'.tmps → R μ' s' w' → Ext μ s w μ' s' w' → a'.defers = a.defers → Q .normal a' w') : (Code.region id ops true).wp P Q a w := by
  unfold cdraw at hc
  simp only at hc
  split at hc
  · cases hc
  rename_i l hl
  split at hc
  case h_2 => cases hc
  rename_i hchk
  cases hc
  have hchk' : (edgesUp (ops.toList.map edgesOf) 0 && (Nat.beq (order l).length ops.size && chkQ ops.size (order l) [] 0)) = true := hchk
  rw [Bool.and_eq_true, Bool.and_eq_true] at hchk'
  obtain ⟨hup, hlen, hck⟩ := hchk'
  have hsp := chkD_spec (chkQ_chkD (l := []) hck) (fun j => by simp)
  have hlen' : (order l).length = ops.size := Nat.eq_of_beq_eq_true hlen
  have hok : ∀ d ∈ order l, StepOk P N ops (befOf ops) d := fun d hd => dsteps_spec hl (fun j => by simp) d (mem_order hd)
  have hmem : ∀ d, G.real d ∈ (order l).map G.real ↔ d ∈ order l := fun d => by simp
  have hreals : ∀ l : List DStep, reals (l.map G.real) = l.map G.real := fun l => by
    induction l with
    | nil => rfl
    | cons d l ih => simp [reals, ih]
  have hpl : (s.next.plus ops.size).toNat = s.next.toNat + ops.size := Pos.toNat_plus _ _
  have hid : ∀ d ∈ order l, d.idx < ops.size := fun d hd => by
    obtain ⟨o, h1, _⟩ := hok d hd
    rcases Nat.lt_or_ge d.idx ops.size with h | h
    · exact h
    · rw [Array.getElem?_eq_none h] at h1; cases h1
  refine wp_region_any hm (draw_go (F0 := (t', s')) (μ0 := μ) (s0 := s) (w0 := w) (ds := a.defers) hcall hU hup hK ops.size _ a _ μ t ⟨s.heap, s.next.plus ops.size⟩ ((order l).map .real) ?_ ?_ ?_ ?_ ?_)
  · exact {
      run := ⟨(t', s'), by rw [← execDraw_eq]; exact hr, fun _ => rfl, rfl⟩
      ht := ht
      hR := ⟨fun p hp => hR.fresh p (by have hp' : (s.next.plus ops.size).toNat ≤ p.toNat := hp; omega), fun p x hp => hR.drew.blk p x hp, hR.apart⟩
      hE := { Ext.drew μ s w with
        mu := fun _ _ => rfl
        next := by show s.next.toNat ≤ (s.next.plus ops.size).toNat; omega
        own := fun _ _ h => h }
      hd := rfl
      gh := fun id x hx => by simp at hx
      al := fun d hd _ => by
        have := hid d ((hmem d).1 hd)
        have hpe : (s.next.plus d.idx).toNat = s.next.toNat + d.idx := Pos.toNat_plus _ _
        exact ⟨hU _ (by omega), by show (s.next.plus d.idx).toNat < (s.next.plus ops.size).toNat; omega⟩
      ok := fun d hd => hok d ((hmem d).1 hd)
      pw := by
        rw [List.pairwise_map]
        exact hsp.1 }
  · rw [hreals, List.length_map, hlen']
  · simp
  · intro i hi
    constructor
    · intro _
      obtain ⟨e, h1, h2⟩ := hsp.2.2 i hi
      rcases h1 with h1 | h1
      · cases h1
      · exact ⟨e, (hmem e).2 h1, h2⟩
    · intro _
      simp [Array.getD_eq_getD_getElem?, hi]
  · intro i o ho hli
    exfalso
    have hlt : i < ops.size := by
      rcases Nat.lt_or_ge i ops.size with h | h
      · exact h
      · rw [Array.getElem?_eq_none h] at ho; cases ho
    rw [Array.getD_eq_getD_getElem?, Array.getElem?_replicate, if_pos hlt] at hli
    cases hli
end

end Go.Abs
