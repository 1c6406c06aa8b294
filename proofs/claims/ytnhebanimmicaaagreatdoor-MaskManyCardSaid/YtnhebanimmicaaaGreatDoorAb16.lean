/- Drawn regions: the steps of a region may be taken in another order. -/
import Derived.Test.YtnhebanimmicaaaGreatDoorAb15
namespace Go.Abs

/-! ### values held against each other -/
mutual
theorem AV.beq_eq : ∀ {a b : AV}, AV.beq a b = true → a = b
  | .bool a, .bool b, h => by cases a <;> cases b <;> first | rfl | cases h
  | .int k a, .int j b, h => by
    simp only [AV.beq, Bool.and_eq_true] at h
    rw [kbeq_eq.1 h.1]
    have := h.2
    rw [eqI_eq, beq_iff_eq] at this
    rw [this]
  | .str l a, .str m b, h => by
    simp only [AV.beq, Bool.and_eq_true] at h
    rw [Nat.eq_of_beq_eq_true h.1, Nat.eq_of_beq_eq_true h.2]
  | .ptr b o, .ptr c p, h => by
    simp only [AV.beq, Bool.and_eq_true] at h
    rw [Pos.beq_eq.1 h.1, Nat.eq_of_beq_eq_true h.2]
  | .nilptr, .nilptr, _ => rfl
  | .slice b o l c e, .slice b' o' l' c' e', h => by
    simp only [AV.beq, Bool.and_eq_true] at h
    obtain ⟨h1, h2, h3, h4, h5⟩ := h
    rw [Pos.beq_eq.1 h1, Nat.eq_of_beq_eq_true h2, Nat.eq_of_beq_eq_true h3, Nat.eq_of_beq_eq_true h5]
    cases c <;> cases c' <;> first
      | rfl
      | (cases h4; done)
      | rw [Nat.eq_of_beq_eq_true h4]
  | .nilslice, .nilslice, _ => rfl
  | .map b, .map c, h => by
    simp only [AV.beq] at h
    rw [Pos.beq_eq.1 h]
  | .nilmap, .nilmap, _ => rfl
  | .fn f l, .fn g m, h => by
    simp only [AV.beq, Bool.and_eq_true] at h
    rw [Nat.eq_of_beq_eq_true h.1, AV.beqs_eq h.2]
  | .nilfn, .nilfn, _ => rfl
  | .iface t v, .iface u w, h => by
    simp only [AV.beq, Bool.and_eq_true] at h
    rw [Nat.eq_of_beq_eq_true h.1, AV.beq_eq h.2]
  | .niliface, .niliface, _ => rfl
  | .agg l, .agg m, h => by simp only [AV.beq] at h; rw [AV.beqs_eq h]
  | .tup l, .tup m, h => by simp only [AV.beq] at h; rw [AV.beqs_eq h]
  | .sym a b c, .sym x y z, h => by
    simp only [AV.beq, Bool.and_eq_true, eqI_eq, beq_iff_eq] at h
    rw [h.1, h.2.1, h.2.2]
  | .symR b c, .symR y z, h => by
    simp only [AV.beq, Bool.and_eq_true, eqI_eq, beq_iff_eq] at h
    rw [h.1, h.2]
theorem AV.beqs_eq : ∀ {l m : List AV}, AV.beqs l m = true → l = m
  | [], [], _ => rfl
  | a :: l, b :: m, h => by
    simp only [AV.beqs, Bool.and_eq_true] at h
    rw [AV.beq_eq h.1, AV.beqs_eq h.2]
end

mutual
theorem AV.beq_refl : ∀ (a : AV), AV.beq a a = true
  | .bool a => by cases a <;> rfl
  | .int k a => by simp only [AV.beq, Bool.and_eq_true]; exact ⟨kbeq_eq.2 rfl, by rw [eqI_eq]; simp⟩
  | .str l a => by simp only [AV.beq, Bool.and_eq_true]; exact ⟨Nat.beq_refl l, Nat.beq_refl a⟩
  | .ptr b o => by simp only [AV.beq, Bool.and_eq_true]; exact ⟨Pos.beq_eq.2 rfl, Nat.beq_refl o⟩
  | .nilptr => rfl
  | .slice b o l c e => by
    simp only [AV.beq, Bool.and_eq_true]
    refine ⟨Pos.beq_eq.2 rfl, Nat.beq_refl o, Nat.beq_refl l, ?_, Nat.beq_refl e⟩
    cases c
    · rfl
    · exact Nat.beq_refl _
  | .nilslice => rfl
  | .map b => by simp only [AV.beq]; exact Pos.beq_eq.2 rfl
  | .nilmap => rfl
  | .fn f l => by simp only [AV.beq, Bool.and_eq_true]; exact ⟨Nat.beq_refl f, AV.beqs_refl l⟩
  | .nilfn => rfl
  | .iface t v => by simp only [AV.beq, Bool.and_eq_true]; exact ⟨Nat.beq_refl t, AV.beq_refl v⟩
  | .niliface => rfl
  | .agg l => by simp only [AV.beq]; exact AV.beqs_refl l
  | .tup l => by simp only [AV.beq]; exact AV.beqs_refl l
  | .sym a b c => by simp only [AV.beq, Bool.and_eq_true, eqI_eq, beq_iff_eq]; exact ⟨trivial, trivial, trivial⟩
  | .symR b c => by simp only [AV.beq, Bool.and_eq_true, eqI_eq, beq_iff_eq]; exact ⟨trivial, trivial⟩
theorem AV.beqs_refl : ∀ (l : List AV), AV.beqs l l = true
  | [] => rfl
  | a :: l => by simp only [AV.beqs, Bool.and_eq_true]; exact ⟨AV.beq_refl a, AV.beqs_refl l⟩
end

theorem optB_eq {α : Type} {eq : α → α → Bool} (h : ∀ a b, eq a b = true → a = b) : ∀ {a b : Option α}, optB eq a b = true → a = b
  | none, none, _ => rfl
  | none, some _, k => by cases k
  | some _, none, k => by cases k
  | some x, some y, k => by rw [h x y k]
theorem T.beqW_eq {α : Type} {eq : α → α → Bool} (h : ∀ a b, eq a b = true → a = b) : ∀ {a b : T α}, T.beqW eq a b = true → a = b
  | .leaf, .leaf, _ => rfl
  | .leaf, .node _ _ _, k => by cases k
  | .node _ _ _, .leaf, k => by cases k
  | .node l v r, .node l' v' r', k => by
    have k' : (optB eq v v' && (T.beqW eq l l' && T.beqW eq r r')) = true := k
    rw [Bool.and_eq_true, Bool.and_eq_true] at k'
    rw [optB_eq h k'.1, T.beqW_eq h k'.2.1, T.beqW_eq h k'.2.2]
theorem entB_eq : ∀ {a b : List (AV × AV × Nat)}, entB a b = true → a = b
  | [], [], _ => rfl
  | [], _ :: _, k => by cases k
  | _ :: _, [], k => by cases k
  | (x1, x2, x3) :: l, (y1, y2, y3) :: m, k => by
    have k' : (AV.beq x1 y1 && (AV.beq x2 y2 && (Nat.beq x3 y3 && entB l m))) = true := k
    rw [Bool.and_eq_true, Bool.and_eq_true, Bool.and_eq_true] at k'
    rw [AV.beq_eq k'.1, AV.beq_eq k'.2.1, Nat.eq_of_beq_eq_true k'.2.2.1, entB_eq k'.2.2.2]
theorem lkB_eq {a b : Lk} (k : lkB a b = true) : a = b := by
  obtain ⟨f, i⟩ := a
  obtain ⟨g, j⟩ := b
  unfold lkB at k
  rw [Bool.and_eq_true] at k
  obtain ⟨h1, h2⟩ := k
  obtain rfl := Pos.beq_eq.1 h1
  cases i <;> cases j <;> first | rfl | (cases h2)
theorem natsB_eq : ∀ {a b : List Nat}, natsB a b = true → a = b
  | [], [], _ => rfl
  | [], _ :: _, k => by cases k
  | _ :: _, [], k => by cases k
  | x :: l, y :: m, k => by
    have k' : (Nat.beq x y && natsB l m) = true := k
    rw [Bool.and_eq_true] at k'
    rw [Nat.eq_of_beq_eq_true k'.1, natsB_eq k'.2]
theorem Blk.beq_eq : ∀ {a b : Blk}, Blk.beq a b = true → a = b
  | .cells c n m, .cells c' n' m', k => by
    have k' : (Nat.beq n n' && (optB lkB m m' && T.beqW AV.beq c c')) = true := k
    rw [Bool.and_eq_true, Bool.and_eq_true] at k'
    rw [Nat.eq_of_beq_eq_true k'.1, optB_eq (fun a b h => lkB_eq h) k'.2.1, T.beqW_eq (fun a b h => AV.beq_eq h) k'.2.2]
  | .cells _ _ _, .map _ _, k => by cases k
  | .map _ _, .cells _ _ _, k => by cases k
  | .cells _ _ _, .iter _ _ _ _, k => by cases k
  | .map _ _, .iter _ _ _ _, k => by cases k
  | .iter _ _ _ _, .cells _ _ _, k => by cases k
  | .iter _ _ _ _, .map _ _, k => by cases k
  | .iter m a l c, .iter m' a' l' c', k => by
    have k' : (optB Pos.beq m m' && (Nat.beq a a' && (natsB l l' && Nat.beq c c'))) = true := k
    rw [Bool.and_eq_true, Bool.and_eq_true, Bool.and_eq_true] at k'
    rw [optB_eq (fun a b h => Pos.beq_eq.1 h) k'.1, Nat.eq_of_beq_eq_true k'.2.1, natsB_eq k'.2.2.1, Nat.eq_of_beq_eq_true k'.2.2.2]
  | .map es c, .map es' c', k => by
    have k' : (Nat.beq c c' && entB es es') = true := k
    rw [Bool.and_eq_true] at k'
    rw [Nat.eq_of_beq_eq_true k'.1, entB_eq k'.2]
theorem St.beq_eq {a b : St} (k : St.beq a b = true) : a = b := by
  obtain ⟨h, n⟩ := a
  obtain ⟨h', n'⟩ := b
  have k' : (n.beq n' && T.beqW Blk.beq h h') = true := k
  rw [Bool.and_eq_true] at k'
  rw [Pos.beq_eq.1 k'.1, T.beqW_eq (fun a b h => Blk.beq_eq h) k'.2]

/-! ### slots that look alike -/
def Teq (t t' : Env) : Prop := ∀ p, t.get p = t'.get p
theorem restr_cons (t : Env) (p : Nat) (l : List Nat) : restr t (p :: l) = (match t.get p with
  | some v => .bind p v (restr t l)
  | none => restr t l) := rfl
theorem restr_congr {t t' : Env} : ∀ {l : List Nat}, (∀ p ∈ l, t.get p = t'.get p) → restr t l = restr t' l
  | [], _ => rfl
  | p :: l, h => by
    rw [restr_cons, restr_cons, restr_congr (fun q hq => h q (List.mem_cons_of_mem _ hq)), h p (List.mem_cons_self ..)]
theorem restr_get {t : Env} : ∀ {l : List Nat} {q : Nat} {v : AV}, (restr t l).get q = some v → t.get q = some v
  | [], q, v, h => by rw [show restr t [] = Env.nil from rfl, Env.get_nil] at h; cases h
  | p :: l, q, v, h => by
    rw [restr_cons] at h
    split at h
    · rename_i u hu
      rw [Env.get_bind] at h
      split at h
      · rename_i e; rw [← e, hu]; exact h
      · exact restr_get h
    · exact restr_get h
theorem TRel.restr {μ : Mu} {N : Nat} {t : Env} {tmps : Array Value} (h : TRel μ N t tmps) (l : List Nat) : TRel μ N (restr t l) tmps := ⟨h.size, fun j v hv => h.get j v (restr_get hv)⟩
theorem setDst_get (d : Option Nat) (v : AV) (t : Env) (q : Nat) : (setDst d v t).get q = if d = some q then some v else t.get q := by
  cases d with
  | none => rw [if_neg (by simp)]; rfl
  | some p =>
    show (Env.bind p v t).get q = _
    rw [Env.get_bind]
    by_cases e : p = q
    · rw [if_pos e, if_pos (by rw [e])]
    · rw [if_neg e, if_neg (fun h => e (by cases h; rfl))]
theorem Teq.setDst {t t' : Env} (h : Teq t t') (d : Option Nat) (v : AV) : Teq (setDst d v t) (setDst d v t') := fun q => by rw [setDst_get, setDst_get, h q]
theorem memP_iff {p : Nat} : ∀ {l : List Nat}, memP p l = true ↔ p ∈ l
  | [] => by simp [memP]
  | q :: l => by
    show (Nat.beq p q || memP p l) = true ↔ _
    rw [Bool.or_eq_true, Nat.beq_eq, memP_iff, List.mem_cons]
theorem apart_facts {x y : DStep} (h : apartD x y = true) : (∀ d, x.o.dst = some d → d ∉ y.names) ∧ (∀ d, y.o.dst = some d → d ∉ x.names) ∧ (∀ d, x.o.dst = some d → y.o.dst ≠ some d) := by
  unfold apartD at h
  rw [Bool.and_eq_true] at h
  obtain ⟨h1, h2⟩ := h
  refine ⟨fun d hd => ?_, fun d hd => ?_, fun d hd => ?_⟩
  · rw [hd] at h1
    simp only [Bool.and_eq_true, Bool.not_eq_true'] at h1
    intro hm; rw [memP_iff.2 hm] at h1; exact absurd h1.1 (by simp)
  · rw [hd] at h2
    simp only [Bool.not_eq_true'] at h2
    intro hm; rw [memP_iff.2 hm] at h2; cases h2
  · rw [hd] at h1
    simp only [Bool.and_eq_true] at h1
    intro he
    rw [he] at h1
    simp only [Bool.not_eq_true'] at h1
    rw [show Nat.beq d d = true from Nat.beq_refl d] at h1
    exact absurd h1.2 (by simp)
theorem restr_setDst {t : Env} {d : Option Nat} {v : AV} {l : List Nat} (h : ∀ p, d = some p → p ∉ l) : restr (setDst d v t) l = restr t l :=
  restr_congr fun p hp => by rw [setDst_get, if_neg (fun e => h p e hp)]
theorem setDst_swap {t : Env} {d e : Option Nat} {v u : AV} (h : ∀ p, d = some p → e ≠ some p) : Teq (setDst d v (setDst e u t)) (setDst e u (setDst d v t)) := fun q => by
  rw [setDst_get, setDst_get, setDst_get, setDst_get]
  by_cases hd : d = some q
  · rw [if_pos hd, if_neg (h q hd), if_pos hd]
  · rw [if_neg hd, if_neg hd]

/-! ### a run with what is made already -/
inductive G where
  | real (d : DStep)
  | ghost (id : Pos) (x : Blk)
noncomputable def lay1 (s : St) (id : Pos) (x : Blk) : St := ⟨s.heap.put (some x) id, s.next⟩
noncomputable def execG (call : CallF) (r0 : Pos) : List G → Env → St → St → List Seen → Option (Env × St)
  | [], t, s, _, _ => some (t, s)
  | .ghost id x :: r, t, s, b, l => execG call r0 r t (lay1 s id x) b l
  | .real d :: r, t, s, b, l => match d.cls with
    | .p => match runOp call d.o (restr t d.names) b with
      | none => none
      | some (v, _) => execG call r0 r (setDst d.o.dst v t) s b l
    | .q => match runOp call d.o (restr t d.names) b with
      | none => none
      | some (v, _) => execG call r0 r (setDst d.o.dst v t) s b (⟨d.idx, restr t d.names, d.o, v⟩ :: l)
    | .a => match runOp call d.o (restr t d.names) ⟨s.heap, r0.plus d.idx⟩ with
      | none => none
      | some (v, s1) => execG call r0 r (setDst d.o.dst v t) ⟨s1.heap, s.next⟩ b l
    | .i => match runOp call d.o (restr t d.names) s with
      | none => none
      | some (v, s1) => match recheck call d.anc l s1 with
        | true => execG call r0 r (setDst d.o.dst v t) s1 s1 l
        | false => none
theorem execDraw_eq (call : CallF) (r0 : Pos) : ∀ (ds : List DStep) (t : Env) (s b : St) (l : List Seen), execDraw call r0 ds t s b l = execG call r0 (ds.map .real) t s b l
  | [], t, s, b, l => rfl
  | d :: ds, t, s, b, l => by
    simp only [List.map_cons, execG, ← execDraw_eq call r0 ds]
    rfl

theorem recheck_iff {call : CallF} {anc : Nat} {s : St} : ∀ {l : List Seen}, recheck call anc l s = true ↔ ∀ e ∈ l, Nat.testBit anc e.idx = false → ∃ v s1, runOp call e.o e.t s = some (v, s1) ∧ e.v = v
  | [] => by simp [recheck]
  | e :: l => by
    have ih := recheck_iff (call := call) (anc := anc) (s := s) (l := l)
    have e1 : recheck call anc (e :: l) s = match Nat.testBit anc e.idx with
      | true => recheck call anc l s
      | false => match runOp call e.o e.t s with
        | some (v, _) => and (AV.beq e.v v) (recheck call anc l s)
        | none => false := rfl
    rw [e1]
    constructor
    · intro h x hx hb
      rcases List.mem_cons.1 hx with rfl | hx
      · rw [hb] at h
        simp only at h
        split at h
        · rename_i v s1 hr
          have h' : (AV.beq x.v v && recheck call anc l s) = true := h
          rw [Bool.and_eq_true] at h'
          exact ⟨v, s1, hr, AV.beq_eq h'.1⟩
        · cases h
      · split at h
        · exact ih.1 h x hx hb
        · split at h
          · rename_i v s1 hr
            have h' : (AV.beq e.v v && recheck call anc l s) = true := h
            rw [Bool.and_eq_true] at h'
            exact ih.1 h'.2 x hx hb
          · cases h
    · intro h
      have hl := ih.2 fun x hx => h x (List.mem_cons_of_mem _ hx)
      split
      · exact hl
      · rename_i hb
        obtain ⟨v, s1, hr, hv⟩ := h e (List.mem_cons_self ..) hb
        rw [hr]
        simp only
        show (AV.beq e.v v && recheck call anc l s) = true
        rw [Bool.and_eq_true]
        exact ⟨by rw [hv]; exact AV.beq_refl v, hl⟩

theorem execG_congr {call : CallF} {r0 : Pos} : ∀ {gs : List G} {t t' : Env} {s b : St} {l l' : List Seen} {F : Env × St}, Teq t t' → (∀ e ∈ l', e ∈ l) → execG call r0 gs t s b l = some F →
    ∃ F', execG call r0 gs t' s b l' = some F' ∧ Teq F.1 F'.1 ∧ F.2 = F'.2
  | [], t, t', s, b, l, l', F, ht, hl, h => by cases h; exact ⟨(t', s), rfl, ht, rfl⟩
  | .ghost id x :: gs, t, t', s, b, l, l', F, ht, hl, h => execG_congr (gs := gs) ht hl h
  | .real d :: gs, t, t', s, b, l, l', F, ht, hl, h => by
    have hr : restr t d.names = restr t' d.names := restr_congr fun p _ => ht p
    simp only [execG] at h ⊢
    rw [hr] at h
    cases hc : d.cls with
    | p =>
      rw [hc] at h
      simp only at h ⊢
      split at h
      · cases h
      · rename_i v s1 _; exact execG_congr (ht.setDst _ v) hl h
    | q =>
      rw [hc] at h
      simp only at h ⊢
      split at h
      · cases h
      · rename_i v s1 _
        exact execG_congr (ht.setDst _ v) (fun e he => by
          rcases List.mem_cons.1 he with rfl | he
          · exact List.mem_cons_self ..
          · exact List.mem_cons_of_mem _ (hl e he)) h
    | a =>
      rw [hc] at h
      simp only at h ⊢
      split at h
      · cases h
      · rename_i v s1 _; exact execG_congr (ht.setDst _ v) hl h
    | i =>
      rw [hc] at h
      simp only at h ⊢
      split at h
      · cases h
      · rename_i v s1 hrun
        split at h
        case h_2 => cases h
        rename_i hre
        have : recheck call d.anc l' s1 = true := recheck_iff.2 fun e he hb => recheck_iff.1 hre e (hl e he) hb
        simp only [this]
        exact execG_congr (ht.setDst _ v) hl h

end Go.Abs
