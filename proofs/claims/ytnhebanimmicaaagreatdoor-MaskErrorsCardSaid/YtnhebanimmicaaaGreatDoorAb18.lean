/- Drawn regions: the model follows every order. -/
import Derived.Test.YtnhebanimmicaaaGreatDoorAb17
namespace Go.Abs

theorem Pos.toNat_plus (p : Pos) : ∀ n, (p.plus n).toNat = p.toNat + n
  | 0 => rfl
  | n + 1 => by
    show ((p.plus n).succ).toNat = _
    rw [Pos.toNat_succ, Pos.toNat_plus p n]; omega

/-- A made block that is not laid yet. -/
structure GhostOk (μ : Mu) (s : St) (w : World) (m : Nat) (r0 : Pos) (id : Pos) (x : Blk) : Prop where
  blk : ∃ c d e, μ id = some (c, d, e) ∧ BRel μ w x (c, d, e) ∧ NotIn μ s c ∧ m ≤ c
  lo : r0.toNat ≤ id.toNat
  hi : id.toNat < s.next.toNat
  mate : x.mateOf = none

def GRel (μ : Mu) : G → G → Prop
  | .real e, .real d => fitsBehind d e = true ∧ e.idx ≠ d.idx
  | .ghost id _, .ghost id' _ => ∀ c d e c' d' e', μ id = some (c, d, e) → μ id' = some (c', d', e') → c ≠ c'
  | _, _ => True

theorem R.lay {μ : Mu} {s : St} {w : World} {m : Nat} {r0 id : Pos} {x : Blk} (h : R μ s w) (g : GhostOk μ s w m r0 id x) : R μ (lay1 s id x) w := by
  obtain ⟨c, d, e, g1, g2, g3, _⟩ := g.blk
  have hget : ∀ q y, (lay1 s id x).heap.get q = some y → (q = id ∧ y = x) ∨ (q ≠ id ∧ s.heap.get q = some y) := by
    intro q y hq
    have hq' : (s.heap.put (some x) id).get q = some y := hq
    rw [T.get_put] at hq'
    split at hq'
    · exact .inl ⟨‹_›, by cases hq'; rfl⟩
    · exact .inr ⟨‹_›, hq'⟩
  refine ⟨fun p hp => ?_, fun q y hq => ?_, fun p q y z b d1 t1 d' t1' hp hq m1 m2 hne => ?_⟩
  · have hp' : s.next.toNat ≤ p.toNat := hp
    show (s.heap.put (some x) id).get p = none
    have := g.hi
    rw [T.get_put, if_neg (fun e => by rw [e] at hp'; omega)]
    exact h.fresh p hp'
  · rcases hget q y hq with ⟨rfl, rfl⟩ | ⟨_, hq⟩
    · exact ⟨c, d, e, g1, g2⟩
    · exact h.blk q y hq
  · rcases hget p y hp with ⟨rfl, rfl⟩ | ⟨h1, hp'⟩ <;> rcases hget q z hq with ⟨rfl, rfl⟩ | ⟨h2, hq'⟩
    · exact absurd rfl hne
    · rw [g1] at m1; cases m1; exact absurd m2 (g3 q z _ _ hq')
    · rw [g1] at m2; cases m2; exact absurd m1 (g3 p y _ _ hp')
    · exact h.apart p q y z b d1 t1 d' t1' hp' hq' m1 m2 hne

theorem NotIn.lay {μ : Mu} {s : St} {b : Nat} {id : Pos} {x : Blk} (h : NotIn μ s b) (hb : ∀ d t, μ id ≠ some (b, d, t)) : NotIn μ (lay1 s id x) b := by
  intro q y d t hq
  have hq' : (s.heap.put (some x) id).get q = some y := hq
  rw [T.get_put] at hq'
  split at hq'
  · rename_i e; rw [e]; exact hb d t
  · exact h q y d t hq'

theorem Ext.lay {μ0 μ : Mu} {s0 s : St} {w0 w : World} {id : Pos} {x : Blk} (h : Ext μ0 s0 w0 μ s w) (g : GhostOk μ s w w0.heap.size s0.next id x) : Ext μ0 s0 w0 μ (lay1 s id x) w := by
  obtain ⟨c, d, e, g1, g2, g3, g4⟩ := g.blk
  exact { h with
    own := fun b hb hn => (h.own b hb hn).lay fun d' t' he => by rw [g1] at he; cases he; omega }

/-- All that is made ahead of the rest is laid. -/
theorem lays_ok {μ0 μ : Mu} {s0 : St} {w0 w : World} {rest : List G} : ∀ (pre : List G) {s : St}, R μ s w → Ext μ0 s0 w0 μ s w →
    (∀ id x, G.ghost id x ∈ pre ++ rest → GhostOk μ s w w0.heap.size s0.next id x) → (pre ++ rest).Pairwise (GRel μ) →
    R μ (lays s pre) w ∧ Ext μ0 s0 w0 μ (lays s pre) w ∧ (lays s pre).next = s.next ∧ ∀ id x, G.ghost id x ∈ rest → GhostOk μ (lays s pre) w w0.heap.size s0.next id x
  | [], s, hR, hE, hg, _ => ⟨hR, hE, rfl, fun id x h => hg id x h⟩
  | .real d :: pre, s, hR, hE, hg, hp => lays_ok pre hR hE (fun id x h => hg id x (List.mem_cons_of_mem _ h)) (List.pairwise_cons.1 hp).2
  | .ghost id x :: pre, s, hR, hE, hg, hp => by
    have g := hg id x (List.mem_cons_self ..)
    have hp' := List.pairwise_cons.1 hp
    have := lays_ok pre (s := lay1 s id x) (hR.lay g) (hE.lay g) (fun id' x' h => by
      have g' := hg id' x' (List.mem_cons_of_mem _ h)
      have hne := hp'.1 _ h
      obtain ⟨c, d, e, k1, k2, k3, k4⟩ := g'.blk
      exact ⟨⟨c, d, e, k1, k2, k3.lay fun d' t' he => hne _ _ _ _ _ _ he k1 rfl, k4⟩, g'.lo, g'.hi, g'.mate⟩) hp'.2
    exact this

theorem execG_done {call : CallF} {r0 : Pos} : ∀ {gs : List G} {t : T AV} {s b : St} {l : List Seen}, (∀ d, G.real d ∉ gs) → execG call r0 gs t s b l = some (t, lays s gs)
  | [], _, _, _, _, _ => rfl
  | .ghost id x :: gs, t, s, b, l, h => execG_done (gs := gs) fun d hd => h d (List.mem_cons_of_mem _ hd)
  | .real d :: gs, _, _, _, _, h => absurd (List.mem_cons_self ..) (h d)

/-! ### ancestors -/
theorem testBit_mask {acc : List Nat} {j : Nat} : ∀ {es : List Nat}, Nat.testBit (maskOf acc es) j = true → ∃ e ∈ es, j = e ∨ Nat.testBit (acc.getD e 0) j = true
  | [], h => by
    have : Nat.testBit 0 j = true := h
    simp at this
  | e :: es, h => by
    have h' : Nat.testBit ((2 ^ e ||| acc.getD e 0) ||| maskOf acc es) j = true := h
    rw [Nat.testBit_or, Nat.testBit_or, Bool.or_eq_true, Bool.or_eq_true] at h'
    rcases h' with (h1 | h1) | h1
    · rw [Nat.testBit_two_pow, decide_eq_true_eq] at h1
      exact ⟨e, List.mem_cons_self .., .inl h1.symm⟩
    · exact ⟨e, List.mem_cons_self .., .inr h1⟩
    · obtain ⟨e', h2, h3⟩ := testBit_mask h1
      exact ⟨e', List.mem_cons_of_mem _ h2, h3⟩

theorem ancs_spec {S : Nat → Prop} : ∀ (rest pre : List (List Nat)) (acc : List Nat), acc.length = pre.length →
    (∀ i, S i → ∀ es, (pre ++ rest)[i]? = some es → ∀ e ∈ es, S e) →
    (∀ i j es, (pre ++ rest)[i]? = some es → i < pre.length → (∀ e ∈ es, S e) → Nat.testBit (acc.getD i 0) j = true → S j) →
    ∀ i j es, (pre ++ rest)[i]? = some es → (∀ e ∈ es, S e) → Nat.testBit ((ancs rest acc).getD i 0) j = true → S j
  | [], pre, acc, hl, hS, hacc, i, j, es, hi, he, hb => by
    have hlt : i < pre.length := by
      rcases Nat.lt_or_ge i pre.length with h | h
      · exact h
      · rw [List.append_nil, List.getElem?_eq_none h] at hi; cases hi
    exact hacc i j es hi hlt he hb
  | es0 :: rest, pre, acc, hl, hS, hacc, i, j, es, hi, he, hb => by
    have e1 : ancs (es0 :: rest) acc = ancs rest (acc ++ [litN (maskOf acc es0)]) := rfl
    have e2 : pre ++ es0 :: rest = (pre ++ [es0]) ++ rest := by simp
    rw [e1] at hb
    rw [e2] at hi hS
    refine ancs_spec rest (pre ++ [es0]) _ (by simp [hl]) hS (fun i j es hi hlt he hb => ?_) i j es hi he hb
    rcases Nat.lt_or_ge i pre.length with h | h
    · refine hacc i j es (by rw [e2]; exact hi) h he ?_
      rw [List.getD_eq_getElem?_getD, List.getElem?_append_left (by omega), ← List.getD_eq_getElem?_getD] at hb
      exact hb
    · have hi0 : i = pre.length := by simp at hlt; omega
      subst hi0
      have hes : es = es0 := by
        rw [← e2] at hi
        simpa using hi.symm
      subst hes
      rw [List.getD_eq_getElem?_getD, List.getElem?_append_right (by omega)] at hb
      rw [show pre.length - acc.length = 0 by omega] at hb
      simp only [List.getElem?_cons_zero, Option.getD_some, litN_eq] at hb
      obtain ⟨e, h1, h2⟩ := testBit_mask hb
      rcases h2 with rfl | h2
      · exact he _ h1
      · have hlt' : e < pre.length := by
          rcases Nat.lt_or_ge e acc.length with h' | h'
          · omega
          · rw [List.getD_eq_getElem?_getD, List.getElem?_eq_none h'] at h2; simp at h2
        have hlt2 : e < (pre ++ es :: rest).length := by simp; omega
        exact hacc e j _ (List.getElem?_eq_getElem hlt2) hlt' (fun e' he' => hS e (he e h1) _ (by rw [← e2]; exact List.getElem?_eq_getElem hlt2) e' he') h2

end Go.Abs
