/- Drawn regions: the model follows every order. -/
import Derived.Test.YtnhebanimmicaaaGreatDoorAb17
namespace Go.Abs

theorem Pos.toNat_plus (p : Pos) : ∀ n, (p.plus n).toNat = p.toNat + n
  | 0 => rfl
  | n + 1 => by
    show ((p.plus n).succ).toNat = _
    rw [Pos.toNat_succ, Pos.toNat_plus p n]; omega

/-- A made block that is not laid yet. -/
structure GhostOk (μ : Mu) (s : St) (w : World) (m : Nat) (r0 : Pos) (id : Pos) (x : Blk) : Prop where
  blk : ∃ c d e, μ id = some (c, d, e) ∧ BRel μ w x (c, d, e) ∧ NotIn μ s c ∧ m ≤ c
  lo : r0.toNat ≤ id.toNat
  hi : id.toNat < s.next.toNat
  mate : x.mateOf = none

def GRel (μ : Mu) : G → G → Prop
  | .real e, .real d => fitsBehind d e = true ∧ e.idx ≠ d.idx
  | .ghost id _, .ghost id' _ => ∀ c d e c' d' e', μ id = some (c, d, e) → μ id' = some (c', d', e') → c ≠ c'
  | _, _ => True

theorem R.lay {μ : Mu} {s : St} {w : World} {m : Nat} {r0 id : Pos} {x : Blk} (h : R μ s w) (g : GhostOk μ s w m r0 id x) : R μ (lay1 s id x) w := by
  obtain ⟨c, d, e, g1, g2, g3, _⟩ := g.blk
  have hget : ∀ q y, (lay1 s id x).heap.get q = some y → (q = id ∧ y = x) ∨ (q ≠ id ∧ s.heap.get q = some y) := by
    intro q y hq
    have hq' : (s.heap.put (some x) id).get q = some y := hq
    rw [T.get_put] at hq'
    split at hq'
    · exact .inl ⟨‹_›, by cases hq'; rfl⟩
    · exact .inr ⟨‹_›, hq'⟩
  refine ⟨fun p hp => ?_, fun q y hq => ?_, fun p q y z b d1 t1 d' t1' hp hq m1 m2 hne => ?_⟩
  · have hp' : s.next.toNat ≤ p.toNat := hp
    show (s.heap.put (some x) id).get p = none
    have := g.hi
    rw [T.get_put, if_neg (fun e => by rw [e] at hp'; omega)]
    exact h.fresh p hp'
  · rcases hget q y hq with ⟨rfl, rfl⟩ | ⟨_, hq⟩
    · exact ⟨c, d, e, g1, g2⟩
    · exact h.blk q y hq
  · rcases hget p y hp with ⟨rfl, rfl⟩ | ⟨h1, hp'⟩ <;> rcases hget q z hq with ⟨rfl, rfl⟩ | ⟨h2, hq'⟩
    · exact absurd rfl hne
    · rw [g1] at m1; cases m1; exact absurd m2 (g3 q z _ _ hq')
    · rw [g1] at m2; cases m2; exact absurd m1 (g3 p y _ _ hp')
    · exact h.apart p q y z b d1 t1 d' t1' hp' hq' m1 m2 hne

theorem NotIn.lay {μ : Mu} {s : St} {b : Nat} {id : Pos} {x : Blk} (h : NotIn μ s b) (hb : ∀ d t, μ id ≠ some (b, d, t)) : NotIn μ (lay1 s id x) b := by
  intro q y d t hq
  have hq' : (s.heap.put (some x) id).get q = some y := hq
  rw [T.get_put] at hq'
  split at hq'
  · rename_i e; rw [e]; exact hb d t
  · exact h q y d t hq'

theorem Ext.lay {μ0 μ : Mu} {s0 s : St} {w0 w : World} {id : Pos} {x : Blk} (h : Ext μ0 s0 w0 μ s w) (g : GhostOk μ s w w0.heap.size s0.next id x) : Ext μ0 s0 w0 μ (lay1 s id x) w := by
  obtain ⟨c, d, e, g1, g2, g3, g4⟩ := g.blk
  exact { h with
    own := fun b hb hn => (h.own b hb hn).lay fun d' t' he => by rw [g1] at he; cases he; omega }

/-- All that is made ahead of the rest is laid. -/
theorem lays_ok {μ0 μ : Mu} {s0 : St} {w0 w : World} {rest : List G} : ∀ (pre : List G) {s : St}, R μ s w → Ext μ0 s0 w0 μ s w →
    (∀ id x, G.ghost id x ∈ pre ++ rest → GhostOk μ s w w0.heap.size s0.next id x) → (pre ++ rest).Pairwise (GRel μ) →
    R μ (lays s pre) w ∧ Ext μ0 s0 w0 μ (lays s pre) w ∧ (lays s pre).next = s.next ∧ ∀ id x, G.ghost id x ∈ rest → GhostOk μ (lays s pre) w w0.heap.size s0.next id x
  | [], s, hR, hE, hg, _ => ⟨hR, hE, rfl, fun id x h => hg id x h⟩
  | .real d :: pre, s, hR, hE, hg, hp => lays_ok pre hR hE (fun id x h => hg id x (List.mem_cons_of_mem _ h)) (List.pairwise_cons.1 hp).2
  | .ghost id x :: pre, s, hR, hE, hg, hp => by
    have g := hg id x (List.mem_cons_self ..)
    have hp' := List.pairwise_cons.1 hp
    have := lays_ok pre (s := lay1 s id x) (hR.lay g) (hE.lay g) (fun id' x' h => by
      have g' := hg id' x' (List.mem_cons_of_mem _ h)
      have hne := hp'.1 _ h
      obtain ⟨c, d, e, k1, k2, k3, k4⟩ := g'.blk
      exact ⟨⟨c, d, e, k1, k2, k3.lay fun d' t' he => hne _ _ _ _ _ _ he k1 rfl, k4⟩, g'.lo, g'.hi, g'.mate⟩) hp'.2
    exact this

theorem execG_done {call : CallF} {r0 : Pos} : ∀ {gs : List G} {t : Env} {s b : St} {l : List Seen}, (∀ d, G.real d ∉ gs) → execG call r0 gs t s b l = some (t, lays s gs)
  | [], _, _, _, _, _ => rfl
  | .ghost id x :: gs, t, s, b, l, h => execG_done (gs := gs) fun d hd => h d (List.mem_cons_of_mem _ hd)
  | .real d :: gs, _, _, _, _, h => absurd (List.mem_cons_self ..) (h d)

/-! ### ancestors -/
theorem testBit_maskP {W acc j : Nat} : ∀ {es : List Nat}, Nat.testBit (maskP W acc es) j = true → ∃ e ∈ es, j = e ∨ Nat.testBit acc (W * e + j) = true
  | [], h => by
    have : Nat.testBit 0 j = true := h
    simp at this
  | e :: es, h => by
    have h' : Nat.testBit ((1 <<< e ||| acc >>> (W * e)) ||| maskP W acc es) j = true := h
    rw [Nat.testBit_or, Nat.testBit_or, Bool.or_eq_true, Bool.or_eq_true] at h'
    rcases h' with (h1 | h1) | h1
    · rw [Nat.one_shiftLeft, Nat.testBit_two_pow, decide_eq_true_eq] at h1
      exact ⟨e, List.mem_cons_self .., .inl h1.symm⟩
    · rw [Nat.testBit_shiftRight] at h1
      exact ⟨e, List.mem_cons_self .., .inr h1⟩
    · obtain ⟨e', h2, h3⟩ := testBit_maskP h1
      exact ⟨e', List.mem_cons_of_mem _ h2, h3⟩
theorem frcL_eq (n : Nat) (f : Nat → List Nat) : frcL n f = f n := by cases n <;> rfl

theorem ancsP_spec {S : Nat → Prop} {all : List (List Nat)} {W : Nat} (hS : ∀ i, S i → ∀ es, all[i]? = some es → ∀ e ∈ es, S e) : ∀ (rest : List (List Nat)) (acc k : Nat),
    (∀ i, rest[i]? = all[k + i]?) →
    (∀ i j es, j < W → Nat.testBit acc (W * i + j) = true → all[i]? = some es → (∀ e ∈ es, S e) → S j) →
    (∀ i j, j < W → Nat.testBit acc (W * i + j) = true → ∃ es, all[i]? = some es) →
    ∀ i j es, rest[i]? = some es → (∀ e ∈ es, S e) → Nat.testBit ((ancsP W (2 ^ W - 1) rest acc k).getD i 0) j = true → S j
  | [], acc, k, hr, hacc, hin, i, j, es, hi, he, hb => by simp at hi
  | es0 :: rest, acc, k, hr, hacc, hin, i, j, es, hi, he, hb => by
    have hk : all[k]? = some es0 := by have := hr 0; simpa using this.symm
    have row : ∀ j, Nat.testBit (Nat.land (2 ^ W - 1) (maskP W acc es0)) j = true → j < W ∧ ∃ e ∈ es0, j = e ∨ Nat.testBit acc (W * e + j) = true := fun j h => by
      have h' : Nat.testBit ((2 ^ W - 1) &&& maskP W acc es0) j = true := h
      rw [Nat.testBit_and, Bool.and_eq_true, Nat.testBit_two_pow_sub_one, decide_eq_true_eq] at h'
      exact ⟨h'.1, testBit_maskP h'.2⟩
    have ok : ∀ j, Nat.testBit (Nat.land (2 ^ W - 1) (maskP W acc es0)) j = true → (∀ e ∈ es0, S e) → S j := fun j h hs => by
      obtain ⟨hlt, e, h1, h2⟩ := row j h
      rcases h2 with rfl | h2
      · exact hs _ h1
      · obtain ⟨es', h3⟩ := hin e j hlt h2
        exact hacc e j es' hlt h2 h3 fun e' he' => hS e (hs e h1) es' h3 e' he'
    have e1 : ancsP W (2 ^ W - 1) (es0 :: rest) acc k = Nat.land (2 ^ W - 1) (maskP W acc es0) :: ancsP W (2 ^ W - 1) rest (Nat.lor acc (Nat.shiftLeft (Nat.land (2 ^ W - 1) (maskP W acc es0)) (Nat.mul W k))) (Nat.succ k) := by
      show frcL _ _ = _
      rw [frcL_eq, frcL_eq]
    rw [e1] at hb
    have bit : ∀ i j, j < W → Nat.testBit (Nat.lor acc (Nat.shiftLeft (Nat.land (2 ^ W - 1) (maskP W acc es0)) (Nat.mul W k))) (W * i + j) = true →
        Nat.testBit acc (W * i + j) = true ∨ (i = k ∧ Nat.testBit (Nat.land (2 ^ W - 1) (maskP W acc es0)) j = true) := fun i j hj h => by
      have h' : Nat.testBit (acc ||| (Nat.land (2 ^ W - 1) (maskP W acc es0)) <<< (W * k)) (W * i + j) = true := h
      rw [Nat.testBit_or, Bool.or_eq_true] at h'
      rcases h' with h' | h'
      · exact .inl h'
      · rw [Nat.testBit_shiftLeft, Bool.and_eq_true, decide_eq_true_eq] at h'
        obtain ⟨h1, h2⟩ := h'
        obtain ⟨h3, _⟩ := row _ h2
        have hik : i = k := by
          rcases Nat.lt_trichotomy i k with h | h | h
          · have : W * (i + 1) ≤ W * k := Nat.mul_le_mul_left W h
            rw [Nat.mul_add, Nat.mul_one] at this
            omega
          · exact h
          · have : W * (k + 1) ≤ W * i := Nat.mul_le_mul_left W h
            rw [Nat.mul_add, Nat.mul_one] at this
            omega
        subst hik
        rw [Nat.add_sub_cancel_left] at h2
        exact .inr ⟨rfl, h2⟩
    cases i with
    | zero =>
      simp only [List.getElem?_cons_zero, Option.some.injEq] at hi
      subst hi
      exact ok j (by simpa using hb) he
    | succ i =>
      refine ancsP_spec hS rest _ (k + 1) (fun i => ?_) (fun i j es hj h h2 h3 => ?_) (fun i j hj h => ?_) i j es (by simpa using hi) he (by simpa using hb)
      · have := hr (i + 1)
        rw [show k + 1 + i = k + (i + 1) by omega]
        simpa using this
      · rcases bit i j hj h with q1 | ⟨q1, q2⟩
        · exact hacc i j es hj q1 h2 h3
        · rw [q1, hk] at h2; cases h2
          exact ok j q2 h3
      · rcases bit i j hj h with q1 | ⟨q1, _⟩
        · exact hin i j hj q1
        · exact ⟨es0, by rw [q1]; exact hk⟩

theorem befOf_spec {S : Nat → Prop} {ops : Array Oper} (hS : ∀ i, S i → ∀ es, (ops.toList.map edgesOf)[i]? = some es → ∀ e ∈ es, S e) (i j : Nat) (es : List Nat) (hi : (ops.toList.map edgesOf)[i]? = some es) (he : ∀ e ∈ es, S e)
    (hb : Nat.testBit ((befOf ops).getD i 0) j = true) : S j := by
  have e1 : befOf ops = ancsP ops.size (2 ^ ops.size - 1) (ops.toList.map edgesOf) 0 0 := by
    unfold befOf
    rw [show Nat.sub (Nat.shiftLeft 1 ops.size) 1 = 2 ^ ops.size - 1 by rw [show Nat.shiftLeft 1 ops.size = 2 ^ ops.size from Nat.one_shiftLeft _]; rfl]
  rw [e1] at hb
  exact ancsP_spec hS _ 0 0 (fun i => by rw [Nat.zero_add]) (fun i j es _ h => by simp at h) (fun i j _ h => by simp at h) i j es hi he hb

end Go.Abs
