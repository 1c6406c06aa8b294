/- Trees keyed by binary positions; packed strings; abstract values. Plain data, no Go program in sight. -/
import Derived.Orders
import Derived.LoopN
namespace Go.Abs

/-! ### positions: bijective binary numerals -/
inductive Pos where
  | h
  | o (p : Pos)
  | i (p : Pos)

noncomputable def Pos.toNat (p : Pos) : Nat := Pos.rec 0 (fun _ n => 2 * n + 1) (fun _ n => 2 * n + 2) p
theorem Pos.toNat_h : Pos.h.toNat = 0 := rfl
theorem Pos.toNat_o (p : Pos) : (Pos.o p).toNat = 2 * p.toNat + 1 := rfl
theorem Pos.toNat_i (p : Pos) : (Pos.i p).toNat = 2 * p.toNat + 2 := rfl

noncomputable def Pos.succ (p : Pos) : Pos := Pos.rec (.o .h) (fun q _ => .i q) (fun _ s => .o s) p
theorem Pos.succ_h : Pos.h.succ = .o .h := rfl
theorem Pos.succ_o (p : Pos) : (Pos.o p).succ = .i p := rfl
theorem Pos.succ_i (p : Pos) : (Pos.i p).succ = .o p.succ := rfl

theorem Pos.toNat_succ (p : Pos) : p.succ.toNat = p.toNat + 1 := by
  induction p with
  | h => rfl
  | o p _ => rw [succ_o, toNat_i, toNat_o]
  | i p ih => rw [succ_i, toNat_o, toNat_i, ih]; omega

theorem Pos.toNat_inj : ∀ {p q : Pos}, p.toNat = q.toNat → p = q := by
  intro p
  induction p with
  | h => intro q; cases q with
    | h => intro _; rfl
    | o q => rw [toNat_h, toNat_o]; omega
    | i q => rw [toNat_h, toNat_i]; omega
  | o p ih => intro q; cases q with
    | h => rw [toNat_h, toNat_o]; omega
    | o q => rw [toNat_o, toNat_o]; intro e; rw [ih (by omega : p.toNat = q.toNat)]
    | i q => rw [toNat_o, toNat_i]; omega
  | i p ih => intro q; cases q with
    | h => rw [toNat_h, toNat_i]; omega
    | o q => rw [toNat_o, toNat_i]; omega
    | i q => rw [toNat_i, toNat_i]; intro e; rw [ih (by omega : p.toNat = q.toNat)]

noncomputable def Pos.ofAux (f : Nat) : Nat → Pos :=
  Nat.rec (motive := fun _ => Nat → Pos) (fun _ => .h)
    (fun _ ih n => Nat.rec (motive := fun _ => Pos) .h (fun m _ => Nat.rec (motive := fun _ => Pos) (.o (ih (Nat.div m 2))) (fun _ _ => .i (ih (Nat.div m 2))) (Nat.mod m 2)) n) f
noncomputable def Pos.of (n : Nat) : Pos := Pos.ofAux n n

theorem Pos.ofAux_zero (f : Nat) : Pos.ofAux f 0 = .h := by cases f <;> rfl
theorem Pos.ofAux_succ (f m : Nat) : Pos.ofAux (f + 1) (m + 1) = if m % 2 = 0 then .o (Pos.ofAux f (m / 2)) else .i (Pos.ofAux f (m / 2)) := by
  show Nat.rec (motive := fun _ => Pos) (.o (ofAux f (m / 2))) (fun _ _ => .i (ofAux f (m / 2))) (m % 2) = _
  rcases Nat.mod_two_eq_zero_or_one m with h | h <;> rw [h] <;> rfl

theorem Pos.toNat_ofAux (f : Nat) : ∀ n, n ≤ f → (Pos.ofAux f n).toNat = n := by
  induction f with
  | zero => intro n h; obtain rfl : n = 0 := by omega
            rfl
  | succ f ih =>
    intro n h
    cases n with
    | zero => rw [ofAux_zero]; rfl
    | succ m =>
      rw [ofAux_succ]
      split
      · rw [toNat_o, ih _ (by omega)]; omega
      · rw [toNat_i, ih _ (by omega)]; omega

theorem Pos.toNat_of (n : Nat) : (Pos.of n).toNat = n := Pos.toNat_ofAux n n (Nat.le_refl _)
theorem Pos.of_inj {m n : Nat} (h : Pos.of m = Pos.of n) : m = n := by
  rw [← Pos.toNat_of m, ← Pos.toNat_of n, h]
theorem Pos.of_toNat (p : Pos) : Pos.of p.toNat = p := Pos.toNat_inj (Pos.toNat_of _)

noncomputable def Pos.beq (p : Pos) : Pos → Bool :=
  Pos.rec (motive := fun _ => Pos → Bool) (fun q => Pos.rec true (fun _ _ => false) (fun _ _ => false) q)
    (fun _ ih q => Pos.rec false (fun q _ => ih q) (fun _ _ => false) q)
    (fun _ ih q => Pos.rec false (fun _ _ => false) (fun q _ => ih q) q) p
theorem Pos.beq_eq : ∀ {p q : Pos}, p.beq q = true ↔ p = q := by
  intro p
  induction p with
  | h => intro q; cases q <;> simp [Pos.beq]
  | o p ih => intro q; cases q with
    | h => simp [Pos.beq]
    | o q => show p.beq q = true ↔ _; rw [ih]; simp
    | i q => simp [Pos.beq]
  | i p ih => intro q; cases q with
    | h => simp [Pos.beq]
    | o q => simp [Pos.beq]
    | i q => show p.beq q = true ↔ _; rw [ih]; simp
noncomputable instance : DecidableEq Pos := fun p q => if h : p.beq q = true then .isTrue (Pos.beq_eq.1 h) else .isFalse fun e => h (Pos.beq_eq.2 e)

/-! ### trees -/
inductive T (α : Type) where
  | leaf : T α
  | node (l : T α) (v : Option α) (r : T α) : T α

section
variable {α : Type}
noncomputable def T.get (t : T α) : Pos → Option α :=
  T.rec (motive := fun _ => Pos → Option α) (fun _ => none)
    (fun _ v _ gl gr p => Pos.rec (motive := fun _ => Option α) v (fun q _ => gl q) (fun q _ => gr q) p) t
theorem T.get_leaf (p : Pos) : (T.leaf : T α).get p = none := rfl
theorem T.get_h (l : T α) (v : Option α) (r : T α) : (T.node l v r).get .h = v := rfl
theorem T.get_o (l : T α) (v : Option α) (r : T α) (p : Pos) : (T.node l v r).get (.o p) = l.get p := rfl
theorem T.get_i (l : T α) (v : Option α) (r : T α) (p : Pos) : (T.node l v r).get (.i p) = r.get p := rfl

/-- One position is given a new content (none: it is struck). The path is rebuilt with its nodes written out. -/
noncomputable def T.single (v : Option α) (p : Pos) : T α :=
  Pos.rec (.node .leaf v .leaf) (fun _ t => .node t none .leaf) (fun _ t => .node .leaf none t) p
noncomputable def T.put (v : Option α) (t : T α) : Pos → T α :=
  T.rec (motive := fun _ => Pos → T α) (fun p => T.single v p)
    (fun l o r sl sr p => Pos.rec (motive := fun _ => T α) (.node l v r)
      (fun q _ => T.rec (motive := fun _ => T α) (.node .leaf o r) (fun a b c _ _ => .node (.node a b c) o r) (sl q))
      (fun q _ => T.rec (motive := fun _ => T α) (.node l o .leaf) (fun a b c _ _ => .node l o (.node a b c)) (sr q)) p) t
theorem T.put_leaf (v : Option α) (p : Pos) : (T.leaf : T α).put v p = T.single v p := rfl
theorem T.put_h (v : Option α) (l : T α) (w : Option α) (r : T α) : (T.node l w r).put v .h = .node l v r := rfl
theorem T.put_o (v : Option α) (l : T α) (w : Option α) (r : T α) (p : Pos) : (T.node l w r).put v (.o p) = .node (l.put v p) w r := by
  show T.rec (motive := fun _ => T α) (.node .leaf w r) (fun a b c _ _ => .node (.node a b c) w r) (l.put v p) = _
  cases l.put v p <;> rfl
theorem T.put_i (v : Option α) (l : T α) (w : Option α) (r : T α) (p : Pos) : (T.node l w r).put v (.i p) = .node l w (r.put v p) := by
  show T.rec (motive := fun _ => T α) (.node l w .leaf) (fun a b c _ _ => .node l w (.node a b c)) (r.put v p) = _
  cases r.put v p <;> rfl

theorem T.get_single (v : Option α) : ∀ (p q : Pos), (T.single v p).get q = if q = p then v else none := by
  intro p
  induction p with
  | h => intro q; cases q <;> simp [T.single, T.get_h, T.get_o, T.get_i, T.get_leaf]
  | o p ih => intro q; show (T.node (T.single v p) none .leaf).get q = _
              cases q <;> simp [T.get_h, T.get_o, T.get_i, T.get_leaf, ih]
  | i p ih => intro q; show (T.node .leaf none (T.single v p)).get q = _
              cases q <;> simp [T.get_h, T.get_o, T.get_i, T.get_leaf, ih]

theorem T.get_put (v : Option α) : ∀ (t : T α) (p q : Pos), (t.put v p).get q = if q = p then v else t.get q := by
  intro t
  induction t with
  | leaf => intro p q; rw [put_leaf, get_single, get_leaf]
  | node l w r ihl ihr =>
    intro p q
    cases p with
    | h => rw [put_h]; cases q <;> simp [get_h, get_o, get_i]
    | o p => rw [put_o]; cases q <;> simp [get_h, get_o, get_i, ihl]
    | i p => rw [put_i]; cases q <;> simp [get_h, get_o, get_i, ihr]

theorem T.get_put_same (v : Option α) (t : T α) (p : Pos) : (t.put v p).get p = v := by rw [get_put, if_pos rfl]
theorem T.get_put_other (v : Option α) (t : T α) {p q : Pos} (h : q ≠ p) : (t.put v p).get q = t.get q := by rw [get_put, if_neg h]

/-- A row of contents from position number i on. -/
noncomputable def T.fill (l : List α) : Nat → T α → T α :=
  List.rec (motive := fun _ => Nat → T α → T α) (fun _ t => t) (fun v _ ih i t => T.rec (motive := fun _ => T α) .leaf (fun a b c _ _ => ih (Nat.succ i) (.node a b c)) (t.put (some v) (Pos.of i))) l
theorem T.put_not_leaf (v : Option α) (t : T α) (p : Pos) : t.put v p ≠ .leaf := by
  cases t with
  | leaf => rw [put_leaf]; cases p <;> (intro h; cases h)
  | node l w r => cases p with
    | h => rw [put_h]; intro h; cases h
    | o p => rw [put_o]; intro h; cases h
    | i p => rw [put_i]; intro h; cases h
theorem T.fill_nil (i : Nat) (t : T α) : T.fill [] i t = t := rfl
theorem T.fill_cons (v : α) (l : List α) (i : Nat) (t : T α) : T.fill (v :: l) i t = T.fill l (i + 1) (t.put (some v) (Pos.of i)) := by
  show T.rec (motive := fun _ => T α) .leaf (fun a b c _ _ => T.fill l (Nat.succ i) (.node a b c)) (t.put (some v) (Pos.of i)) = _
  cases h : t.put (some v) (Pos.of i) with
  | leaf => exact absurd h (T.put_not_leaf _ _ _)
  | node a b c => rfl

theorem T.get_fill (l : List α) : ∀ (i : Nat) (t : T α) (j : Nat), (T.fill l i t).get (Pos.of j) = if i ≤ j ∧ j < i + l.length then l[j - i]? else t.get (Pos.of j) := by
  induction l with
  | nil => intro i t j; rw [fill_nil, if_neg (by simp)]
  | cons v l ih =>
    intro i t j
    rw [fill_cons, ih, T.get_put]
    by_cases h : i + 1 ≤ j ∧ j < i + 1 + l.length
    · rw [if_pos h, if_pos (by simp; omega)]
      obtain ⟨d, hd⟩ : ∃ d, j - i = d + 1 := ⟨j - i - 1, by omega⟩
      rw [hd, show j - (i + 1) = d by omega]; simp
    · rw [if_neg h]
      by_cases e : j = i
      · subst e; rw [if_pos rfl, if_pos (by simp)]; simp
      · rw [if_neg (fun h' => e (Pos.of_inj h')), if_neg (by simp; omega)]
end

/-! ### strings as numbers -/
def enc (l : List UInt8) : Nat := l.foldl (fun a b => a * 256 + b.toNat) 0
theorem enc_foldl (l : List UInt8) : ∀ a, l.foldl (fun a b => a * 256 + b.toNat) a = a * 256 ^ l.length + enc l := by
  induction l with
  | nil => intro a; simp [enc]
  | cons b l ih =>
    intro a
    have e : enc (b :: l) = (0 * 256 + b.toNat) * 256 ^ l.length + enc l := by rw [← ih]; rfl
    rw [List.foldl_cons, ih, e, List.length_cons, Nat.pow_succ]
    simp only [Nat.zero_mul, Nat.zero_add, Nat.add_mul]
    rw [Nat.add_assoc, Nat.mul_assoc, Nat.mul_comm 256]
theorem enc_nil : enc [] = 0 := rfl
theorem enc_cons (b : UInt8) (l : List UInt8) : enc (b :: l) = b.toNat * 256 ^ l.length + enc l := by
  show (b :: l).foldl (fun a b => a * 256 + b.toNat) 0 = _
  rw [List.foldl_cons, enc_foldl]; simp
theorem enc_append (a b : List UInt8) : enc (a ++ b) = enc a * 256 ^ b.length + enc b := by
  show (a ++ b).foldl (fun a b => a * 256 + b.toNat) 0 = _
  rw [List.foldl_append, enc_foldl]; rfl
theorem enc_lt (l : List UInt8) : enc l < 256 ^ l.length := by
  induction l with
  | nil => simp [enc]
  | cons b l ih =>
    rw [enc_cons, List.length_cons, Nat.pow_succ]
    have hb : b.toNat < 256 := UInt8.toNat_lt b
    have : b.toNat * 256 ^ l.length + 256 ^ l.length ≤ 256 ^ l.length * 256 := by
      rw [← Nat.succ_mul, Nat.mul_comm]; exact Nat.mul_le_mul_left _ hb
    omega
theorem enc_inj : ∀ {a b : List UInt8}, a.length = b.length → enc a = enc b → a = b := by
  intro a
  induction a with
  | nil => intro b h _; cases b with
    | nil => rfl
    | cons _ _ => simp at h
  | cons x a ih =>
    intro b h e
    cases b with
    | nil => simp at h
    | cons y b =>
      have hl : a.length = b.length := by simpa using h
      rw [enc_cons, enc_cons, hl] at e
      have ha : enc a < 256 ^ b.length := hl ▸ enc_lt a
      have hb := enc_lt b
      have hd : x.toNat = y.toNat := by
        have : (x.toNat * 256 ^ b.length + enc a) / 256 ^ b.length = (y.toNat * 256 ^ b.length + enc b) / 256 ^ b.length := by rw [e]
        rw [Nat.mul_comm, Nat.mul_add_div (Nat.pow_pos (by decide)), Nat.div_eq_of_lt ha, Nat.mul_comm, Nat.mul_add_div (Nat.pow_pos (by decide)), Nat.div_eq_of_lt hb] at this
        simpa using this
      have hm : enc a = enc b := by rw [hd] at e; omega
      rw [UInt8.toNat_inj.1 hd, ih hl hm]
theorem enc_take (l : List UInt8) (k : Nat) : enc (l.take k) = enc l / 256 ^ (l.length - k) := by
  have e := enc_append (l.take k) (l.drop k)
  rw [List.take_append_drop, List.length_drop] at e
  rw [e, Nat.mul_comm, Nat.mul_add_div (Nat.pow_pos (by decide)), Nat.div_eq_of_lt]
  · simp
  · have := enc_lt (l.drop k); rwa [List.length_drop] at this
theorem enc_drop (l : List UInt8) (k : Nat) : enc (l.drop k) = enc l % 256 ^ (l.length - k) := by
  have e := enc_append (l.take k) (l.drop k)
  rw [List.take_append_drop, List.length_drop] at e
  have := enc_lt (l.drop k)
  rw [List.length_drop] at this
  rw [e, Nat.mul_comm, Nat.mul_add_mod, Nat.mod_eq_of_lt this]
theorem enc_sub (l : List UInt8) (i j : Nat) (hj : j ≤ l.length) : enc ((l.take j).drop i) = enc l / 256 ^ (l.length - j) % 256 ^ (j - i) := by
  rw [enc_drop, enc_take l j, List.length_take, Nat.min_eq_left hj]
theorem enc_get (l : List UInt8) (i : Nat) (h : i < l.length) : (l[i]).toNat = enc l / 256 ^ (l.length - 1 - i) % 256 := by
  have e := enc_sub l i (i + 1) (by omega)
  have hx : (l.take (i + 1)).drop i = [l[i]] := by
    rw [List.drop_take, List.drop_eq_getElem_cons h, show i + 1 - i = 1 by omega]; rfl
  rw [hx, enc_cons, enc_nil] at e
  simp only [List.length_nil, Nat.pow_zero, Nat.mul_one, Nat.add_zero] at e
  rw [e, show i + 1 - i = 1 by omega, Nat.pow_one, show l.length - (i + 1) = l.length - 1 - i by omega]

end Go.Abs
