/- Abstract values, abstract memory, and how they stand to the model's worlds. -/
import Derived.Test.YtnhebanimmicaaaGreatDoorAb1
import Derived.Laws.Append
import Derived.Laws.World
namespace Go.Abs

inductive AV where
  | bool (b : Bool)
  | int (k : IntKind) (n : Int)
  | str (len bits : Nat)
  | ptr (b : Pos) (o : Nat)
  | nilptr
  | slice (b : Pos) (o len : Nat) (cap : Option Nat) (es : Nat)
  | nilslice
  | map (b : Pos)
  | nilmap
  | fn (f : Nat) (caps : List AV)
  | nilfn
  | iface (t : Nat) (v : AV)
  | niliface
  | agg (l : List AV)
  | tup (l : List AV)
  /-- an i64 whose bits under m leave j by md -/
  | sym (m md j : Int)
  /-- an i64 that leaves j by md -/
  | symR (md j : Int)

/-- Rows that may share memory are of one family; one of them at most is its tip: no other one reaches farther. -/
structure Lk where
  f : Pos
  tip : Bool
/-- A block of memory: cells (how many are known; its family, if it isn't alone), or a map. -/
inductive Blk where
  | cells (c : T AV) (n : Nat) (mate : Option Lk)
  | map (es : List (AV × AV × Nat)) (clock : Nat)
  /-- a range over a map: the map, its clock at the begin, what has come, its clock at the last step -/
  | iter (m : Option Pos) (since : Nat) (seen : List Nat) (clk : Nat)

structure St where
  heap : T Blk
  next : Pos

/-- Where a block lies: the model's block, from which cell on, and how many cells that block has in all. -/
abbrev Mu := Pos → Option (Nat × Nat × Nat)

def andI (a b : Int) : Int := IntKind.i64.wrap ((BitVec.ofInt 64 a) &&& (BitVec.ofInt 64 b)).toNat

mutual
inductive VRel (μ : Mu) : AV → Value → Prop
  | bool (b : Bool) : VRel μ (.bool b) (.bool b)
  | int (k : IntKind) (n : Int) : VRel μ (.int k n) (.int k n)
  | str (s : ByteArray) (len bits : Nat) (hl : s.size = len) (hb : enc s.data.toList = bits) : VRel μ (.str len bits) (.string s)
  | ptr (b : Pos) (o c d e : Nat) (hm : μ b = some (c, d, e)) : VRel μ (.ptr b o) (.pointer (some ⟨c, d + o, none⟩))
  | nilptr : VRel μ .nilptr (.pointer none)
  | slice (b : Pos) (o len : Nat) (cap : Option Nat) (es c d e cap' : Nat) (hm : μ b = some (c, d, e)) (hc : ∀ k, cap = some k → cap' = k) (hl : len ≤ cap')
      (ht : d + o + cap' * es ≤ e) : VRel μ (.slice b o len cap es) (.slice (some ⟨c, d + o, none⟩) len cap')
  | sliceE (b : Pos) (o : Nat) (cap : Option Nat) (es c x : Nat) (hc : ∀ k, cap = some k → k = 0) : VRel μ (.slice b o 0 cap es) (.slice (some ⟨c, x, none⟩) 0 0)
  | nilslice : VRel μ .nilslice (.slice none 0 0)
  | map (b : Pos) (c d e : Nat) (hm : μ b = some (c, d, e)) : VRel μ (.map b) (.map (some c))
  | nilmap : VRel μ .nilmap (.map none)
  | fn (f : Nat) (caps : List AV) (vs : Array Value) (h : VRels μ caps vs.toList) : VRel μ (.fn f caps) (.func (.func f) #[] vs)
  | nilfn : VRel μ .nilfn .nilFunc
  | iface (t : Nat) (v : AV) (v' : Value) (h : VRel μ v v') : VRel μ (.iface t v) (.iface t v')
  | niliface : VRel μ .niliface .nilIface
  | agg (l : List AV) (vs : Array Value) (h : VRels μ l vs.toList) (ho : ∀ v ∈ vs.toList, v.oneCell' = true) : VRel μ (.agg l) (.agg vs)
  | tup (l : List AV) (vs : Array Value) (h : VRels μ l vs.toList) : VRel μ (.tup l) (.tuple vs)
  | sym (m md j n : Int) (h : (andI n m).tmod md = j) : VRel μ (.sym m md j) (.int .i64 n)
  | symR (md j n : Int) (h : n.tmod md = j) : VRel μ (.symR md j) (.int .i64 n)
inductive VRels (μ : Mu) : List AV → List Value → Prop
  | nil : VRels μ [] []
  | cons {v : AV} {v' : Value} {l : List AV} {l' : List Value} (h : VRel μ v v') (t : VRels μ l l') : VRels μ (v :: l) (v' :: l')
end

def Mu.le (μ μ' : Mu) : Prop := ∀ p x, μ p = some x → μ' p = some x
theorem Mu.le_refl (μ : Mu) : μ.le μ := fun _ _ h => h
theorem Mu.le.trans {a b c : Mu} (h : a.le b) (k : b.le c) : a.le c := fun p x e => k p x (h p x e)

mutual
theorem VRel.mono {μ μ' : Mu} (h : μ.le μ') : ∀ {v : AV} {v' : Value}, VRel μ v v' → VRel μ' v v'
  | _, _, .bool b => .bool b
  | _, _, .int k n => .int k n
  | _, _, .str s a b hl hb => .str s a b hl hb
  | _, _, .ptr b o c d e hm => .ptr b o c d e (h _ _ hm)
  | _, _, .nilptr => .nilptr
  | _, _, .slice b o len cap es c d e cap' hm hc hl ht => .slice b o len cap es c d e cap' (h _ _ hm) hc hl ht
  | _, _, .sliceE b o cap es c x hc => .sliceE b o cap es c x hc
  | _, _, .nilslice => .nilslice
  | _, _, .map b c d e hm => .map b c d e (h _ _ hm)
  | _, _, .nilmap => .nilmap
  | _, _, .fn f caps vs k => .fn f caps vs (VRels.mono h k)
  | _, _, .nilfn => .nilfn
  | _, _, .iface t v v' k => .iface t v v' (VRel.mono h k)
  | _, _, .niliface => .niliface
  | _, _, .agg l vs k ho => .agg l vs (VRels.mono h k) ho
  | _, _, .tup l vs k => .tup l vs (VRels.mono h k)
  | _, _, .sym m md j n k => .sym m md j n k
  | _, _, .symR md j n k => .symR md j n k
theorem VRels.mono {μ μ' : Mu} (h : μ.le μ') : ∀ {v : List AV} {v' : List Value}, VRels μ v v' → VRels μ' v v'
  | _, _, .nil => .nil
  | _, _, .cons a b => .cons (VRel.mono h a) (VRels.mono h b)
end

theorem VRels.length {μ : Mu} : ∀ {l : List AV} {l' : List Value}, VRels μ l l' → l.length = l'.length
  | _, _, .nil => rfl
  | _, _, .cons _ t => by simp [t.length]
theorem VRels.get {μ : Mu} : ∀ {l : List AV} {l' : List Value}, VRels μ l l' → ∀ (i : Nat) v, l[i]? = some v → ∃ v', l'[i]? = some v' ∧ VRel μ v v'
  | _, _, .nil, i, v, h => by simp at h
  | _, _, .cons a t, 0, v, h => by simp at h; subst h; exact ⟨_, rfl, a⟩
  | _, _, .cons a t, i + 1, v, h => by simp at h; obtain ⟨v', e, r⟩ := t.get i v h; exact ⟨v', by simpa using e, r⟩
theorem VRels.append {μ : Mu} : ∀ {a : List AV} {a' : List Value} {b : List AV} {b' : List Value}, VRels μ a a' → VRels μ b b' → VRels μ (a ++ b) (a' ++ b')
  | _, _, _, _, .nil, k => k
  | _, _, _, _, .cons x t, k => .cons x (t.append k)
theorem VRels.take {μ : Mu} : ∀ {a : List AV} {a' : List Value}, VRels μ a a' → ∀ n, VRels μ (a.take n) (a'.take n)
  | _, _, .nil, n => by simp; exact .nil
  | _, _, .cons _ _, 0 => .nil
  | _, _, .cons x t, n + 1 => .cons x (t.take n)
theorem VRels.drop {μ : Mu} : ∀ {a : List AV} {a' : List Value}, VRels μ a a' → ∀ n, VRels μ (a.drop n) (a'.drop n)
  | _, _, .nil, n => by simp; exact .nil
  | _, _, .cons x t, 0 => .cons x t
  | _, _, .cons _ t, n + 1 => t.drop n

/-- A value's cells. -/
def AV.cells : AV → List AV
  | .agg l => l
  | v => [v]
/-- Has a value cells at all? -/
def AV.solid : AV → Bool
  | .tup _ => false
  | _ => true

theorem VRel.cells {μ : Mu} {v : AV} {v' : Value} (h : VRel μ v v') (hs : v.solid = true) : VRels μ v.cells v'.cells.toList ∧ ∀ x ∈ v'.cells.toList, x.oneCell' = true := by
  cases h with
  | agg l vs h ho => exact ⟨h, ho⟩
  | tup l vs h => simp [AV.solid] at hs
  | bool b => exact ⟨.cons (.bool b) .nil, by simp [Value.cells, Value.oneCell']⟩
  | int k n => exact ⟨.cons (.int k n) .nil, by simp [Value.cells, Value.oneCell']⟩
  | str s a b hl hb => exact ⟨.cons (.str s a b hl hb) .nil, by simp [Value.cells, Value.oneCell']⟩
  | ptr b o c d e hm => exact ⟨.cons (.ptr b o c d e hm) .nil, by simp [Value.cells, Value.oneCell']⟩
  | nilptr => exact ⟨.cons .nilptr .nil, by simp [Value.cells, Value.oneCell']⟩
  | slice b o len cap es c d e cap' hm hc hl ht => exact ⟨.cons (.slice b o len cap es c d e cap' hm hc hl ht) .nil, by simp [Value.cells, Value.oneCell']⟩
  | sliceE b o cap es c x hc => exact ⟨.cons (.sliceE b o cap es c x hc) .nil, by simp [Value.cells, Value.oneCell']⟩
  | nilslice => exact ⟨.cons .nilslice .nil, by simp [Value.cells, Value.oneCell']⟩
  | map b c d e hm => exact ⟨.cons (.map b c d e hm) .nil, by simp [Value.cells, Value.oneCell']⟩
  | nilmap => exact ⟨.cons .nilmap .nil, by simp [Value.cells, Value.oneCell']⟩
  | fn f caps vs k => exact ⟨.cons (.fn f caps vs k) .nil, by simp [Value.cells, Value.oneCell']⟩
  | nilfn => exact ⟨.cons .nilfn .nil, by simp [Value.cells, Value.oneCell']⟩
  | iface t v v' k => exact ⟨.cons (.iface t v v' k) .nil, by simp [Value.cells, Value.oneCell']⟩
  | niliface => exact ⟨.cons .niliface .nil, by simp [Value.cells, Value.oneCell']⟩
  | sym m md j n k => exact ⟨.cons (.sym m md j n k) .nil, by simp [Value.cells, Value.oneCell']⟩
  | symR md j n k => exact ⟨.cons (.symR md j n k) .nil, by simp [Value.cells, Value.oneCell']⟩

/-! ### memory -/
inductive ERels (μ : Mu) : List (AV × AV × Nat) → List MapEntry → Prop
  | nil : ERels μ [] []
  | cons {k v : AV} {n : Nat} {e : MapEntry} {l : List (AV × AV × Nat)} {l' : List MapEntry} (hk : VRel μ k e.key) (hv : VRel μ v e.val) (hn : n = e.born) (t : ERels μ l l') :
      ERels μ ((k, v, n) :: l) (e :: l')
theorem ERels.mono {μ μ' : Mu} (h : μ.le μ') : ∀ {a : List (AV × AV × Nat)} {b : List MapEntry}, ERels μ a b → ERels μ' a b
  | _, _, .nil => .nil
  | _, _, .cons hk hv hn t => .cons (hk.mono h) (hv.mono h) hn (t.mono h)

def BRel (μ : Mu) (w : World) : Blk → Nat × Nat × Nat → Prop
  | .cells c n _, (b, d, t) => d + n ≤ t ∧ ∃ cs e, w.heap[b]? = some (.cells cs e (0, 0)) ∧ cs.size = t ∧
      ∀ i v, c.get (Pos.of i) = some v → i < n ∧ ∃ v', cs[d + i]? = some v' ∧ VRel μ v v' ∧ v'.oneCell' = true
  | .map es clock, (b, _, _) => ∃ ces, w.heap[b]? = some (.map ces clock) ∧ ERels μ es ces.toList
  | .iter m since seen clk, (b, d, _) => d = 0 ∧ ∃ mm, w.heap[b]? = some (.mapIter mm since seen.toArray clk) ∧ (m = none → mm = none) ∧ ∀ p, m = some p → ∃ c d t, μ p = some (c, d, t) ∧ mm = some c

theorem BRel.mono {μ μ' : Mu} (h : μ.le μ') {w w' : World} {x : Blk} {b d t : Nat} (hw : w'.heap[b]? = w.heap[b]?) (k : BRel μ w x (b, d, t)) : BRel μ' w' x (b, d, t) := by
  cases x with
  | cells c n m =>
    obtain ⟨h1, cs, e, h2, h3, h4⟩ := k
    exact ⟨h1, cs, e, hw.trans h2, h3, fun i v hv => let ⟨a, v', x, y, z⟩ := h4 i v hv; ⟨a, v', x, y.mono h, z⟩⟩
  | map es clock =>
    obtain ⟨ces, h1, h2⟩ := k
    exact ⟨ces, hw.trans h1, h2.mono h⟩
  | iter m since seen clk =>
    obtain ⟨h0, mm, h1, h2, h3⟩ := k
    exact ⟨h0, mm, hw.trans h1, h2, fun p hp => by
      obtain ⟨c, d', t', e1, e2⟩ := h3 p hp
      exact ⟨c, d', t', h _ _ e1, e2⟩⟩

theorem BRel.lt {μ : Mu} {w : World} {x : Blk} {b d t : Nat} (k : BRel μ w x (b, d, t)) : b < w.heap.size := by
  have : ∃ o, w.heap[b]? = some o := by
    cases x with
    | cells c n m => obtain ⟨_, cs, e, h, _⟩ := k; exact ⟨_, h⟩
    | map es clock => obtain ⟨ces, h, _⟩ := k; exact ⟨_, h⟩
    | iter m since seen clk => obtain ⟨_, mm, h, _⟩ := k; exact ⟨_, h⟩
  obtain ⟨o, h⟩ := this
  rcases Nat.lt_or_ge b w.heap.size with h' | h'
  · exact h'
  · simp [Array.getElem?_eq_none h'] at h

def Blk.len : Blk → Nat
  | .cells _ n _ => n
  | _ => 0
def Blk.mateOf : Blk → Option Lk
  | .cells _ _ m => m
  | .map _ _ => none
  | .iter _ _ _ _ => none

/-- How two rows in one block of the model's stand to each other. -/
def Apart (x y : Blk) (d d' : Nat) : Prop :=
  ∃ f, (x.mateOf = some ⟨f, true⟩ ∧ y.mateOf = some ⟨f, false⟩ ∧ d' + y.len ≤ d + x.len) ∨ (x.mateOf = some ⟨f, false⟩ ∧ y.mateOf = some ⟨f, true⟩ ∧ d + x.len ≤ d' + y.len) ∨
    (x.mateOf = some ⟨f, false⟩ ∧ y.mateOf = some ⟨f, false⟩)
theorem Apart.symm {x y : Blk} {d d' : Nat} (h : Apart x y d d') : Apart y x d' d := by
  obtain ⟨f, ⟨a, b, c⟩ | ⟨a, b, c⟩ | ⟨a, b⟩⟩ := h
  · exact ⟨f, .inr (.inl ⟨b, a, c⟩)⟩
  · exact ⟨f, .inl ⟨b, a, c⟩⟩
  · exact ⟨f, .inr (.inr ⟨b, a⟩)⟩
theorem Apart.fam {x y : Blk} {d d' : Nat} (h : Apart x y d d') : ∃ f i j, x.mateOf = some ⟨f, i⟩ ∧ y.mateOf = some ⟨f, j⟩ := by
  obtain ⟨f, ⟨a, b, _⟩ | ⟨a, b, _⟩ | ⟨a, b⟩⟩ := h
  · exact ⟨f, _, _, a, b⟩
  · exact ⟨f, _, _, a, b⟩
  · exact ⟨f, _, _, a, b⟩

structure R (μ : Mu) (s : St) (w : World) : Prop where
  fresh : ∀ p, s.next.toNat ≤ p.toNat → s.heap.get p = none
  blk : ∀ p x, s.heap.get p = some x → ∃ b d t, μ p = some (b, d, t) ∧ BRel μ w x (b, d, t)
  apart : ∀ p q x y b d t d' t', s.heap.get p = some x → s.heap.get q = some y → μ p = some (b, d, t) → μ q = some (b, d', t') → p ≠ q → Apart x y d d'

/-- No block that is there lies in the model's block b. -/
def NotIn (μ : Mu) (s : St) (b : Nat) : Prop := ∀ p x d t, s.heap.get p = some x → μ p ≠ some (b, d, t)

structure Ext (μ : Mu) (s : St) (w : World) (μ' : Mu) (s' : St) (w' : World) : Prop where
  le : μ.le μ'
  mu : ∀ p, (p.toNat < s.next.toNat ∨ s'.next.toNat ≤ p.toNat) → μ' p = μ p
  next : s.next.toNat ≤ s'.next.toNat
  size : w.heap.size ≤ w'.heap.size
  os : w'.os = w.os
  tape : w'.tape = w.tape
  output : w'.output = w.output
  keep : ∀ b, b < w.heap.size → NotIn μ s b → w'.heap[b]? = w.heap[b]?
  own : ∀ b, b < w.heap.size → NotIn μ s b → NotIn μ' s' b

theorem Ext.refl (μ : Mu) (s : St) (w : World) : Ext μ s w μ s w :=
  ⟨μ.le_refl, fun _ _ => rfl, Nat.le_refl _, Nat.le_refl _, rfl, rfl, rfl, fun _ _ _ => rfl, fun _ _ h => h⟩

theorem Ext.trans {μ μ' μ'' : Mu} {s s' s'' : St} {w w' w'' : World} (h : Ext μ s w μ' s' w') (k : Ext μ' s' w' μ'' s'' w'') : Ext μ s w μ'' s'' w'' where
  le := h.le.trans k.le
  mu p hp := by
    have h1 := h.next
    have h2 := k.next
    rw [k.mu p (by omega), h.mu p (by omega)]
  next := Nat.le_trans h.next k.next
  size := Nat.le_trans h.size k.size
  os := k.os.trans h.os
  tape := k.tape.trans h.tape
  output := k.output.trans h.output
  keep b hb hn := (k.keep b (Nat.lt_of_lt_of_le hb h.size) (h.own b hb hn)).trans (h.keep b hb hn)
  own b hb hn := k.own b (Nat.lt_of_lt_of_le hb h.size) (h.own b hb hn)

/-- No place is taken for what is to come. -/
def Free (μ : Mu) (m n : Pos) : Prop := ∀ p, m.toNat ≤ p.toNat → p.toNat < n.toNat → μ p = none

theorem Free.left {μ : Mu} {m n k : Pos} (h : Free μ m k) (hn : n.toNat ≤ k.toNat) : Free μ m n := fun p a b => h p a (Nat.lt_of_lt_of_le b hn)
theorem Free.right {μ μ' : Mu} {s s' : St} {w w' : World} {k : Pos} (h : Free μ s.next k) (e : Ext μ s w μ' s' w') : Free μ' s'.next k := fun p a b => by
  rw [e.mu p (.inr a)]; exact h p (Nat.le_trans e.next a) b

/-! ### steps of memory -/
theorem R.drew {μ : Mu} {s : St} {w : World} (h : R μ s w) : R μ s w.drew :=
  ⟨h.fresh, fun p x hp => let ⟨b, d, t, hm, hb⟩ := h.blk p x hp; ⟨b, d, t, hm, hb.mono μ.le_refl rfl⟩, h.apart⟩
theorem Ext.drew (μ : Mu) (s : St) (w : World) : Ext μ s w μ s w.drew :=
  ⟨μ.le_refl, fun _ _ => rfl, Nat.le_refl _, Nat.le_refl _, rfl, rfl, rfl, fun _ _ _ => rfl, fun _ _ h => h⟩

/-- A block is struck. -/
noncomputable def St.del (s : St) (p : Pos) : St := { s with heap := s.heap.put none p }
theorem R.del {μ : Mu} {s : St} {w : World} (h : R μ s w) (p : Pos) : R μ (s.del p) w where
  fresh q hq := by
    show (s.heap.put none p).get q = none
    rw [T.get_put]; split
    · rfl
    · exact h.fresh q hq
  blk q x hx := by
    have hx' : (s.heap.put none p).get q = some x := hx
    rw [T.get_put] at hx'
    split at hx'
    · cases hx'
    · exact h.blk q x hx'
  apart q r x y b d t d' t' hx hy := by
    have hx' : (s.heap.put none p).get q = some x := hx
    have hy' : (s.heap.put none p).get r = some y := hy
    rw [T.get_put] at hx' hy'
    split at hx'
    · cases hx'
    · split at hy'
      · cases hy'
      · exact h.apart q r x y b d t d' t' hx' hy'
theorem St.get_del {s : St} {p q : Pos} {x : Blk} (h : (s.del p).heap.get q = some x) : q ≠ p ∧ s.heap.get q = some x := by
  have h' : (s.heap.put none p).get q = some x := h
  rw [T.get_put] at h'
  split at h'
  · cases h'
  · exact ⟨‹_›, h'⟩
theorem Ext.del (μ : Mu) (s : St) (w : World) (p : Pos) : Ext μ s w μ (s.del p) w :=
  ⟨μ.le_refl, fun _ _ => rfl, Nat.le_refl _, Nat.le_refl _, rfl, rfl, rfl, fun _ _ _ => rfl, fun _ _ h q x d t hx => h q x d t (St.get_del hx).2⟩
/-- A family is struck. -/
noncomputable def keepB (f : Pos) (v : Option Blk) : Option Blk := match v with
  | none => none
  | some x => match x.mateOf with
    | none => some x
    | some l => match l.f.beq f with
      | true => none
      | false => some x
noncomputable def T.wipe (f : Pos) (t : T Blk) : T Blk := T.rec (motive := fun _ => T Blk) .leaf (fun _ v _ l r => .node l (keepB f v) r) t
theorem T.get_wipe (f : Pos) : ∀ (t : T Blk) (p : Pos), (T.wipe f t).get p = keepB f (t.get p)
  | .leaf, p => by rw [T.get_leaf]; rfl
  | .node l v r, p => by
    show (T.node (T.wipe f l) (keepB f v) (T.wipe f r)).get p = _
    cases p with
    | h => rfl
    | o p => exact T.get_wipe f l p
    | i p => exact T.get_wipe f r p
noncomputable def St.kill (s : St) (m : Option Lk) : St := match m with
  | none => s
  | some l => ⟨T.wipe l.f s.heap, s.next⟩
theorem keepB_some {f : Pos} {v : Option Blk} {x : Blk} (h : keepB f v = some x) : v = some x ∧ ∀ l, x.mateOf = some l → l.f ≠ f := by
  unfold keepB at h
  split at h
  · cases h
  rename_i y
  split at h
  · rename_i hm; cases h; exact ⟨rfl, (fun l hl => by rw [hm] at hl; cases hl)⟩
  · rename_i l hm
    split at h
    · cases h
    · rename_i hb
      cases h
      exact ⟨rfl, fun l' hl e => by rw [hm] at hl; cases hl; rw [← e, Pos.beq_eq.2 rfl] at hb; cases hb⟩
/-- What is struck is not of these. -/
def Alive (m : Option Lk) (x : Blk) : Prop := ∀ k, m = some k → ∀ l, x.mateOf = some l → l.f ≠ k.f
theorem St.get_kill {s : St} {m : Option Lk} {q : Pos} {x : Blk} (h : (s.kill m).heap.get q = some x) : Alive m x ∧ s.heap.get q = some x := by
  cases m with
  | none => exact ⟨(fun k hk => by cases hk), h⟩
  | some l =>
    have h' : (T.wipe l.f s.heap).get q = some x := h
    rw [T.get_wipe] at h'
    obtain ⟨h1, h2⟩ := keepB_some h'
    exact ⟨(fun k hk => by cases hk; exact h2), h1⟩
theorem St.next_kill (s : St) (m : Option Lk) : (s.kill m).next = s.next := by cases m <;> rfl
theorem R.kill {μ : Mu} {s : St} {w : World} (h : R μ s w) (m : Option Lk) : R μ (s.kill m) w where
  fresh q hq := by
    cases hg : (s.kill m).heap.get q with
    | none => rfl
    | some x => have := (St.get_kill hg).2; rw [h.fresh q (by rw [← St.next_kill s m]; exact hq)] at this; cases this
  blk q x hx := h.blk q x (St.get_kill hx).2
  apart q r x y b d t d' t' hx hy := h.apart q r x y b d t d' t' (St.get_kill hx).2 (St.get_kill hy).2
theorem Ext.kill (μ : Mu) (s : St) (w : World) (m : Option Lk) : Ext μ s w μ (s.kill m) w :=
  ⟨μ.le_refl, fun _ _ => rfl, by rw [St.next_kill]; exact Nat.le_refl _, Nat.le_refl _, rfl, rfl, rfl, fun _ _ _ => rfl, fun _ _ h q x d t hx => h q x d t (St.get_kill hx).2⟩

/-- A new block. -/
noncomputable def St.new (s : St) (x : Blk) : St := ⟨s.heap.put (some x) s.next, s.next.succ⟩

noncomputable def Mu.set (μ : Mu) (p : Pos) (x : Nat × Nat × Nat) : Mu := fun q => if q = p then some x else μ q
theorem Mu.set_same (μ : Mu) (p : Pos) (x : Nat × Nat × Nat) : μ.set p x p = some x := if_pos rfl
theorem Mu.set_other (μ : Mu) {p q : Pos} (x : Nat × Nat × Nat) (h : q ≠ p) : μ.set p x q = μ q := if_neg h
theorem Mu.le_set {μ : Mu} {p : Pos} (h : μ p = none) (x : Nat × Nat × Nat) : μ.le (μ.set p x) := fun q y hq => by
  have : q ≠ p := fun e => by rw [e, h] at hq; cases hq
  rw [Mu.set_other _ _ this]; exact hq

theorem heap_alloc_old (w : World) (o : Obj) {b : Nat} (h : b < w.heap.size) : (w.alloc o).heap[b]? = w.heap[b]? := by
  show (w.heap.push o)[b]? = _
  rw [Array.getElem?_push, if_neg (by omega)]
theorem heap_alloc_new (w : World) (o : Obj) : (w.alloc o).heap[w.heap.size]? = some o := by
  show (w.heap.push o)[w.heap.size]? = _
  simp

theorem new_ok {μ : Mu} {s : St} {w : World} (h : R μ s w) {x : Blk} {o : Obj} {t : Nat} (hf : μ s.next = none)
    (hx : ∀ μ', μ.le μ' → μ' s.next = some (w.heap.size, 0, t) → BRel μ' (w.alloc o) x (w.heap.size, 0, t)) :
    R (μ.set s.next (w.heap.size, 0, t)) (s.new x) (w.alloc o) ∧ Ext μ s w (μ.set s.next (w.heap.size, 0, t)) (s.new x) (w.alloc o) := by
  have hle := Mu.le_set hf (w.heap.size, 0, t)
  have hget : ∀ q y, (s.new x).heap.get q = some y → (q = s.next ∧ y = x) ∨ (q ≠ s.next ∧ s.heap.get q = some y) := by
    intro q y hq
    have hq' : (s.heap.put (some x) s.next).get q = some y := hq
    rw [T.get_put] at hq'
    split at hq'
    · exact .inl ⟨‹_›, by cases hq'; rfl⟩
    · exact .inr ⟨‹_›, hq'⟩
  have hnx : (s.new x).next.toNat = s.next.toNat + 1 := Pos.toNat_succ _
  constructor
  · constructor
    · intro p hp
      show (s.heap.put (some x) s.next).get p = none
      rw [hnx] at hp
      rw [T.get_put, if_neg (fun e => by rw [e] at hp; omega)]
      exact h.fresh p (by omega)
    · intro q y hq
      rcases hget q y hq with ⟨rfl, rfl⟩ | ⟨hne, hq⟩
      · exact ⟨_, _, _, Mu.set_same _ _ _, hx _ hle (Mu.set_same _ _ _)⟩
      · obtain ⟨b, d, t', e1, e2⟩ := h.blk q y hq
        exact ⟨b, d, t', hle _ _ e1, e2.mono hle (heap_alloc_old _ _ e2.lt)⟩
    · intro p q y z b d t1 d' t1' hp hq m1 m2 hne
      rcases hget p y hp with ⟨rfl, rfl⟩ | ⟨h1, hp'⟩ <;> rcases hget q z hq with ⟨rfl, rfl⟩ | ⟨h2, hq'⟩
      · exact absurd rfl hne
      · rw [Mu.set_same] at m1
        rw [Mu.set_other _ _ h2] at m2
        obtain ⟨b', d2, t2, e1, e2⟩ := h.blk q z hq'
        rw [e1] at m2
        simp only [Option.some.injEq, Prod.mk.injEq] at m1 m2
        have := e2.lt
        omega
      · rw [Mu.set_same] at m2
        rw [Mu.set_other _ _ h1] at m1
        obtain ⟨b', d2, t2, e1, e2⟩ := h.blk p y hp'
        rw [e1] at m1
        simp only [Option.some.injEq, Prod.mk.injEq] at m1 m2
        have := e2.lt
        omega
      · rw [Mu.set_other _ _ h1] at m1
        rw [Mu.set_other _ _ h2] at m2
        exact h.apart p q y z b d t1 d' t1' hp' hq' m1 m2 hne
  · exact {
      le := hle
      mu := fun p hp => Mu.set_other _ _ (fun e => by rw [e, hnx] at hp; omega)
      next := by omega
      size := by simp
      os := rfl
      tape := rfl
      output := rfl
      keep := fun b hb _ => heap_alloc_old _ _ hb
      own := fun b hb hn q y d t' hq => by
        rcases hget q y hq with ⟨rfl, rfl⟩ | ⟨h1, hq⟩
        · rw [Mu.set_same]; intro e; simp only [Option.some.injEq, Prod.mk.injEq] at e; omega
        · rw [Mu.set_other _ _ h1]; exact hn q y d t' hq }

end Go.Abs
