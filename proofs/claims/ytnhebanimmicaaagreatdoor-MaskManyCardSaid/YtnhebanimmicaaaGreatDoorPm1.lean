/- Values that bear what they lead to; memory without rows to look into; how both stand to the abstract machine's. -/
import Derived.Test.YtnhebanimmicaaaGreatDoorAb24
namespace Go.Abs

/-- A value. A row (a slice) bears its cells; so does a place in a row (from there on). -/
inductive V where
  | bool (b : Bool)
  | int (k : IntKind) (n : Int)
  | str (s : List UInt8)
  | ptr (a o : Nat)
  | nilptr
  | eptr (a o : Nat) (xs : List V)
  | row (a o len : Nat) (cap : Option Nat) (es : Nat) (xs : List V)
  | nilrow
  | map (a : Nat)
  | nilmap
  | fn (f : Nat) (caps : List V)
  | nilfn
  | iface (t : Nat) (v : V)
  | niliface
  | agg (l : List V)
  | tup (l : List V)

mutual
noncomputable def V.er : V → AV
  | .bool b => .bool b
  | .int k n => .int k n
  | .str s => .str s.length (enc s)
  | .ptr a o => .ptr (Pos.of a) o
  | .nilptr => .nilptr
  | .eptr a o _ => .ptr (Pos.of a) o
  | .row a o len cap es _ => .slice (Pos.of a) o len cap es
  | .nilrow => .nilslice
  | .map a => .map (Pos.of a)
  | .nilmap => .nilmap
  | .fn f caps => .fn f (V.ers caps)
  | .nilfn => .nilfn
  | .iface t v => .iface t v.er
  | .niliface => .niliface
  | .agg l => .agg (V.ers l)
  | .tup l => .tup (V.ers l)
noncomputable def V.ers : List V → List AV
  | [] => []
  | v :: l => v.er :: V.ers l
end
theorem V.ers_eq : ∀ l : List V, V.ers l = l.map V.er
  | [] => rfl
  | v :: l => by rw [V.ers, V.ers_eq l]; rfl

/-- What a value says of rows: where, from which cell on, which cells. -/
structure Rw where
  a : Nat
  o : Nat
  xs : List V
mutual
def V.rows : V → List Rw
  | .eptr a o xs => [⟨a, o, xs⟩]
  | .row a o _ _ _ xs => [⟨a, o, xs⟩]
  | .fn _ caps => V.rowss caps
  | .iface _ v => v.rows
  | .agg l => V.rowss l
  | .tup l => V.rowss l
  | _ => []
def V.rowss : List V → List Rw
  | [] => []
  | v :: l => v.rows ++ V.rowss l
end
theorem V.rowss_eq : ∀ l : List V, V.rowss l = l.flatMap V.rows
  | [] => rfl
  | v :: l => by rw [V.rowss, V.rowss_eq l]; rfl

/-- Blocks: a variable, a row (its family; none: alone), a map. -/
inductive PB where
  | box (cs : List V)
  | row (cs : List V) (lk : Option (Nat × Bool))
  | map (es : List (V × V × Nat)) (clk : Nat)
structure PSt where
  heap : Nat → Option PB
  next : Nat

/-- What a value says of rows is so. -/
def Wf (S : PSt) (v : V) : Prop := ∀ r ∈ v.rows, ∃ cs lk, S.heap r.a = some (.row cs lk) ∧ r.xs <+: cs.drop r.o
/-- Rows stay as they are. -/
structure Keep (S S' : PSt) : Prop where
  next : S.next ≤ S'.next
  row : ∀ a cs lk, S.heap a = some (.row cs lk) → ∃ lk', S'.heap a = some (.row cs lk')
theorem Keep.refl (S : PSt) : Keep S S := ⟨Nat.le_refl _, fun _ _ lk h => ⟨lk, h⟩⟩
theorem Keep.trans {A B C : PSt} (h : Keep A B) (k : Keep B C) : Keep A C :=
  ⟨Nat.le_trans h.next k.next, fun a cs lk e => by obtain ⟨lk', e'⟩ := h.row a cs lk e; exact k.row a cs lk' e'⟩
theorem Wf.keep {S S' : PSt} {v : V} (h : Wf S v) (k : Keep S S') : Wf S' v := fun r hr => by
  obtain ⟨cs, lk, e1, e2⟩ := h r hr
  obtain ⟨lk', e3⟩ := k.row _ _ _ e1
  exact ⟨cs, lk', e3, e2⟩

noncomputable def lkE (lk : Option (Nat × Bool)) : Option Lk := lk.map fun x => ⟨Pos.of x.1, x.2⟩
/-- A tree holds just these cells. -/
def Holds (c : T AV) (cs : List V) : Prop := ∀ i, c.get (Pos.of i) = (cs[i]?).map V.er
def BSim : PB → Blk → Prop
  | .box cs, x => ∃ c, x = .cells c cs.length none ∧ Holds c cs
  | .row cs lk, x => ∃ c, x = .cells c cs.length (lkE lk) ∧ Holds c cs
  | .map es clk, x => x = .map (es.map fun e => (e.1.er, e.2.1.er, e.2.2)) clk
def PB.cells : PB → List V
  | .box cs => cs
  | .row cs _ => cs
  | .map es _ => es.flatMap fun e => [e.1, e.2.1]
structure Sim0 (S : PSt) (s : St) : Prop where
  next : s.next = Pos.of S.next
  heap : ∀ a b, S.heap a = some b → ∃ x, s.heap.get (Pos.of a) = some x ∧ BSim b x
  wf : ∀ a b, S.heap a = some b → ∀ v ∈ b.cells, Wf S v
structure Sim (S : PSt) (s : St) : Prop extends Sim0 S s where
  fresh : ∀ a, S.next ≤ a → S.heap a = none

theorem Pos.succ_of (n : Nat) : (Pos.of n).succ = Pos.of (n + 1) := Pos.toNat_inj (by rw [Pos.toNat_succ, Pos.toNat_of, Pos.toNat_of])

theorem holds_rowOf (cs : List V) : Holds (rowOf (cs.map V.er)) cs := by
  intro i
  rw [rowOf, T.get_fill]
  split
  · simp
  · rename_i h
    rw [T.get_leaf]
    have : cs.length ≤ i := by simp at h; omega
    simp [List.getElem?_eq_none this]

/-- A new block. -/
def PSt.new (S : PSt) (b : PB) : PSt := ⟨fun a => if a = S.next then some b else S.heap a, S.next + 1⟩
theorem PSt.new_next (S : PSt) (b : PB) : (S.new b).next = S.next + 1 := rfl
theorem PSt.new_at (S : PSt) (b : PB) : (S.new b).heap S.next = some b := if_pos rfl
theorem PSt.new_old (S : PSt) (b : PB) {a : Nat} (h : a ≠ S.next) : (S.new b).heap a = S.heap a := if_neg h
theorem Keep.new {S : PSt} (hf : S.heap S.next = none) (b : PB) : Keep S (S.new b) :=
  ⟨Nat.le_succ _, fun a cs lk e => ⟨lk, by rw [PSt.new_old _ _ (fun h => by rw [h, hf] at e; cases e)]; exact e⟩⟩
theorem Sim.keepNew {S : PSt} {s : St} (h : Sim S s) (b : PB) : Keep S (S.new b) := Keep.new (h.fresh _ (Nat.le_refl _)) b
theorem Sim0.new {S : PSt} {s : St} (h : Sim0 S s) (hf : S.heap S.next = none) {b : PB} {x : Blk} (hb : BSim b x) (hw : ∀ v ∈ b.cells, Wf S v) : Sim0 (S.new b) (s.new x) := by
  have hk := Keep.new hf b
  refine ⟨?_, fun a b' e => ?_, fun a b' e v hv => ?_⟩
  · show s.next.succ = _
    rw [h.next, Pos.succ_of]; rfl
  · by_cases hn : a = S.next
    · subst hn
      rw [PSt.new_at] at e; cases e
      exact ⟨x, by show (s.heap.put (some x) s.next).get _ = _; rw [h.next, T.get_put_same], hb⟩
    · rw [PSt.new_old _ _ hn] at e
      obtain ⟨y, h1, h2⟩ := h.heap a b' e
      exact ⟨y, by show (s.heap.put (some x) s.next).get _ = _; rw [h.next, T.get_put_other _ _ (fun e => hn (Pos.of_inj e))]; exact h1, h2⟩
  · by_cases hn : a = S.next
    · subst hn
      rw [PSt.new_at] at e; cases e
      exact (hw v hv).keep hk
    · rw [PSt.new_old _ _ hn] at e
      exact (h.wf a b' e v hv).keep hk
theorem Sim.new {S : PSt} {s : St} (h : Sim S s) {b : PB} {x : Blk} (hb : BSim b x) (hw : ∀ v ∈ b.cells, Wf S v) : Sim (S.new b) (s.new x) :=
  ⟨h.toSim0.new (h.fresh _ (Nat.le_refl _)) hb hw, fun a ha => by
    have ha' : S.next + 1 ≤ a := ha
    rw [PSt.new_old _ _ (by omega)]
    exact h.fresh a (by omega)⟩

/-- A box is given new contents. -/
def PSt.set (S : PSt) (a : Nat) (cs : List V) : PSt := ⟨fun p => if p = a then some (.box cs) else S.heap p, S.next⟩
theorem PSt.set_at (S : PSt) (a : Nat) (cs : List V) : (S.set a cs).heap a = some (.box cs) := if_pos rfl
theorem PSt.set_other (S : PSt) (a : Nat) (cs : List V) {p : Nat} (h : p ≠ a) : (S.set a cs).heap p = S.heap p := if_neg h
theorem Keep.set {S : PSt} {a : Nat} {cs0 : List V} (hb : S.heap a = some (.box cs0)) (cs : List V) : Keep S (S.set a cs) :=
  ⟨Nat.le_refl _, fun p c lk e => ⟨lk, by rw [PSt.set_other _ _ _ (fun h => by rw [h, hb] at e; cases e)]; exact e⟩⟩
/-- Cells written. -/
def putL (cs : List V) (o : Nat) (vs : List V) : List V := cs.take o ++ vs ++ cs.drop (o + vs.length)
theorem putL_length {cs : List V} {o : Nat} {vs : List V} (h : o + vs.length ≤ cs.length) : (putL cs o vs).length = cs.length := by
  unfold putL; simp; omega
theorem putL_get {cs : List V} {o : Nat} {vs : List V} (h : o + vs.length ≤ cs.length) (i : Nat) : (putL cs o vs)[i]? = if o ≤ i ∧ i < o + vs.length then vs[i - o]? else cs[i]? := by
  unfold putL
  by_cases h1 : i < o
  · rw [if_neg (by omega), List.append_assoc, List.getElem?_append_left (by simp; omega), List.getElem?_take, if_pos h1]
  · by_cases h2 : i < o + vs.length
    · rw [if_pos (by omega), List.getElem?_append_left (by simp; omega), List.getElem?_append_right (by simp; omega)]
      simp [Nat.min_eq_left (show o ≤ cs.length by omega)]
    · rw [if_neg (by omega), List.getElem?_append_right (by simp; omega), List.getElem?_drop]
      congr 1
      simp; omega
theorem holds_fill {c : T AV} {cs vs : List V} {o : Nat} (h : Holds c cs) (hl : o + vs.length ≤ cs.length) : Holds (T.fill (vs.map V.er) o c) (putL cs o vs) := by
  intro i
  rw [T.get_fill, putL_get hl]
  simp only [List.length_map]
  split
  · simp
  · exact h i
theorem Sim.store {S : PSt} {s : St} (h : Sim S s) {a o : Nat} {cs vs : List V} (hb : S.heap a = some (.box cs)) (hl : o + vs.length ≤ cs.length) (hw : ∀ v ∈ vs, Wf S v) :
    ∃ s', s.store (Pos.of a) o (vs.map V.er) = some s' ∧ Sim (S.set a (putL cs o vs)) s' ∧ Keep S (S.set a (putL cs o vs)) := by
  have hk := Keep.set hb (putL cs o vs)
  obtain ⟨x, h1, c, rfl, h3⟩ := h.heap a _ hb
  refine ⟨s.upd (Pos.of a) none (.cells (T.fill (vs.map V.er) o c) cs.length none), ?_, ⟨⟨?_, fun p b e => ?_, fun p b e v hv => ?_⟩, fun p hp => ?_⟩, hk⟩
  · unfold St.store
    rw [h1]
    have : Nat.ble (Nat.add o (vs.map V.er).length) cs.length = true := Nat.ble_eq_true_of_le (by rw [List.length_map]; exact hl)
    simp only [this]
  · exact h.next
  · by_cases hp : p = a
    · subst hp
      rw [PSt.set_at] at e; cases e
      refine ⟨.cells (T.fill (vs.map V.er) o c) cs.length none, ?_, T.fill (vs.map V.er) o c, by rw [putL_length hl], holds_fill h3 hl⟩
      show (s.heap.put (some _) (Pos.of p)).get (Pos.of p) = _
      rw [T.get_put_same]
    · rw [PSt.set_other _ _ _ hp] at e
      obtain ⟨y, k1, k2⟩ := h.heap p b e
      exact ⟨y, by show (s.heap.put (some _) (Pos.of a)).get (Pos.of p) = _; rw [T.get_put_other _ _ (fun e => hp (Pos.of_inj e))]; exact k1, k2⟩
  · by_cases hp : p = a
    · subst hp
      rw [PSt.set_at] at e; cases e
      have hv' : v ∈ cs.take o ++ vs ++ cs.drop (o + vs.length) := hv
      rw [List.mem_append, List.mem_append] at hv'
      rcases hv' with (hv' | hv') | hv'
      · exact (h.wf p _ hb v (List.mem_of_mem_take hv')).keep hk
      · exact (hw v hv').keep hk
      · exact (h.wf p _ hb v (List.mem_of_mem_drop hv')).keep hk
    · rw [PSt.set_other _ _ _ hp] at e
      exact (h.wf p b e v hv).keep hk
  · show (if p = a then _ else _) = none
    have : p ≠ a := fun e => by subst e; rw [h.fresh p hp] at hb; cases hb
    rw [if_neg this]; exact h.fresh p hp
end Go.Abs
