/- Reading, writing and appending in abstract memory, and that the model's memory follows. -/
import Derived.Test.YtnhebanimmicaaaGreatDoorAb2
import Derived.Deep.MidRow
import Derived.Laws.CopyRow
import Derived.Deep.AppendSrc
namespace Go.Abs

theorem setRow_other (w : World) (g : Nat) (cs : Array Value) {k : Nat} (h : k ≠ g) : (w.setRow g cs).heap[k]? = w.heap[k]? := by
  unfold World.setRow
  simp only [Array.getElem?_modify]
  rw [if_neg (fun e => h e.symm)]
theorem setRow_size (w : World) (g : Nat) (cs : Array Value) : (w.setRow g cs).heap.size = w.heap.size := by
  unfold World.setRow; simp

/-- A block is given a new content; the rest of its family is struck. -/
noncomputable def St.upd (s : St) (p : Pos) (m : Option Lk) (y : Blk) : St := ⟨(s.kill m).heap.put (some y) p, s.next⟩

theorem St.get_upd {s : St} {p q : Pos} {m : Option Lk} {y z : Blk} (h : (s.upd p m y).heap.get q = some z) : (q = p ∧ z = y) ∨ (q ≠ p ∧ Alive m z ∧ s.heap.get q = some z) := by
  have h' : ((s.kill m).heap.put (some y) p).get q = some z := h
  rw [T.get_put] at h'
  split at h'
  · exact .inl ⟨‹_›, by cases h'; rfl⟩
  · exact .inr ⟨‹_›, (St.get_kill h').1, (St.get_kill h').2⟩

theorem upd_ok {μ : Mu} {s : St} {w w' : World} (h : R μ s w) {p : Pos} {x y : Blk} {b d t : Nat} (hp : s.heap.get p = some x) (hm : μ p = some (b, d, t))
    (hs : w'.heap.size = w.heap.size) (ho : w'.os = w.os) (ht : w'.tape = w.tape) (hu : w'.output = w.output) (hk : ∀ k, k ≠ b → w'.heap[k]? = w.heap[k]?)
    (hy : BRel μ w' y (b, d, t)) : R μ (s.upd p x.mateOf y) w' ∧ Ext μ s w μ (s.upd p x.mateOf y) w' := by
  have hb : b < w.heap.size := by
    obtain ⟨b', d', t', e1, e2⟩ := h.blk p x hp
    rw [hm] at e1; cases e1; exact e2.lt
  have alone : ∀ q z b' d' t', q ≠ p → Alive x.mateOf z → s.heap.get q = some z → μ q = some (b', d', t') → b' ≠ b := by
    intro q z b' d' t' hq hmt hz hmq e
    subst e
    obtain ⟨f, i, j, a1, a2⟩ := (h.apart p q x z b' d t d' t' hp hz hm hmq (Ne.symm hq)).fam
    exact hmt _ a1 _ a2 rfl
  constructor
  · constructor
    · intro q hq
      show ((s.kill x.mateOf).heap.put (some y) p).get q = none
      have hq' : s.next.toNat ≤ q.toNat := hq
      have hne : q ≠ p := fun e => by subst e; rw [h.fresh q hq'] at hp; cases hp
      rw [T.get_put, if_neg hne]
      cases hg : (s.kill x.mateOf).heap.get q with
      | none => rfl
      | some z => have := (St.get_kill hg).2; rw [h.fresh q hq'] at this; cases this
    · intro q z hz
      rcases St.get_upd hz with ⟨rfl, rfl⟩ | ⟨h1, h2, h3⟩
      · exact ⟨b, d, t, hm, hy⟩
      · obtain ⟨b', d', t', e1, e2⟩ := h.blk q z h3
        exact ⟨b', d', t', e1, e2.mono μ.le_refl (hk _ (alone q z b' d' t' h1 h2 h3 e1))⟩
    · intro q r y1 y2 b1 d1 t1 d2 t2 hq hr m1 m2 hne
      rcases St.get_upd hq with ⟨rfl, rfl⟩ | ⟨a1, a2, a3⟩ <;> rcases St.get_upd hr with ⟨rfl, rfl⟩ | ⟨c1, c2, c3⟩
      · exact absurd rfl hne
      · rw [hm] at m1; cases m1; exact absurd rfl (alone r y2 b d2 t2 c1 c2 c3 m2)
      · rw [hm] at m2; cases m2; exact absurd rfl (alone q y1 b d1 t1 a1 a2 a3 m1)
      · exact h.apart q r y1 y2 b1 d1 t1 d2 t2 a3 c3 m1 m2 hne
  · exact {
      le := μ.le_refl
      mu := fun _ _ => rfl
      next := Nat.le_refl _
      size := Nat.le_of_eq hs.symm
      os := ho
      tape := ht
      output := hu
      keep := fun k _ hn => hk k (fun e => hn p x d t hp (by rw [hm, e]))
      own := fun k _ hn q z d' t' hz => by
        rcases St.get_upd hz with ⟨rfl, rfl⟩ | ⟨h1, h2, h3⟩
        · exact hn q x d' t' hp
        · exact hn q z d' t' h3 }

/-- A row is told its family; it is no tip any more. -/
noncomputable def St.relink (s : St) (p : Pos) (c : T AV) (n : Nat) (f : Pos) : St := ⟨s.heap.put (some (.cells c n (some ⟨f, false⟩))) p, s.next⟩
noncomputable def tipB (m : Option Lk) : Bool := match m with
  | none => true
  | some l => l.tip
noncomputable def famP (b : Pos) (m : Option Lk) : Pos := match m with
  | none => b
  | some l => l.f
theorem St.get_relink {s : St} {p q : Pos} {c : T AV} {n : Nat} {f : Pos} {z : Blk} (h : (s.relink p c n f).heap.get q = some z) : (q = p ∧ z = .cells c n (some ⟨f, false⟩)) ∨ (q ≠ p ∧ s.heap.get q = some z) := by
  have h' : (s.heap.put (some (.cells c n (some ⟨f, false⟩))) p).get q = some z := h
  rw [T.get_put] at h'
  split at h'
  · exact .inl ⟨‹_›, by cases h'; rfl⟩
  · exact .inr ⟨‹_›, h'⟩
/-- Those in a tip's block are of its family, and reach no farther. -/
theorem tip_apart {c : T AV} {n : Nat} {m : Option Lk} {z : Blk} {d d' : Nat} {b : Pos} (ht : tipB m = true) (h : Apart (.cells c n m) z d d') : z.mateOf = some ⟨famP b m, false⟩ ∧ d' + z.len ≤ d + n ∧ ∃ c' n', z = .cells c' n' (some ⟨famP b m, false⟩) := by
  obtain ⟨f, ⟨a, b', e⟩ | ⟨a, b', e⟩ | ⟨a, b'⟩⟩ := h
  · have a' : m = some ⟨f, true⟩ := a
    subst a'
    refine ⟨b', e, ?_⟩
    cases z with
    | cells c' n' m' => have : m' = some ⟨f, false⟩ := b'; exact ⟨c', n', by rw [this]; rfl⟩
    | map _ _ => cases b'
    | iter _ _ _ _ => cases b'
  · have a' : m = some ⟨f, false⟩ := a
    subst a'; cases ht
  · have a' : m = some ⟨f, false⟩ := a
    subst a'; cases ht
theorem relink_ok {μ : Mu} {s : St} {w : World} (h : R μ s w) {p : Pos} {c : T AV} {n : Nat} {m : Option Lk} (hp : s.heap.get p = some (.cells c n m)) (ht : tipB m = true) :
    R μ (s.relink p c n (famP p m)) w ∧ Ext μ s w μ (s.relink p c n (famP p m)) w := by
  obtain ⟨b, d, t, hm, hb⟩ := h.blk p _ hp
  constructor
  · constructor
    · intro q hq
      show (s.heap.put _ p).get q = none
      have hq' : s.next.toNat ≤ q.toNat := hq
      have hne : q ≠ p := fun e => by subst e; rw [h.fresh q hq'] at hp; cases hp
      rw [T.get_put, if_neg hne]
      exact h.fresh q hq'
    · intro q z hz
      rcases St.get_relink hz with ⟨rfl, rfl⟩ | ⟨h1, h2⟩
      · exact ⟨b, d, t, hm, hb⟩
      · exact h.blk q z h2
    · intro q r y1 y2 b1 d1 t1 d2 t2 hq hr m1 m2 hne
      rcases St.get_relink hq with ⟨rfl, rfl⟩ | ⟨a1, a2⟩ <;> rcases St.get_relink hr with ⟨rfl, rfl⟩ | ⟨c1, c2⟩
      · exact absurd rfl hne
      · rw [hm] at m1; cases m1
        obtain ⟨k1, _⟩ := tip_apart (b := q) ht (h.apart q r _ y2 b d t d2 t2 hp c2 hm m2 hne)
        exact ⟨_, .inr (.inr ⟨rfl, k1⟩)⟩
      · rw [hm] at m2; cases m2
        obtain ⟨k1, _⟩ := tip_apart (b := r) ht (h.apart r q _ y1 b d t d1 t1 hp a2 hm m1 (Ne.symm hne))
        exact ⟨_, .inr (.inr ⟨k1, rfl⟩)⟩
      · exact h.apart q r y1 y2 b1 d1 t1 d2 t2 a2 c2 m1 m2 hne
  · exact {
      le := μ.le_refl
      mu := fun _ _ => rfl
      next := Nat.le_refl _
      size := Nat.le_refl _
      os := rfl
      tape := rfl
      output := rfl
      keep := fun _ _ _ => rfl
      own := fun k _ hn q z d' t' hz => by
        rcases St.get_relink hz with ⟨rfl, rfl⟩ | ⟨h1, h2⟩
        · exact hn q _ d' t' hp
        · exact hn q z d' t' h2 }

/-! ### reading -/
/-- Cells, from the front. -/
noncomputable def T.readS (c : T AV) (n : Nat) : Nat → Option (List AV) :=
  Nat.rec (motive := fun _ => Nat → Option (List AV)) (fun _ => some [])
    (fun _ ih i => match c.get (Pos.of i) with
      | none => none
      | some v => match ih (Nat.succ i) with
        | none => none
        | some l => some (v :: l)) n
theorem T.readS_succ (c : T AV) (n i : Nat) : T.readS c (n + 1) i = match c.get (Pos.of i) with
      | none => none
      | some v => match T.readS c n (i + 1) with
        | none => none
        | some l => some (v :: l) := rfl
theorem T.readS_snoc (c : T AV) : ∀ (n i : Nat), T.readS c (n + 1) i = match T.readS c n i with
    | none => none
    | some l => match c.get (Pos.of (i + n)) with
      | none => none
      | some v => some (l ++ [v])
  | 0, i => by
    rw [T.readS_succ]
    show _ = (match c.get (Pos.of i) with
      | none => none
      | some v => some ([] ++ [v]) : Option (List AV))
    cases c.get (Pos.of i) <;> rfl
  | n + 1, i => by
    rw [T.readS_succ, T.readS_snoc c n (i + 1), T.readS_succ]
    have e : i + 1 + n = i + (n + 1) := by omega
    rw [e]
    cases c.get (Pos.of i) with
    | none => rfl
    | some v =>
      cases T.readS c n (i + 1) with
      | none => rfl
      | some l => cases c.get (Pos.of (i + (n + 1))) <;> rfl
/-- Cells, from the back: nothing nests. -/
noncomputable def T.readR (c : T AV) (i n : Nat) : List AV → Option (List AV) :=
  Nat.rec (motive := fun _ => List AV → Option (List AV)) (fun acc => some acc)
    (fun k ih acc => match c.get (Pos.of (Nat.add i k)) with
      | none => none
      | some v => ih (v :: acc)) n
theorem T.readR_eq (c : T AV) (i : Nat) : ∀ (n : Nat) (acc : List AV), T.readR c i n acc = match T.readS c n i with
    | none => none
    | some l => some (l ++ acc)
  | 0, acc => rfl
  | n + 1, acc => by
    rw [T.readS_snoc]
    show (match c.get (Pos.of (i + n)) with
      | none => none
      | some v => T.readR c i n (v :: acc)) = _
    cases hv : c.get (Pos.of (i + n)) with
    | none =>
      cases T.readS c n i <;> rfl
    | some v =>
      simp only
      rw [T.readR_eq c i n (v :: acc)]
      cases T.readS c n i <;> simp
noncomputable def T.read (c : T AV) (n i : Nat) : Option (List AV) := T.readR c i n []
theorem T.read_eq (c : T AV) (n i : Nat) : T.read c n i = T.readS c n i := by
  unfold T.read
  rw [T.readR_eq]
  cases T.readS c n i <;> simp
theorem T.read_zero (c : T AV) (i : Nat) : T.read c 0 i = some [] := rfl
theorem T.read_succ (c : T AV) (n i : Nat) : T.read c (n + 1) i = match c.get (Pos.of i) with
      | none => none
      | some v => match T.read c n (i + 1) with
        | none => none
        | some l => some (v :: l) := by rw [T.read_eq, T.readS_succ, T.read_eq]

noncomputable def St.read (s : St) (p : Pos) (i n : Nat) : Option (List AV) :=
  match s.heap.get p with
  | some (.cells c _ _) => T.read c n i
  | _ => none

/-- Cells of the model's block b from number o on. -/
def RangeIs (w : World) (b o : Nat) (l : List Value) : Prop := ∀ j v, l[j]? = some v → w.cell? ⟨b, o + j, none⟩ = some v

theorem read_tree {μ : Mu} {w : World} {c : T AV} {n : Nat} {m : Option Lk} {b d t : Nat} (hb : BRel μ w (.cells c n m) (b, d, t)) :
    ∀ (k i : Nat) (l : List AV), T.read c k i = some l → ∃ l', VRels μ l l' ∧ l'.length = k ∧ RangeIs w b (d + i) l' ∧ ∀ v ∈ l', v.oneCell' = true := by
  obtain ⟨_, cs, e, hw, hs, hc⟩ := hb
  intro k
  induction k with
  | zero => intro i l h; rw [T.read_zero] at h; cases h; exact ⟨[], .nil, rfl, fun j v h => by simp at h, by simp⟩
  | succ k ih =>
    intro i l h
    rw [T.read_succ] at h
    cases hg : c.get (Pos.of i) with
    | none => rw [hg] at h; cases h
    | some v =>
      rw [hg] at h
      cases hr : T.read c k (i + 1) with
      | none => simp only [hr] at h; cases h
      | some l1 =>
        simp only [hr] at h
        cases h
        obtain ⟨_, v', x1, x2, x3⟩ := hc i v hg
        obtain ⟨l', y1, y2, y3, y4⟩ := ih (i + 1) l1 hr
        refine ⟨v' :: l', .cons x2 y1, by simp [y2], ?_, ?_⟩
        · intro j u hj
          cases j with
          | zero => simp at hj; subst hj; simp [World.cell?, hw, x1]
          | succ j => simp at hj; have := y3 j u hj; rwa [show d + i + (j + 1) = d + (i + 1) + j by omega]
        · intro u hu
          rcases List.mem_cons.1 hu with rfl | hu
          · exact x3
          · exact y4 u hu

theorem read_ok {μ : Mu} {s : St} {w : World} (h : R μ s w) {p : Pos} {b d t : Nat} (hm : μ p = some (b, d, t)) {i n : Nat} {l : List AV} (hr : s.read p i n = some l) :
    ∃ l', VRels μ l l' ∧ l'.length = n ∧ RangeIs w b (d + i) l' ∧ ∀ v ∈ l', v.oneCell' = true := by
  unfold St.read at hr
  split at hr
  · rename_i c k m hp
    obtain ⟨b', d', t', e1, e2⟩ := h.blk _ _ hp
    rw [hm] at e1; cases e1
    exact read_tree e2 n i l hr
  · cases hr

/-! ### new rows -/
noncomputable def rowOf (l : List AV) : T AV := T.fill l 0 .leaf
theorem row_brel {μ : Mu} {w : World} {l : List AV} {l' : List Value} {cs : Array Value} {e : TypeId} {b : Nat} (m : Option Lk) (h : VRels μ l l') (ho : ∀ v ∈ l', v.oneCell' = true)
    (hw : w.heap[b]? = some (.cells cs e (0, 0))) (hc : ∀ (j : Nat) (v : Value), l'[j]? = some v → cs[j]? = some v) (hs : l'.length ≤ cs.size) :
    BRel μ w (.cells (rowOf l) l.length m) (b, 0, cs.size) := by
  refine ⟨by rw [h.length]; omega, cs, e, hw, rfl, fun i v hv => ?_⟩
  rw [rowOf, T.get_fill] at hv
  split at hv
  · rename_i hlt
    obtain ⟨v', h1, h2⟩ := h.get i v (by simpa using hv)
    refine ⟨by omega, v', by rw [Nat.zero_add]; exact hc i v' h1, h2, ho v' (List.mem_of_getElem? h1)⟩
  · rw [T.get_leaf] at hv; cases hv

/-! ### writing -/
noncomputable def St.store (s : St) (p : Pos) (i : Nat) (vs : List AV) : Option St :=
  match s.heap.get p with
  | some (.cells c n m) => match Nat.ble (Nat.add i vs.length) n with
    | true => some (s.upd p m (.cells (T.fill vs i c) n none))
    | false => none
  | _ => none

theorem store_ok {μ : Mu} {s s' : St} {w : World} (h : R μ s w) {p : Pos} {b d t : Nat} (hm : μ p = some (b, d, t)) {i : Nat} {vs : List AV} {vs' : List Value} (hv : VRels μ vs vs')
    (ho : ∀ v ∈ vs', v.oneCell' = true) (hr : s.store p i vs = some s') :
    ∃ w', (∀ (P : Program) (j : Nat), d + i = j → (storeCells ⟨b, j, none⟩ vs').run P w = .ok () w') ∧ w.there b (d + i) vs'.length ∧ w' = w.setCells b (d + i) vs' ∧
      R μ s' w' ∧ Ext μ s w μ s' w' := by
  unfold St.store at hr
  split at hr
  case h_2 => cases hr
  rename_i c n m hp
  split at hr
  case h_2 => cases hr
  rename_i hle
  have hle' : i + vs.length ≤ n := Nat.le_of_ble_eq_true hle
  cases hr
  obtain ⟨b', d', t', e1, e2⟩ := h.blk _ _ hp
  rw [hm] at e1; cases e1
  obtain ⟨hn, cs, e, hw, hs, hc⟩ := e2
  have hlen := hv.length
  have hst := fun P => run_storeCells_at P b (d + i) e vs' 0 cs w hw (by omega) ho
  have there : w.there b (d + i) vs'.length := fun j hj => by
    have hlt : d + i + j < cs.size := by omega
    exact ⟨by simp [World.cell?, hw, hlt], by simp [World.frozen?, hw]⟩
  have hst2 := fun P => run_storeCells_cells (P := P) b (d + i) vs' 0 w (fun j hj => by simpa using (there j hj).1) (fun j hj => by simpa using (there j hj).2) ho
  have hww : w.setRow b (cs.toList.take (d + i + 0) ++ vs' ++ cs.toList.drop (d + i + 0 + vs'.length)).toArray = w.setCells b (d + i) vs' := by
    have h1 := hst default
    have h2 := hst2 default
    rw [h1] at h2
    simp only [Nat.add_zero] at h2 ⊢
    injection h2
  refine ⟨_, fun P j hj => ?_, there, hww, ?_⟩
  · subst hj; exact hst P
  refine upd_ok h hp hm (setRow_size _ _ _) rfl rfl rfl (fun k hk => setRow_other _ _ _ hk) ?_
  refine ⟨hn, _, e, setRow_heap w b cs _ e (0, 0) hw, ?_, fun j v hj => ?_⟩
  · simp; omega
  rw [T.get_fill] at hj
  simp only [Nat.add_zero]
  split at hj
  · rename_i hin
    obtain ⟨v', h1, h2⟩ := hv.get _ v hj
    refine ⟨by omega, v', ?_, h2, ho v' (List.mem_of_getElem? h1)⟩
    rw [List.getElem?_toArray, List.getElem?_append_left (by simp; omega), List.getElem?_append_right (by simp; omega)]
    rw [List.length_take, Nat.min_eq_left (by simp; omega), show d + j - (d + i) = j - i by omega]
    exact h1
  · rename_i hout
    obtain ⟨h0, v', h1, h2, h3⟩ := hc j v hj
    refine ⟨h0, v', ?_, h2, h3⟩
    have hlt : d + j < cs.size := by
      rcases Nat.lt_or_ge (d + j) cs.size with h' | h'
      · exact h'
      · simp [Array.getElem?_eq_none h'] at h1
    by_cases hjl : j < i
    · rw [List.getElem?_toArray, List.append_assoc, List.getElem?_append_left (by simp; omega), List.getElem?_take, if_pos (by omega)]
      simpa using h1
    · rw [List.getElem?_toArray, List.getElem?_append_right (by simp; omega), List.getElem?_drop]
      have : d + i + vs'.length + (d + j - (List.take (d + i) cs.toList ++ vs').length) = d + j := by simp; omega
      rw [this]
      simpa using h1

end Go.Abs
