/- append. -/
import Derived.Test.YtnhebanimmicaaaGreatDoorAb3
import Derived.Laws.AppendOwn
namespace Go.Abs

/-- What an append comes to, whatever its second argument is: k elements, the cells news. -/
structure AppSrc (P : Program) (t tx ty e : TypeId) (i : TypeInfo) (z : Value) (y : Value) (k : Nat) (news : List Value) (w : World) : Prop where
  newsLen : news.length = k * i.size
  one : ∀ u ∈ news, u.oneCell' = true
  room : ∀ (b off sLen sCap : Nat), sLen + k ≤ sCap → w.there b (off + sLen * i.size) news.length →
    (Builtin.append_ #[t, tx] ty #[.slice (some ⟨b, off, none⟩) sLen sCap, y]).run P w = .ok (.slice (some ⟨b, off, none⟩) (sLen + k) sCap) (w.setCells b (off + sLen * i.size) news)
  none0 : k = 0 → (Builtin.append_ #[t, tx] ty #[.slice none 0 0, y]).run P w = .ok (.slice none 0 0) w
  grow : ∀ (base : Option Addr) (sLen sCap : Nat) (olds : List Value), (Builtin.firstCells i.size sLen (.slice base sLen sCap)).run P w.drew = .ok olds.toArray w.drew →
    sCap < sLen + k → ((sLen + k : Nat) : Int) ≤ 9223372036854775807 → Builtin.nextslicecap (sLen + k) sCap * i.bytes ≤ 281474976710656 →
    (Builtin.append_ #[t, tx] ty #[.slice base sLen sCap, y]).run P w =
      .ok (.slice (some ⟨w.heap.size, 0, none⟩) (sLen + k) (grownCap w (sLen + k) sCap e))
        (w.drew.alloc (.cells ((olds ++ news).toArray ++ Builtin.zeroCells z.cells (grownCap w (sLen + k) sCap e - (sLen + k))) e))

theorem AppSrc.of {P : Program} {t tx ty e : TypeId} {i : TypeInfo} {z : Value} {y : Value} {k : Nat} {news : List Value} {w : World}
    (ht : P.underlying t = some (.slice e)) (hi : P.info? e = some i) (hz : i.zero = some z) (hs : Src P i.size tx y k news w) : AppSrc P t tx ty e i z y k news w where
  newsLen := hs.newsLen
  one := hs.one
  room b off sLen sCap hr hth := run_append_room_src w t tx ty e i ht hi b off sLen sCap y k news hs hr (fun j hj => (hth j hj).1) (fun j hj => (hth j hj).2)
  none0 hk := by
    subst hk
    have hn : news = [] := by have := hs.newsLen; simpa using this
    rcases hs.kind with ⟨e', hk⟩ | hk <;> simp [Builtin.append_, run_underlying ht, run_underlying hk, sizeOf, typeInfo, hi, hs.len, hs.cells]
  grow base sLen sCap olds ho h1 h2 h3 := run_append_grow_src w t tx ty e i z ht hi hz base sLen sCap olds ho y k news hs h1 h2 h3

/-- 'append(s, make([]E, k)...)': the second argument is the number itself. -/
theorem AppSrc.zeros {P : Program} {t tx ty e : TypeId} {i : TypeInfo} {z : Value} {kk : IntKind} {k : Nat} {w : World}
    (ht : P.underlying t = some (.slice e)) (hx : P.underlying tx = some (.int kk)) (hi : P.info? e = some i) (hz : i.zero = some z) (hzs : z.cells.size = i.size)
    (hk : (k : Int) ≤ 9223372036854775807) (hb : (k : Int) * i.bytes ≤ 281474976710656) (h1 : ∀ u ∈ z.cells.toList, u.oneCell' = true) :
    AppSrc P t tx ty e i z (.int .i64 k) k (Builtin.zeroCells z.cells k).toList w := by
  have hwr : IntKind.i64.wrap (k : Int) = k := by
    have h0 : (0 : Int) ≤ k := Int.natCast_nonneg _
    simp only [IntKind.wrap, IntKind.bits, IntKind.signed]
    simp
    omega
  have hneg : ¬ (k : Int) < 0 := by omega
  have hbb : ¬ (281474976710656 < (k : Int) * i.bytes) := by omega
  have h1' : ∀ u ∈ (Builtin.zeroCells z.cells k).toList, u.oneCell' = true := by
    intro u hu
    simp only [Builtin.zeroCells, Array.toList_map, List.mem_map] at hu
    obtain ⟨j, hj, rfl⟩ := hu
    have hj' : j < k * z.cells.size := by simpa using hj
    have hpos : 0 < z.cells.size := by
      rcases Nat.eq_zero_or_pos z.cells.size with h | h
      · rw [h] at hj'; simp at hj'
      · exact h
    have hm : j % z.cells.size < z.cells.size := Nat.mod_lt _ hpos
    rw [getElem!_pos z.cells _ hm]
    exact h1 _ (by simp)
  have hsz : (Builtin.zeroCells z.cells k).toList.length = k * i.size := by rw [Array.length_toList, size_zeroCells, hzs]
  refine ⟨hsz, h1', ?_, ?_, ?_⟩
  · intro b off sLen sCap hr hth
    have hst := run_storeCells_cells (P := P) b (off + sLen * i.size) (Builtin.zeroCells z.cells k).toList 0 w (fun j hj => by simpa using (hth j hj).1) (fun j hj => by simpa using (hth j hj).2) h1'
    simp only [Nat.add_zero] at hst
    by_cases h0 : k * i.size = 0
    · have hnil : (Builtin.zeroCells z.cells k).toList = [] := by apply List.eq_nil_of_length_eq_zero; rw [hsz, h0]
      rw [hnil] at hst
      simp [Builtin.append_, run_underlying ht, run_underlying hx, sizeOf, typeInfo, hi, asInt, asIntOf, hwr, hneg, hbb, hr, h0, hnil, Addr.add_lit, hst]
    · simp [Builtin.append_, run_underlying ht, run_underlying hx, sizeOf, typeInfo, zeroValue, hi, hz, asInt, asIntOf, hwr, hneg, hbb, hr, h0, Addr.add_lit, hst]
  · intro hk0
    subst hk0
    have hw0 : IntKind.i64.wrap (0 : Int) = 0 := by decide
    simp [Builtin.append_, run_underlying ht, run_underlying hx, sizeOf, typeInfo, hi, asInt, asIntOf, hw0]
  · intro base sLen sCap olds ho hg h63 hfit
    have hn : ¬ (sLen + k ≤ sCap) := by omega
    have h63' : ¬ (9223372036854775807 < ((sLen : Int) + (k : Int))) := by omega
    have h48' : ¬ (281474976710656 < Builtin.nextslicecap (sLen + k) sCap * i.bytes) := by omega
    by_cases h0 : k * i.size = 0
    · have hnil : (Builtin.zeroCells z.cells k).toList = [] := by apply List.eq_nil_of_length_eq_zero; rw [hsz, h0]
      simp [Builtin.append_, run_underlying ht, run_underlying hx, sizeOf, typeInfo, zeroValue, hi, hz, asInt, asIntOf, hwr, hneg, hbb, hn, h63', h48', Question.forced, ho, newRow, grownCap, h0, hnil]
    · simp [Builtin.append_, run_underlying ht, run_underlying hx, sizeOf, typeInfo, zeroValue, hi, hz, asInt, asIntOf, hwr, hneg, hbb, hn, h63', h48', Question.forced, ho, newRow, grownCap, h0]
      congr 2
      apply Array.ext'
      simp [List.append_assoc]

/-- Cells that are known; none of no cells. -/
noncomputable def St.readN (s : St) (p : Pos) (i n : Nat) : Option (List AV) :=
  match n with
  | 0 => some []
  | n + 1 => s.read p i (Nat.succ n)

/-- Onto a slice whose capacity is known. -/
noncomputable def St.appendK (s : St) (es : Nat) (b : Pos) (o len cp : Nat) (new : List AV) (k : Nat) : Option (AV × St) :=
  match Nat.ble (Nat.add len k) cp with
  | true => match s.store b (Nat.add o (Nat.mul len es)) new with
    | some s' => some (.slice b o (Nat.add len k) (some cp) es, s')
    | none => none
  | false => match s.readN b o (Nat.mul len es) with
    | some old => some (.slice s.next 0 (Nat.add len k) none es, s.new (.cells (rowOf (old ++ new)) (old ++ new).length none))
    | none => none
/-- Onto a slice whose capacity is not known. -/
noncomputable def St.appendU (s : St) (es : Nat) (b : Pos) (o len : Nat) (new : List AV) (k : Nat) : Option (AV × St) :=
  match s.heap.get b with
  | some (.cells c n m) =>
    match and (and (Nat.beq o 0) (Nat.beq (Nat.mul len es) n)) (tipB m) with
    | true => some (.slice s.next 0 (Nat.add len k) none es, (s.relink b c n (famP b m)).new (.cells (T.fill new n c) (Nat.add n new.length) (some ⟨famP b m, true⟩)))
    | false => match T.read c (Nat.mul len es) o with
      | some old => some (.slice s.next 0 (Nat.add len k) none es, ((s.kill m).del b).new (.cells (rowOf (old ++ new)) (old ++ new).length none))
      | none => none
  | _ => none
/-- 'append': x: the slice; new: k elements of es cells. -/
noncomputable def St.append (s : St) (es by_ : Nat) (x : AV) (new : List AV) (k : Nat) : Option (AV × St) :=
  match k with
  | 0 => match x with
    | .nilslice => some (.nilslice, s)
    | .slice b o len cap es' => some (.slice b o len cap es', s)
    | _ => none
  | kk + 1 =>
    match x with
    | .nilslice => match Nat.ble (Nat.mul (Nat.succ kk) by_) 70368744177664 with
      | true => some (.slice s.next 0 (Nat.succ kk) none es, s.new (.cells (rowOf new) new.length none))
      | false => none
    | .slice b o len cap es' =>
      match and (Nat.beq es' es) (Nat.ble (Nat.mul (Nat.add len (Nat.succ kk)) by_) 70368744177664) with
      | false => none
      | true => match cap with
        | some cp => s.appendK es b o len cp new (Nat.succ kk)
        | none => s.appendU es b o len new (Nat.succ kk)
    | _ => none

/-! ### the model follows -/
/-- A new row that lies in a block of the model's that was there. -/
theorem place_ok {μ : Mu} {s s1 : St} {w w' : World} (h : R μ s1 w) {q : Pos} (hq : q = s1.next) (hnext : s1.next = s.next) (hsub : ∀ r z, s1.heap.get r = some z → ∃ z', s.heap.get r = some z')
    {b d t : Nat} {y : Blk} (hf : μ q = none) (hown : ∃ p x d t, s.heap.get p = some x ∧ μ p = some (b, d, t)) (hb : b < w.heap.size)
    (hs : w'.heap.size = w.heap.size) (ho : w'.os = w.os) (ht : w'.tape = w.tape) (hu : w'.output = w.output) (hk : ∀ k, k ≠ b → w'.heap[k]? = w.heap[k]?)
    (hA : ∀ r z d1 t1, s1.heap.get r = some z → μ r = some (b, d1, t1) → Apart z y d1 d ∧ BRel μ w' z (b, d1, t1))
    (hy : BRel μ w' y (b, d, t)) : R (μ.set q (b, d, t)) (s1.new y) w' ∧ Ext μ s w (μ.set q (b, d, t)) (s1.new y) w' := by
  subst hq
  have hle := Mu.le_set hf (b, d, t)
  have hget : ∀ r z, (s1.new y).heap.get r = some z → (r = s1.next ∧ z = y) ∨ (r ≠ s1.next ∧ s1.heap.get r = some z) := by
    intro r z hr
    have hr' : (s1.heap.put (some y) s1.next).get r = some z := hr
    rw [T.get_put] at hr'
    split at hr'
    · exact .inl ⟨‹_›, by cases hr'; rfl⟩
    · exact .inr ⟨‹_›, hr'⟩
  have hnx : (s1.new y).next.toNat = s1.next.toNat + 1 := Pos.toNat_succ _
  constructor
  · constructor
    · intro p hp
      show (s1.heap.put (some y) s1.next).get p = none
      rw [hnx] at hp
      rw [T.get_put, if_neg (fun e => by rw [e] at hp; omega)]
      exact h.fresh p (by omega)
    · intro r z hr
      rcases hget r z hr with ⟨rfl, rfl⟩ | ⟨hne, hr⟩
      · exact ⟨b, d, t, Mu.set_same _ _ _, hy.mono hle rfl⟩
      · obtain ⟨b', d', t', e1, e2⟩ := h.blk r z hr
        refine ⟨b', d', t', hle _ _ e1, ?_⟩
        by_cases e : b' = b
        · subst e; exact (hA r z d' t' hr e1).2.mono hle rfl
        · exact e2.mono hle (hk _ e)
    · intro p r z1 z2 b1 d1 t1 d2 t2 hp hr m1 m2 hne
      rcases hget p z1 hp with ⟨rfl, rfl⟩ | ⟨h1, hp'⟩ <;> rcases hget r z2 hr with ⟨rfl, rfl⟩ | ⟨h2, hr'⟩
      · exact absurd rfl hne
      · rw [Mu.set_same] at m1
        rw [Mu.set_other _ _ h2] at m2
        cases m1
        exact (hA r z2 d2 t2 hr' m2).1.symm
      · rw [Mu.set_same] at m2
        rw [Mu.set_other _ _ h1] at m1
        cases m2
        exact (hA p z1 d1 t1 hp' m1).1
      · rw [Mu.set_other _ _ h1] at m1
        rw [Mu.set_other _ _ h2] at m2
        exact h.apart p r z1 z2 b1 d1 t1 d2 t2 hp' hr' m1 m2 hne
  · obtain ⟨p0, x0, d0, t0, o1, o2⟩ := hown
    exact {
      le := hle
      mu := fun p hp => Mu.set_other _ _ (fun e => by rw [e, hnx, hnext] at hp; omega)
      next := by rw [hnx, hnext]; omega
      size := Nat.le_of_eq hs.symm
      os := ho
      tape := ht
      output := hu
      keep := fun k _ hn => hk k (fun e => hn p0 x0 d0 t0 o1 (by rw [e]; exact o2))
      own := fun k _ hn r z d' t' hr => by
        rcases hget r z hr with ⟨rfl, rfl⟩ | ⟨h1, hr⟩
        · rw [Mu.set_same]; intro e; cases e; exact hn p0 x0 d0 t0 o1 o2
        · rw [Mu.set_other _ _ h1]
          obtain ⟨z', hz'⟩ := hsub r z hr
          exact hn r z' d' t' hz' }

/-- The row that an append makes where there is no room. -/
theorem grow_ok {μ : Mu} {s : St} {w : World} (h : R μ s w) {c : T AV} {n : Nat} {m : Option Lk} {l' : List Value} {cs : Array Value} {e : TypeId} (hf : μ s.next = none)
    (hc : ∀ j v, c.get (Pos.of j) = some v → j < n ∧ ∃ v', l'[j]? = some v' ∧ VRel μ v v' ∧ v'.oneCell' = true) (hn : n ≤ l'.length) (hcs : ∀ (j : Nat) (v : Value), l'[j]? = some v → cs[j]? = some v) (hs : l'.length ≤ cs.size) :
    R (μ.set s.next (w.heap.size, 0, cs.size)) (s.new (.cells c n m)) (w.drew.alloc (.cells cs e)) ∧ Ext μ s w (μ.set s.next (w.heap.size, 0, cs.size)) (s.new (.cells c n m)) (w.drew.alloc (.cells cs e)) := by
  have := new_ok (o := .cells cs e) (x := .cells c n m) (t := cs.size) h.drew hf (fun μ' hle _ => ⟨by omega, cs, e, heap_alloc_new _ _, rfl, fun i v hv => by
    obtain ⟨h1, v', h2, h3, h4⟩ := hc i v hv
    exact ⟨h1, v', by rw [Nat.zero_add]; exact hcs i v' h2, h3.mono hle, h4⟩⟩)
  exact ⟨this.1, (Ext.drew μ s w).trans this.2⟩

theorem firstCells_of {P : Program} {w : World} {b o size len cap : Nat} {l : List Value} (hl : l.length = len * size) (h : RangeIs w b o l) :
    (Builtin.firstCells size len (.slice (some ⟨b, o, none⟩) len cap)).run P w = .ok l.toArray w :=
  run_firstCells_some w size len ⟨b, o, none⟩ len cap l hl (fun j v hj => by rw [Addr.add_mid]; exact h j v hj)

end Go.Abs
