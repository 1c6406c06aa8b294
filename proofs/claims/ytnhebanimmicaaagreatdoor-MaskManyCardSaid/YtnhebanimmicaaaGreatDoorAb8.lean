/- Operations on memory. -/
import Derived.Test.YtnhebanimmicaaaGreatDoorAb7
import Derived.Laws.MakeOwn
import Derived.Laws.BytesArg
import Derived.MapKept
namespace Go.Abs

/-! ### what the types say -/
/-- A type's zero value, as cells. -/
noncomputable def zcells (P : Program) (t : TypeId) : Option (List AV) :=
  match P.info? t with
  | some i => match i.zero with
    | some z => match cval 5 z with
      | some v => match v.solid with
        | true => some v.cells
        | false => none
      | none => none
    | none => none
  | none => none
theorem zcells_ok {P : Program} {t : TypeId} {l : List AV} (h : zcells P t = some l) : ∃ i z, P.info? t = some i ∧ i.zero = some z ∧ ∀ μ, VRels μ l z.cells.toList ∧ ∀ v ∈ z.cells.toList, v.oneCell' = true := by
  unfold zcells at h
  split at h
  case h_2 => cases h
  rename_i i hi
  split at h
  case h_2 => cases h
  rename_i z hz
  split at h
  case h_2 => cases h
  rename_i v hv
  split at h
  case h_2 => cases h
  rename_i hs
  cases h
  exact ⟨i, z, hi, hz, fun μ => (cval_ok μ 5 z v hv).cells hs⟩

/-! ### new rows -/
theorem newRow_ok {μ : Mu} {s : St} {w : World} (h : R μ s w) {l : List AV} {cs : Array Value} (hl : VRels μ l cs.toList) (ho : ∀ v ∈ cs.toList, v.oneCell' = true) (hf : Free μ s.next s.next.succ) (e : TypeId) :
    ∃ μ', μ' s.next = some (w.heap.size, 0, cs.size) ∧ R μ' (s.new (.cells (rowOf l) l.length none)) (w.alloc (.cells cs e)) ∧ Ext μ s w μ' (s.new (.cells (rowOf l) l.length none)) (w.alloc (.cells cs e)) := by
  have hfs : μ s.next = none := hf _ (Nat.le_refl _) (by rw [Pos.toNat_succ]; omega)
  have := new_ok (o := .cells cs e) (x := .cells (rowOf l) l.length none) (t := cs.size) h hfs (fun μ' hle _ =>
    row_brel none (hl.mono hle) ho (heap_alloc_new _ _) (fun j v hj => by simpa using hj) (by simp))
  exact ⟨_, Mu.set_same _ _ _, this.1, this.2⟩

noncomputable def opAlloc (z : List AV) : Run := fun _ s => some (.ptr s.next 0, s.new (.cells (rowOf z) z.length none))
theorem opAlloc_ok {P : Program} {o : Oper} {t : TypeId} {z : List AV} (ho : o.op = .alloc t) (hz : zcells P t = some z) : OpSound P o (opAlloc z) := by
  intro μ N tm s w a v s' hf _ hR hfree
  cases hf
  obtain ⟨i, zv, hi, hzv, hrel⟩ := zcells_ok hz
  obtain ⟨μ', h1, h2, h3⟩ := newRow_ok hR (hrel μ).1 (hrel μ).2 hfree t
  refine ⟨μ', .value (.pointer (some ⟨w.heap.size, 0 + 0, none⟩)), _, ?_, .inr ⟨_, rfl, .ptr _ _ _ _ _ h1⟩, h2, h3⟩
  simp [execOp, ho, Instr.alloc, zeroValue, typeInfo, hi, hzv, newVar, newRow]

noncomputable def opBox (x : Opd) : Run := fun t s => match ev t x with
  | some v => match v.solid with
    | true => some (.ptr s.next 0, s.new (.cells (rowOf v.cells) v.cells.length none))
    | false => none
  | none => none
theorem opBox_ok {P : Program} {o : Oper} {e : TypeId} {x : Operand} {x' : Opd} (ho : o.op = .box e x) (hx : copd x = some x') : OpSound P o (opBox x') := by
  intro μ N tm s w a v s' hf ht hR hfree
  unfold opBox at hf
  split at hf
  case h_2 => cases hf
  rename_i v1 hv
  split at hf
  case h_2 => cases hf
  rename_i hs
  cases hf
  have hc := (ev_ok ht hx hv).cells hs
  obtain ⟨μ', h1, h2, h3⟩ := newRow_ok hR hc.1 hc.2 hfree e
  refine ⟨μ', .value (.pointer (some ⟨w.heap.size, 0 + 0, none⟩)), _, ?_, .inr ⟨_, rfl, .ptr _ _ _ _ _ h1⟩, h2, h3⟩
  simp [execOp, ho, Instr.box, newVar, newRow]

/-! ### struct values -/
noncomputable def splice (cs : List AV) (off : Nat) (v : List AV) : List AV := cs.take off ++ v ++ cs.drop (off + v.length)
/-- Parts are laid into cells: (from which cell on, how many cells, what). -/
noncomputable def parts (t : Env) : List (Nat × Nat × Opd) → List AV → Option (List AV)
  | [], cs => some cs
  | (off, size, x) :: r, cs => match ev t x with
    | some v => match and v.solid (and (Nat.beq v.cells.length size) (Nat.ble (Nat.add off size) cs.length)) with
      | true => parts t r (splice cs off v.cells)
      | false => none
    | none => none

theorem foldl_splice (off : Nat) : ∀ (l : List Value) (k : Nat) (cs : Array Value), off + k + l.length ≤ cs.size →
    ((l.zipIdx k).foldl (fun (cs : Array Value) (x : Value × Nat) => cs.setIfInBounds (off + x.2) x.1) cs).toList = cs.toList.take (off + k) ++ l ++ cs.toList.drop (off + k + l.length)
  | [], k, cs, _ => by simp
  | v :: l, k, cs, h => by
    rw [List.zipIdx_cons, List.foldl_cons, foldl_splice off l (k + 1) _ (by simp at h ⊢; omega)]
    have e := list_seg_step cs.toList (off + k) v l (by simp at h ⊢; omega)
    simpa [Array.toList_setIfInBounds, Nat.add_assoc] using e

theorem fill_ok {μ : Mu} {N : Nat} {t : Env} {a : Act} (ht : TRel μ N t a.tmps) (place : Nat → Option (Nat × Nat)) : ∀ (ps : List (Nat × Operand)) (ps' : List (Nat × Nat × Opd)),
    (∀ i, (h : i < ps.length) → ∃ off size y, ps'[i]? = some (off, size, y) ∧ place ps[i].1 = some (off, size) ∧ copd ps[i].2 = some y) → ps'.length = ps.length →
    ∀ (cs : List AV) (cs' : Array Value) (r : List AV), VRels μ cs cs'.toList → (∀ v ∈ cs'.toList, v.oneCell' = true) → parts t ps' cs = some r →
      ∃ r', Instr.fill place cs' (ps.map fun p => (p.1, a.eval p.2)) = some r' ∧ VRels μ r r'.toList ∧ (∀ v ∈ r'.toList, v.oneCell' = true)
  | [], ps', _, hlen, cs, cs', r, h1, h2, hp => by
    have : ps' = [] := List.eq_nil_of_length_eq_zero (by simpa using hlen)
    subst this; cases hp
    exact ⟨cs', rfl, h1, h2⟩
  | (i0, x) :: ps, ps', hps, hlen, cs, cs', r, h1, h2, hp => by
    obtain ⟨off, size, y, e1, e2, e3⟩ := hps 0 (by simp)
    cases ps' with
    | nil => simp at hlen
    | cons p' ps' =>
      simp at e1; subst e1
      simp only [List.getElem_cons_zero] at e2 e3
      unfold parts at hp
      split at hp
      case h_2 => cases hp
      rename_i v hv
      split at hp
      case h_2 => cases hp
      rename_i hc
      rw [Bool.and_eq_true, Bool.and_eq_true] at hc
      have hsz := Nat.eq_of_beq_eq_true hc.2.1
      have hle : off + size ≤ cs.length := Nat.le_of_ble_eq_true hc.2.2
      have hcl := (ev_ok ht e3 hv).cells hc.1
      have hn := hcl.1.length
      have hcsn := h1.length
      have hsz' : (a.eval x).cells.size = size := by rw [← Array.length_toList, ← hn, hsz]
      have hfold := foldl_splice off (a.eval x).cells.toList 0 cs' (by
        rw [Array.length_toList, hsz', ← Array.length_toList, ← hcsn]; omega)
      simp only [Nat.add_zero] at hfold
      have hfit : ¬ (off + (a.eval x).cells.size > cs'.size) := by rw [hsz', ← Array.length_toList, ← hcsn]; omega
      have ih := fill_ok ht place ps ps' (fun i hi => by
        obtain ⟨o1, s1, y1, q1, q2, q3⟩ := hps (i + 1) (by simp; omega)
        exact ⟨o1, s1, y1, by simpa using q1, by simpa using q2, by simpa using q3⟩) (by simpa using hlen) (splice cs off v.cells)
        (((a.eval x).cells.toList.zipIdx 0).foldl (fun (cs : Array Value) (x : Value × Nat) => cs.setIfInBounds (off + x.2) x.1) cs') r
        (by
          rw [hfold]
          unfold splice
          rw [hn]
          exact ((h1.take off).append hcl.1).append (h1.drop _))
        (by
          rw [hfold]
          intro u hu
          rcases List.mem_append.1 hu with hu | hu
          · rcases List.mem_append.1 hu with hu | hu
            · exact h2 u (List.mem_of_mem_take hu)
            · exact hcl.2 u hu
          · exact h2 u (List.mem_of_mem_drop hu)) hp
      obtain ⟨r', g1, g2, g3⟩ := ih
      refine ⟨r', ?_, g2, g3⟩
      simp only [List.map_cons, Instr.fill, e2]
      rw [if_neg (by simp [hsz']; omega)]
      rw [← g1]
      congr 1
      rw [← Array.foldl_toList, Array.toList_zipIdx]

/-- A struct's parts: (from which cell on, how many cells, what). -/
noncomputable def cparts (place : Nat → Option (Nat × Nat)) : List (Nat × Operand) → Option (List (Nat × Nat × Opd))
  | [] => some []
  | (i, x) :: r => match place i with
    | some (off, size) => match copd x with
      | some y => match cparts place r with
        | some l => some ((off, size, y) :: l)
        | none => none
      | none => none
    | none => none
theorem cparts_ok {place : Nat → Option (Nat × Nat)} : ∀ {ps : List (Nat × Operand)} {ps' : List (Nat × Nat × Opd)}, cparts place ps = some ps' →
    (∀ i, (h : i < ps.length) → ∃ off size y, ps'[i]? = some (off, size, y) ∧ place ps[i].1 = some (off, size) ∧ copd ps[i].2 = some y) ∧ ps'.length = ps.length
  | [], ps', h => by cases h; exact ⟨fun i h => by simp at h, rfl⟩
  | (i0, x) :: r, ps', h => by
    unfold cparts at h
    split at h
    case h_2 => cases h
    rename_i off size hp
    split at h
    case h_2 => cases h
    rename_i y hy
    split at h
    case h_2 => cases h
    rename_i l hl
    cases h
    obtain ⟨h1, h2⟩ := cparts_ok hl
    refine ⟨fun i hi => ?_, by simp [h2]⟩
    cases i with
    | zero => exact ⟨off, size, y, rfl, hp, hy⟩
    | succ i => obtain ⟨a, b, c, q1, q2, q3⟩ := h1 i (by simp at hi; omega); exact ⟨a, b, c, by simpa using q1, by simpa using q2, by simpa using q3⟩

noncomputable def opBuild (z : List AV) (ps : List (Nat × Nat × Opd)) : Run := fun t s => match parts t ps z with
  | some l => some (.agg l, s)
  | none => none
theorem opBuild_ok {P : Program} {o : Oper} {ti : TypeId} {ps : Array (Nat × Operand)} {ps' : List (Nat × Nat × Opd)} {z : List AV} {fields : Array Field} {places : List (Nat × Nat)} (ho : o.op = .build ti ps) (hz : zcells P ti = some z)
    (hu : P.underlying ti = some (.struct fields)) (hpl : fields.toList.mapM (fun f => (P.info? f.type).map fun i => (f.offset, i.size)) = some places) (hp : cparts (places.toArray[·]?) ps.toList = some ps') : OpSound P o (opBuild z ps') :=
  .pure_ fun μ N t s w a v s' hf ht _ => by
    unfold opBuild at hf
    split at hf
    case h_2 => cases hf
    rename_i l hl
    cases hf
    obtain ⟨i, zv, hi, hzv, hrel⟩ := zcells_ok hz
    have hc := cparts_ok hp
    obtain ⟨r', g1, g2, g3⟩ := fill_ok ht _ ps.toList ps' hc.1 hc.2 z zv.cells l (hrel μ).1 (hrel μ).2 hl
    refine ⟨rfl, .agg r', ?_, .agg _ _ g2 g3⟩
    have hb : P.built ti (ps.map fun (i, x) => (i, a.eval x)).toList = some r' := by
      unfold Program.built
      rw [hi, hu]
      simp only [hzv, hpl]
      have e1 : (ps.map fun (i, x) => (i, a.eval x)).toList = ps.toList.map fun p => (p.1, a.eval p.2) := by simp
      rw [e1]; exact g1
    simp only [execOp, ho, Sem.run_bind, run_build w ti _ _ hb, Result.andThen_ok]
    rfl

/-! ### loads and stores -/
noncomputable def opLoad1 (x : Opd) : Run := fun t s => match ev t x with
  | some (.ptr b o) => match s.heap.get b with
    | some (.cells c _ _) => match c.get (Pos.of o) with
      | some v => some (v, s)
      | none => none
    | _ => none
  | _ => none
theorem run_isAgg {P : Program} {t : TypeId} {d : TypeDesc} (hu : P.underlying t = some d) (w : World) : (isAgg t).run P w = .ok d.isRow w := by
  unfold isAgg
  rw [Sem.run_bind, run_underlying hu w]
  cases d <;> rfl
theorem opLoad1_ok {P : Program} {o : Oper} {ti : TypeId} {x : Operand} {x' : Opd} {d : TypeDesc} (ho : o.op = .load ti x) (hu : P.underlying ti = some d) (hd : d.isRow = false) (hx : copd x = some x') : OpSound P o (opLoad1 x') :=
  .pure_ fun μ N t s w a v s' hf ht hR => by
    unfold opLoad1 at hf
    split at hf
    case h_2 => cases hf
    rename_i b oo hv
    split at hf
    case h_2 => cases hf
    rename_i c n m hb
    split at hf
    case h_2 => cases hf
    rename_i v1 hv1
    cases hf
    have hp := ev_ok ht hx hv
    generalize he : a.eval x = vc at hp
    cases hp with | ptr b oo cb dd e hm =>
    obtain ⟨b', d', t', e1, e2⟩ := hR.blk _ _ hb
    rw [hm] at e1; cases e1
    obtain ⟨_, cs, et, hw, _, hc⟩ := e2
    obtain ⟨_, v', q1, q2, q3⟩ := hc oo v hv1
    refine ⟨rfl, v', ?_, q2⟩
    have hcell : w.cell? ⟨cb, dd + oo, none⟩ = some v' := by simp [World.cell?, hw, q1]
    simp only [execOp, ho, he, Instr.loadAt, Instr.sureAddr, loadVar, Sem.run_bind, Sem.run_pure, Result.andThen_ok, run_isAgg hu, hd]
    simp [hcell]

noncomputable def opLoadN (n : Nat) (x : Opd) : Run := fun t s => match ev t x with
  | some (.ptr b o) => match s.read b o n with
    | some l => some (.agg l, s)
    | none => none
  | _ => none
theorem opLoadN_ok {P : Program} {o : Oper} {ti : TypeId} {x : Operand} {x' : Opd} {d : TypeDesc} {i : TypeInfo} {n : Nat} (ho : o.op = .load ti x) (hu : P.underlying ti = some d) (hd : d.isRow = true) (hi : P.info? ti = some i) (hn : i.size = n)
    (hx : copd x = some x') : OpSound P o (opLoadN n x') :=
  .pure_ fun μ N t s w a v s' hf ht hR => by
    unfold opLoadN at hf
    split at hf
    case h_2 => cases hf
    rename_i b oo hv
    split at hf
    case h_2 => cases hf
    rename_i l hl
    cases hf
    have hp := ev_ok ht hx hv
    generalize he : a.eval x = vc at hp
    cases hp with | ptr b oo cb dd e hm =>
    obtain ⟨l', q1, q2, q3, q4⟩ := read_ok hR hm hl
    refine ⟨rfl, .agg l'.toArray, ?_, .agg _ _ (by simpa using q1) (by simpa using q4)⟩
    have := run_loadAt_mid (P := P) w cb (dd + oo) ti l' d q3 hu hd (by rw [hi]; simp [hn, q2])
    simp only [execOp, ho, he, Sem.run_bind, this, Result.andThen_ok]
    rfl

noncomputable def opStore (n : Nat) (x y : Opd) : Run := fun t s => match ev t x with
  | some (.ptr b o) => match ev t y with
    | some v => match and v.solid (Nat.beq v.cells.length n) with
      | true => match s.store b o v.cells with
        | some s' => some (.tup [], s')
        | none => none
      | false => none
    | none => none
  | _ => none
theorem opStore_ok {P : Program} {o : Oper} {ti : TypeId} {x y : Operand} {x' y' : Opd} {i : TypeInfo} {n : Nat} (ho : o.op = .store ti x y) (hi : P.info? ti = some i) (hn : i.size = n) (hx : copd x = some x') (hy : copd y = some y') :
    OpSound P o (opStore n x' y') := by
  intro μ N t s w a v s' hf ht hR hfree
  unfold opStore at hf
  split at hf
  case h_2 => cases hf
  rename_i b oo hv
  split at hf
  case h_2 => cases hf
  rename_i v1 hv1
  split at hf
  case h_2 => cases hf
  rename_i hc
  rw [Bool.and_eq_true] at hc
  have hsz := Nat.eq_of_beq_eq_true hc.2
  split at hf
  case h_2 => cases hf
  rename_i s1 hs1
  cases hf
  have hp := ev_ok ht hx hv
  generalize he : a.eval x = vc at hp
  cases hp with | ptr b oo cb dd e hm =>
  have hcl := (ev_ok ht hy hv1).cells hc.1
  obtain ⟨w', h1, _, _, h4, h5⟩ := store_ok hR hm hcl.1 hcl.2 hs1
  refine ⟨μ, .skip, w', ?_, .inl ⟨rfl, rfl⟩, h4, h5⟩
  have hlen : (a.eval y).cells.size = i.size := by rw [← Array.length_toList, ← hcl.1.length, hsz, hn]
  have hst := h1 P (dd + oo) rfl
  simp only [execOp, ho, he, Instr.storeAt, Instr.sureAddr, storeVar, sizeOf, typeInfo, Sem.run_bind, Sem.run_pure, run_program, Result.andThen_ok, hi]
  simp [hlen, hst]

/-! ### addresses -/
noncomputable def opFieldAddr (off : Nat) (x : Opd) : Run := fun t s => match ev t x with
  | some (.ptr b o) => some (.ptr b (litN (Nat.add o off)), s)
  | _ => none
theorem opFieldAddr_ok {P : Program} {o : Oper} {ti : TypeId} {x : Operand} {x' : Opd} {fi : Nat} {fields : Array Field} {f : Field} {i : TypeInfo} (ho : o.op = .fieldAddr ti x fi) (hu : P.underlying ti = some (.struct fields))
    (hfi : fields[fi]? = some f) (hi : P.info? f.type = some i) (h0 : i.size ≠ 0) (hx : copd x = some x') : OpSound P o (opFieldAddr f.offset x') :=
  .pure_ fun μ N t s w a v s' hf ht hR => by
    unfold opFieldAddr at hf
    split at hf
    case h_2 => cases hf
    rename_i b oo hv
    cases hf
    have hp := ev_ok ht hx hv
    generalize he : a.eval x = vc at hp
    cases hp with | ptr b oo cb dd e hm =>
    refine ⟨rfl, .pointer (some ⟨cb, dd + (oo + f.offset), none⟩), ?_, by rw [litN_eq]; exact .ptr _ _ _ _ _ hm⟩
    simp only [execOp, ho, he, Instr.fieldAt, Instr.sureAddr, fieldPlace, sizeOf, typeInfo, Sem.run_bind, Sem.run_pure, run_program, Result.andThen_ok, run_underlying hu, hfi, hi, Sem.run_ite, if_neg h0, Addr.add_mid]
    rw [Nat.add_assoc]

noncomputable def opIndexAddr (es : Nat) (x i : Opd) : Run := fun t s => match ev t x with
  | some (.slice b o len _ _) => match ev t i with
    | some (.int _ j) => match j with
      | .ofNat j => match Nat.blt j len with
        | true => some (.ptr b (litN (Nat.add o (Nat.mul j es))), s)
        | false => none
      | .negSucc _ => none
    | _ => none
  | _ => none
theorem opIndexAddr_ok {P : Program} {o : Oper} {ti e : TypeId} {x i : Operand} {x' i' : Opd} {ie : TypeInfo} {es : Nat} (ho : o.op = .indexAddr ti x i) (hu : P.underlying ti = some (.slice e)) (hi : P.info? e = some ie) (hes : ie.size = es)
    (hx : copd x = some x') (hii : copd i = some i') : OpSound P o (opIndexAddr es x' i') :=
  .pure_ fun μ N t s w a v s' hf ht hR => by
    unfold opIndexAddr at hf
    split at hf
    case h_2 => cases hf
    rename_i b oo len cap es' hv
    split at hf
    case h_2 => cases hf
    rename_i k j hv'
    have hb' := ev_ok ht hii hv'
    generalize he' : a.eval i = vc' at hb'
    cases hb'
    split at hf
    case h_2 => cases hf
    rename_i j
    split at hf
    case h_2 => cases hf
    rename_i hlt
    have hlt' : j < len := by simpa [Nat.blt_eq] using hlt
    cases hf
    have hp := ev_ok ht hx hv
    generalize he : a.eval x = vc at hp
    cases hp with
    | sliceE => omega
    | slice b oo len cap es' cb dd e' cap' hm hc hl htt =>
      refine ⟨rfl, .pointer (some ⟨cb, dd + (oo + j * es), none⟩), ?_, by rw [litN_eq]; exact .ptr _ _ _ _ _ hm⟩
      have h1 : (0 : Int) ≤ Int.ofNat j ∧ Int.ofNat j < (len : Int) := ⟨Int.natCast_nonneg j, by simp only [Int.ofNat_eq_natCast]; omega⟩
      simp only [execOp, ho, he, he', Instr.indexAt, asIntOf, sizeOf, typeInfo, Sem.run_bind, Sem.run_pure, run_program, Result.andThen_ok, run_underlying hu, hi, Sem.run_ite, if_pos h1, Addr.add_mid, hes]
      simp [Nat.add_assoc]

end Go.Abs
