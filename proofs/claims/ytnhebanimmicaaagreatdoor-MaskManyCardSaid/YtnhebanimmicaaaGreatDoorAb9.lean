/- Slices, lengths, appends, maps. -/
import Derived.Test.YtnhebanimmicaaaGreatDoorAb8
import Derived.Laws.Slices
namespace Go.Abs

/-! ### rows of zero values -/
noncomputable def repl (n : Nat) (z : List AV) : List AV := Nat.rec (motive := fun _ => List AV) [] (fun _ r => z ++ r) n
theorem repl_zero (z : List AV) : repl 0 z = [] := rfl
theorem repl_succ (n : Nat) (z : List AV) : repl (n + 1) z = z ++ repl n z := rfl
def replV (n : Nat) (z : List Value) : List Value := match n with
  | 0 => []
  | n + 1 => z ++ replV n z
theorem replV_succ' (z : List Value) : ∀ n, replV (n + 1) z = replV n z ++ z
  | 0 => by simp [replV]
  | n + 1 => by
    show z ++ replV (n + 1) z = (z ++ replV n z) ++ z
    rw [replV_succ' z n, List.append_assoc]
theorem repl_rel {μ : Mu} {z : List AV} {z' : List Value} (h : VRels μ z z') : ∀ n, VRels μ (repl n z) (replV n z')
  | 0 => .nil
  | n + 1 => h.append (repl_rel h n)
theorem replV_one {z : List Value} (h : ∀ v ∈ z, v.oneCell' = true) : ∀ n, ∀ v ∈ replV n z, v.oneCell' = true
  | 0, v, hv => by cases hv
  | n + 1, v, hv => (List.mem_append.1 hv).elim (h v) (replV_one h n v)
theorem replV_length (z : List Value) : ∀ n, (replV n z).length = n * z.length
  | 0 => by simp [replV]
  | n + 1 => by show (z ++ replV n z).length = _; rw [List.length_append, replV_length z n, Nat.add_mul]; omega
theorem made_eq (z : Array Value) : ∀ n, ((List.range (n * z.size)).map (z[· % z.size]!)) = replV n z.toList
  | 0 => by simp [replV]
  | n + 1 => by
    rw [replV_succ', ← made_eq z n, Nat.add_mul, Nat.one_mul, List.range_add, List.map_append]
    congr 1
    apply List.ext_getElem?
    intro j
    rw [List.map_map, List.getElem?_map]
    rcases Nat.lt_or_ge j z.size with h | h
    · rw [List.getElem?_range h]
      simp only [Option.map_some, Function.comp]
      have e : (n * z.size + j) % z.size = j := by rw [Nat.mul_comm, Nat.mul_add_mod, Nat.mod_eq_of_lt h]
      rw [e, getElem!_pos z j h]
      simp [h]
    · rw [List.getElem?_eq_none (by simpa using h), List.getElem?_eq_none (by simpa using h)]
      rfl
theorem zeroCells_eq (z : Array Value) (n : Nat) : (Builtin.zeroCells z n).toList = replV n z.toList := by
  rw [← made_eq]; simp [Builtin.zeroCells]
theorem madeCells_eq (z : Array Value) (n : Nat) : (madeCells z (n * z.size)).toList = replV n z.toList := by
  rw [← made_eq]; simp [madeCells]

/-! ### parts in their order -/
/-- As 'parts', where they come in rising order: pos: how many cells are done; zs: what is there from pos on. -/
noncomputable def seqp (t : Env) : List (Nat × Nat × Opd) → Nat → List AV → Option (List AV)
  | [], _, zs => some zs
  | (off, size, x) :: r, pos, zs => match ev t x with
    | none => none
    | some v => match and v.solid (and (Nat.beq v.cells.length size) (and (Nat.ble pos off) (Nat.ble (Nat.add (Nat.sub off pos) size) zs.length))) with
      | false => none
      | true => match seqp t r (litN (Nat.add off size)) (zs.drop (Nat.add (Nat.sub off pos) size)) with
        | none => none
        | some l => match Nat.sub off pos with
          | 0 => some (v.cells ++ l)
          | g + 1 => some (zs.take (Nat.succ g) ++ (v.cells ++ l))
theorem seqp_parts {t : Env} : ∀ {ps : List (Nat × Nat × Opd)} {pos : Nat} {zs r : List AV}, seqp t ps pos zs = some r → ∀ pre : List AV, pre.length = pos → parts t ps (pre ++ zs) = some (pre ++ r)
  | [], pos, zs, r, h, pre, _ => by cases h; rfl
  | (off, size, x) :: ps, pos, zs, r, h, pre, hpre => by
    unfold seqp at h
    split at h
    case h_1 => cases h
    rename_i v hv
    split at h
    case h_1 => cases h
    rename_i hc
    rw [Bool.and_eq_true, Bool.and_eq_true, Bool.and_eq_true] at hc
    obtain ⟨h1, h2, h3, h4⟩ := hc
    have hsz := Nat.eq_of_beq_eq_true h2
    have hle : pos ≤ off := Nat.le_of_ble_eq_true h3
    have hfit : off - pos + size ≤ zs.length := Nat.le_of_ble_eq_true h4
    split at h
    case h_1 => cases h
    rename_i l hl
    rw [litN_eq] at hl
    have hr : r = zs.take (off - pos) ++ (v.cells ++ l) := by
      split at h
      · rename_i h0
        have h0' : off - pos = 0 := h0
        cases h; rw [h0']; rfl
      · rename_i g h0
        have h0' : off - pos = g + 1 := h0
        cases h; rw [h0']
    subst hr
    have ih := seqp_parts hl (pre ++ zs.take (off - pos) ++ v.cells) (by simp only [List.length_append, List.length_take, hsz, hpre]; show _ = off + size; omega)
    unfold parts
    rw [hv]
    simp only
    have hb1 : v.solid = true := h1
    have hb2 : Nat.beq v.cells.length size = true := h2
    have hb3 : Nat.ble (Nat.add off size) (pre ++ zs).length = true := Nat.ble_eq_true_of_le (by rw [List.length_append, hpre]; show off + size ≤ _; omega)
    rw [hb1, hb2, hb3]
    simp only [Bool.and_self]
    have hspl : splice (pre ++ zs) off v.cells = pre ++ zs.take (off - pos) ++ v.cells ++ zs.drop (off - pos + size) := by
      unfold splice
      rw [List.take_append, List.drop_append, hsz]
      rw [List.take_of_length_le (show pre.length ≤ off by omega), List.drop_of_length_le (show pre.length ≤ off + size by omega), hpre]
      rw [show off + size - pos = off - pos + size by omega]
      simp
    rw [hspl]
    have e : zs.drop (Nat.add (Nat.sub off pos) size) = zs.drop (off - pos + size) := rfl
    rw [e] at ih
    rw [ih]
    simp

noncomputable def opBuildS (z : List AV) (ps : List (Nat × Nat × Opd)) : Run := fun t s => match seqp t ps 0 z with
  | some l => some (.agg l, s)
  | none => none
theorem opBuildS_ok {P : Program} {o : Oper} {ti : TypeId} {ps : Array (Nat × Operand)} {ps' : List (Nat × Nat × Opd)} {z : List AV} {fields : Array Field} {places : List (Nat × Nat)} (ho : o.op = .build ti ps) (hz : zcells P ti = some z)
    (hu : P.underlying ti = some (.struct fields)) (hpl : fields.toList.mapM (fun f => (P.info? f.type).map fun i => (f.offset, i.size)) = some places) (hp : cparts (places.toArray[·]?) ps.toList = some ps') : OpSound P o (opBuildS z ps') := by
  have := opBuild_ok ho hz hu hpl hp
  intro μ N t s w a v s' hf
  refine this μ N t s w a v s' ?_
  unfold opBuildS at hf
  unfold opBuild
  split at hf
  case h_2 => cases hf
  rename_i l hl
  cases hf
  have := seqp_parts hl [] rfl
  simp only [List.nil_append] at this
  rw [this]

noncomputable def opBuildSlice (es len : Nat) (z : List AV) (ps : List (Nat × Nat × Opd)) : Run := fun t s => match seqp t ps 0 (repl len z) with
  | some l => some (.slice s.next 0 len (some len) es, s.new (.cells (rowOf l) l.length none))
  | none => none
theorem parts_length {t : Env} : ∀ {ps : List (Nat × Nat × Opd)} {cs r : List AV}, parts t ps cs = some r → r.length = cs.length
  | [], cs, r, h => by cases h; rfl
  | (off, size, x) :: ps, cs, r, h => by
    unfold parts at h
    split at h
    case h_2 => cases h
    rename_i v hv
    split at h
    case h_2 => cases h
    rename_i hc
    rw [Bool.and_eq_true, Bool.and_eq_true] at hc
    have h1 := Nat.eq_of_beq_eq_true hc.2.1
    have h2 : off + size ≤ cs.length := Nat.le_of_ble_eq_true hc.2.2
    rw [parts_length h]
    unfold splice
    simp only [List.length_append, List.length_take, List.length_drop]
    omega
theorem run_buildSlice' {P : Program} (w : World) {t e : TypeId} {i : TypeInfo} {z : Value} {len : Nat} {parts : Array (Nat × Value)} {cells : Array Value} (hu : P.underlying t = some (.slice e)) (hi : P.info? e = some i) (hz : i.zero = some z)
    (hbig : len * i.size ≤ 16777216) (hf : Instr.fill (fun k => some (k * i.size, i.size)) ((Array.range (len * i.size)).map (z.cells[· % z.cells.size]!)) parts.toList = some cells) :
    (Instr.buildSlice t len parts).run P w = .ok (.slice (some ⟨w.heap.size, 0, none⟩) len len) (w.alloc (.cells cells e)) := by
  have hbig' : ¬ (len * i.size > 2 ^ 24) := by omega
  unfold Instr.buildSlice
  simp only [sizeOf, typeInfo, zeroValue, Sem.run_bind, Sem.run_pure, run_program, Result.andThen_ok, run_underlying hu, hi, Sem.run_ite, if_neg hbig', hz]
  by_cases h0 : len * i.size = 0
  · rw [h0] at hf
    simp only [Array.range_zero', Array.map_empty] at hf
    simp [h0, hf, newRow, Array.range_zero']
  · simp [h0, hf, newRow]
theorem opBuildSlice_ok {P : Program} {o : Oper} {ti e : TypeId} {ps : Array (Nat × Operand)} {ps' : List (Nat × Nat × Opd)} {z : List AV} {ie : TypeInfo} {es len : Nat} (ho : o.op = .buildSlice ti len ps) (hz : zcells P e = some z)
    (hu : P.underlying ti = some (.slice e)) (hi : P.info? e = some ie) (hes : ie.size = es) (hzl : z.length = es) (hbig : len * es ≤ 16777216)
    (hp : cparts (fun i => some (i * es, es)) ps.toList = some ps') : OpSound P o (opBuildSlice es len z ps') := by
  intro μ N t s w a v s' hf ht hR hfree
  unfold opBuildSlice at hf
  split at hf
  case h_2 => cases hf
  rename_i l hl
  cases hf
  obtain ⟨i, zv, hi', hzv, hrel⟩ := zcells_ok hz
  rw [hi] at hi'; cases hi'
  have hc := cparts_ok hp
  have hpt := seqp_parts hl [] rfl
  simp only [List.nil_append] at hpt
  have hzs : zv.cells.size = es := by rw [← Array.length_toList, ← (hrel μ).1.length, hzl]
  have hmade : ((Array.range (len * es)).map (zv.cells[· % zv.cells.size]!)).toList = replV len zv.cells.toList := by
    rw [← hzs, ← made_eq]; simp
  obtain ⟨r', g1, g2, g3⟩ := fill_ok ht (fun i => some (i * es, es)) ps.toList ps' hc.1 hc.2 (repl len z) ((Array.range (len * es)).map (zv.cells[· % zv.cells.size]!)) l
    (by rw [hmade]; exact repl_rel (hrel μ).1 len) (by rw [hmade]; exact replV_one (hrel μ).2 len) hpt
  obtain ⟨μ', h1, h2, h3⟩ := newRow_ok hR g2 g3 hfree e
  have hrlen : r'.size = len * es := by
    rw [← Array.length_toList, ← g2.length, parts_length hpt, (repl_rel (hrel μ).1 len).length, replV_length, Array.length_toList, hzs]
  refine ⟨μ', .value (.slice (some ⟨w.heap.size, 0 + 0, none⟩) len len), _, ?_, .inr ⟨_, rfl, .slice _ _ _ _ _ _ _ _ len h1 (fun k hk => by cases hk; rfl) (Nat.le_refl _) (by rw [hrlen]; omega)⟩, h2, h3⟩
  subst hes
  have e1 : (ps.map fun (i, x) => (i, a.eval x)).toList = ps.toList.map fun p => (p.1, a.eval p.2) := by simp
  have hrun := run_buildSlice' (P := P) w (parts := ps.map fun (i, x) => (i, a.eval x)) hu hi hzv hbig (by rw [e1]; exact g1)
  simp only [execOp, ho, Sem.run_bind, hrun, Result.andThen_ok]
  rfl

noncomputable def opMkslice (es by_ : Nat) (z : List AV) (x y : Opd) : Run := fun t s => match ev t x with
  | some (.int _ (.ofNat l)) => match ev t y with
    | some (.int _ (.ofNat c)) => match and (Nat.ble l c) (Nat.ble (Nat.mul c by_) 70368744177664) with
      | true => some (.slice s.next 0 l (some c) es, s.new (.cells (rowOf (repl c z)) (repl c z).length none))
      | false => none
    | _ => none
  | _ => none
theorem opMkslice_ok {P : Program} {o : Oper} {ti e : TypeId} {x y : Operand} {x' y' : Opd} {z : List AV} {ie : TypeInfo} {es by_ : Nat} (ho : o.op = .makeSlice ti x y) (hz : zcells P e = some z)
    (hu : P.underlying ti = some (.slice e)) (hi : P.info? e = some ie) (hes : ie.size = es) (hzl : z.length = es) (hby : ie.bytes < by_) (hx : copd x = some x') (hy : copd y = some y') : OpSound P o (opMkslice es by_ z x' y') := by
  intro μ N t s w a v s' hf ht hR hfree
  unfold opMkslice at hf
  split at hf
  case h_2 => cases hf
  rename_i k l hv
  split at hf
  case h_2 => cases hf
  rename_i k' c hv'
  split at hf
  case h_2 => cases hf
  rename_i hc
  rw [Bool.and_eq_true] at hc
  have hlc := Nat.le_of_ble_eq_true hc.1
  have hcb : c * by_ ≤ 70368744177664 := Nat.le_of_ble_eq_true hc.2
  have hcb1 : c * ie.bytes ≤ 70368744177664 := Nat.le_trans (Nat.mul_le_mul_left _ (Nat.le_of_lt hby)) hcb
  have hcb2 : c ≤ 70368744177664 := by have : c * 1 ≤ c * by_ := Nat.mul_le_mul_left _ (by omega); omega
  cases hf
  have hp := ev_ok ht hx hv
  generalize he : a.eval x = vc at hp
  cases hp
  have hp' := ev_ok ht hy hv'
  generalize he' : a.eval y = vc' at hp'
  cases hp'
  obtain ⟨i, zv, hi', hzv, hrel⟩ := zcells_ok hz
  rw [hi] at hi'; cases hi'
  have hzs : zv.cells.size = es := by rw [← Array.length_toList, ← (hrel μ).1.length, hzl]
  have hrun := run_make (P := P) w ti e ie zv hu hi hzv k k' (Int.ofNat l) (Int.ofNat c) (Int.natCast_nonneg l) (Int.ofNat_le.2 hlc) (by
    have : ((c * ie.bytes : Nat) : Int) ≤ 281474976710656 := by omega
    rw [Int.natCast_mul, Int.mul_comm] at this
    exact this) (by simp only [Int.ofNat_eq_natCast]; omega)
  have hmade : (madeCells zv.cells (c * ie.size)).toList = replV c zv.cells.toList := by rw [hes, ← hzs, madeCells_eq]
  obtain ⟨μ', h1, h2, h3⟩ := newRow_ok hR (l := repl c z) (cs := madeCells zv.cells (c * ie.size)) (by rw [hmade]; exact repl_rel (hrel μ).1 c) (by rw [hmade]; exact replV_one (hrel μ).2 c) hfree e
  refine ⟨μ', .value (.slice (some ⟨w.heap.size, 0 + 0, none⟩) l c), w.alloc (.cells (madeCells zv.cells (c * ie.size)) e), ?_, .inr ⟨_, rfl, .slice _ _ _ _ _ _ _ _ c h1 (fun k hk => by cases hk; rfl) hlc (by rw [size_madeCells, hes]; omega)⟩, h2, h3⟩
  simp only [execOp, ho, he, he', Sem.run_bind, hrun, Result.andThen_ok]
  rfl

/-! ### lengths -/
theorem run_builtin {P : Program} {o : Oper} {a : Act} {w w' : World} {b : Builtin} {ts : Array TypeId} {xs : Array Operand} {vs : Array Value} {r : Value} (f : Array TypeId → TypeId → Array Value → Sem Value)
    (ho : o.op = .call { callee := .builtin b, args := xs, argTypes := ts }) (hb : ∀ cs, builtin b ts o.type cs vs = (do pure (.value (← f ts o.type vs)))) (hv : xs.map a.eval = vs) (hr : (f ts o.type vs).run P w = .ok r w') :
    (execOp a.eval o).run P w = .ok (.value r) w' := by
  simp only [execOp, ho, resolve, Sem.run_bind, Sem.run_pure, Result.andThen_ok, invoke, hv, hb, hr]

noncomputable def opLenS (x : Opd) : Run := fun t s => match ev t x with
  | some (.slice _ _ len _ _) => some (.int .i64 (.ofNat len), s)
  | some .nilslice => some (.int .i64 (.ofNat 0), s)
  | _ => none
theorem opLenS_ok {P : Program} {o : Oper} {ti e : TypeId} {x : Operand} {x' : Opd} (ho : o.op = .call { callee := .builtin .len, args := #[x], argTypes := #[ti] })
    (hu : P.underlying ti = some (.slice e)) (hx : copd x = some x') : OpSound P o (opLenS x') :=
  .pure_ fun μ N t s w a v s' hf ht hR => by
    unfold opLenS at hf
    split at hf
    · rename_i b oo len cap es hv
      have hp := ev_ok ht hx hv
      generalize he : a.eval x = vc at hp
      cases hf
      cases hp <;> exact ⟨rfl, _, run_builtin (vs := #[_]) Builtin.len_ ho (fun _ => rfl) (by simp [he]; rfl) (by simp [Builtin.len_, run_underlying hu]; rfl), .int _ _⟩
    · rename_i hv
      have hp := ev_ok ht hx hv
      generalize he : a.eval x = vc at hp
      cases hf
      cases hp
      exact ⟨rfl, _, run_builtin (vs := #[_]) Builtin.len_ ho (fun _ => rfl) (by simp [he]; rfl) (by simp [Builtin.len_, run_underlying hu]; rfl), .int _ _⟩
    · cases hf
noncomputable def opLenStr (x : Opd) : Run := fun t s => match ev t x with
  | some (.str l _) => some (.int .i64 (.ofNat l), s)
  | _ => none
theorem opLenStr_ok {P : Program} {o : Oper} {ti : TypeId} {x : Operand} {x' : Opd} (ho : o.op = .call { callee := .builtin .len, args := #[x], argTypes := #[ti] })
    (hu : P.underlying ti = some .string) (hx : copd x = some x') : OpSound P o (opLenStr x') :=
  .pure_ fun μ N t s w a v s' hf ht hR => by
    unfold opLenStr at hf
    split at hf
    · rename_i l n hv
      have hp := ev_ok ht hx hv
      generalize he : a.eval x = vc at hp
      cases hf
      cases hp with | str s1 l n hl hb =>
      subst hl
      exact ⟨rfl, _, run_builtin (vs := #[.string s1]) Builtin.len_ ho (fun _ => rfl) (by simp [he]) (by simp [Builtin.len_, run_underlying hu]; rfl), .int _ _⟩
    · cases hf

noncomputable def opCap (x : Opd) : Run := fun t s => match ev t x with
  | some (.slice _ _ _ (some c) _) => some (.int .i64 (.ofNat c), s)
  | some .nilslice => some (.int .i64 (.ofNat 0), s)
  | _ => none
theorem opCap_ok {P : Program} {o : Oper} {ti e : TypeId} {x : Operand} {x' : Opd} (ho : o.op = .call { callee := .builtin .cap, args := #[x], argTypes := #[ti] })
    (hu : P.underlying ti = some (.slice e)) (hx : copd x = some x') : OpSound P o (opCap x') :=
  .pure_ fun μ N t s w a v s' hf ht hR => by
    unfold opCap at hf
    split at hf
    · rename_i b oo len c es hv
      have hp := ev_ok ht hx hv
      generalize he : a.eval x = vc at hp
      cases hf
      cases hp with
      | slice b oo len cap es cb d e' cap' hm hc hl htt =>
        obtain rfl := hc c rfl
        exact ⟨rfl, _, run_builtin (vs := #[_]) Builtin.cap_ ho (fun _ => rfl) (by simp [he]; rfl) (by simp [Builtin.cap_, run_underlying hu]; rfl), .int _ _⟩
      | sliceE b oo cap es cb x1 hc =>
        obtain rfl := hc c rfl
        exact ⟨rfl, _, run_builtin (vs := #[_]) Builtin.cap_ ho (fun _ => rfl) (by simp [he]; rfl) (by simp [Builtin.cap_, run_underlying hu]; rfl), .int _ _⟩
    · rename_i hv
      have hp := ev_ok ht hx hv
      generalize he : a.eval x = vc at hp
      cases hf
      cases hp
      exact ⟨rfl, _, run_builtin (vs := #[_]) Builtin.cap_ ho (fun _ => rfl) (by simp [he]; rfl) (by simp [Builtin.cap_, run_underlying hu]; rfl), .int _ _⟩
    · cases hf

/-! ### slicing -/
noncomputable def evN (t : Env) (x : Opd) : Option Nat := match ev t x with
  | some (.int _ n) => match n with
    | .ofNat n => some n
    | .negSucc _ => none
  | _ => none
theorem evN_ok {μ : Mu} {N : Nat} {t : Env} {a : Act} (h : TRel μ N t a.tmps) {x : Operand} {y : Opd} (hc : copd x = some y) {n : Nat} (he : evN t y = some n) : ∃ k, a.eval x = .int k (Int.ofNat n) := by
  unfold evN at he
  split at he
  case h_2 => cases he
  rename_i k m hv
  split at he
  case h_2 => cases he
  cases he
  have hp := ev_ok h hc hv
  generalize a.eval x = vc at hp ⊢
  cases hp
  exact ⟨k, rfl⟩
/-- The three bounds: from, to, and the new end of the room (none: it stays). -/
noncomputable def bounds (t : Env) (len top : Nat) (lo hi mx : Option Opd) : Option (Nat × Nat × Option Nat) :=
  match mx with
  | none =>
    match (match hi with
      | none => some len
      | some x => match evN t x with
        | some h => match Nat.ble h top with
          | true => some h
          | false => none
        | none => none) with
    | none => none
    | some h => match lo with
      | none => some (0, h, none)
      | some x => match evN t x with
        | some l => match Nat.ble l h with
          | true => some (l, h, none)
          | false => none
        | none => none
  | some y => match evN t y with
    | none => none
    | some m => match Nat.ble m top with
      | false => none
      | true => match hi with
        | none => none
        | some x => match evN t x with
          | none => none
          | some h => match Nat.ble h m with
            | false => none
            | true => match lo with
              | none => some (0, h, some m)
              | some x => match evN t x with
                | some l => match Nat.ble l h with
                  | true => some (l, h, some m)
                  | false => none
                | none => none
noncomputable def copdo : Option Operand → Option (Option Opd)
  | none => some none
  | some x => match copd x with
    | some y => some (some y)
    | none => none
theorem run_bound {P : Program} {w : World} (k : IntKind) (n y : Nat) (h : n ≤ y) (code : BoundsCode) : (Instr.sliceBound (.int k (Int.ofNat n)) y code).run P w = .ok n w :=
  run_sliceBound w k (Int.ofNat n) y code (Int.natCast_nonneg n) (Int.ofNat_le.2 h)
theorem bounds_ok {P : Program} {w : World} {μ : Mu} {N : Nat} {t : Env} {a : Act} (ht : TRel μ N t a.tmps) {lo hi mx : Option Operand} {lo' hi' mx' : Option Opd} (h1 : copdo lo = some lo') (h2 : copdo hi = some hi') (h3 : copdo mx = some mx')
    (isSlice : Bool) {len top cap : Nat} (htop : top ≤ cap) (hlen : len ≤ top) {l h : Nat} {m : Option Nat} (hb : bounds t len top lo' hi' mx' = some (l, h, m)) :
    (Instr.sliceBounds isSlice len cap (lo.map a.eval) (hi.map a.eval) (mx.map a.eval)).run P w = .ok (l, h, m.getD cap) w ∧ l ≤ h ∧ h ≤ top ∧ h ≤ m.getD cap ∧ m.getD cap ≤ cap ∧ (∀ k, m = some k → k ≤ top) := by
  have evo : ∀ {x : Option Operand} {y : Option Opd} {z : Opd} {n : Nat}, copdo x = some y → y = some z → evN t z = some n → ∃ k, x.map a.eval = some (.int k (Int.ofNat n)) := by
    intro x y z n g1 g2 g3
    subst g2
    cases x with
    | none => cases g1
    | some x =>
      simp only [copdo] at g1
      cases hx : copd x with
      | none => rw [hx] at g1; cases g1
      | some y => rw [hx] at g1; cases g1; obtain ⟨k, hk⟩ := evN_ok ht hx g3; exact ⟨k, by simp [hk]⟩
  have evn : ∀ {x : Option Operand}, copdo x = some none → x = none := by
    intro x g
    cases x with
    | none => rfl
    | some x => simp only [copdo] at g; cases hx : copd x with
      | none => rw [hx] at g; cases g
      | some y => rw [hx] at g; cases g
  unfold bounds at hb
  split at hb
  · obtain rfl := evn h3
    split at hb
    case h_1 => cases hb
    rename_i h0 heq
    have hH : (match (hi.map a.eval) with
        | some v => Instr.sliceBound v cap (if isSlice then .sliceAcap else .sliceAlen)
        | none => pure len : Sem Nat).run P w = .ok h0 w ∧ h0 ≤ top := by
      split at heq
      · cases heq
        obtain rfl := evn h2
        exact ⟨rfl, hlen⟩
      · rename_i x
        split at heq
        case h_2 => cases heq
        rename_i n hn
        split at heq
        case h_2 => cases heq
        rename_i hle
        cases heq
        have hle' := Nat.le_of_ble_eq_true hle
        obtain ⟨k, hk⟩ := evo h2 rfl hn
        rw [hk]
        exact ⟨run_bound k _ cap (by omega) _, hle'⟩
    have key : ∀ l1, (match (lo.map a.eval) with
        | some v => Instr.sliceBound v h0 (if (none : Option Value).isSome then .slice3C else .sliceB)
        | none => pure 0 : Sem Nat).run P w = .ok l1 w →
        (Instr.sliceBounds isSlice len cap (lo.map a.eval) (hi.map a.eval) none).run P w = .ok (l1, h0, cap) w := by
      intro l1 hl1
      unfold Instr.sliceBounds
      cases hh : hi.map a.eval with
      | none =>
        rw [hh] at hH
        obtain ⟨hH, _⟩ := hH
        cases hH
        simp only [Sem.run_bind, Sem.run_pure, Result.andThen_ok]
        cases hlo : lo.map a.eval with
        | none => rw [hlo] at hl1; cases hl1; rfl
        | some u => rw [hlo] at hl1; simp only [Sem.run_bind]; erw [hl1]; rfl
      | some v =>
        rw [hh] at hH
        have hH1 : (Instr.sliceBound v cap (if isSlice then .sliceAcap else .sliceAlen)).run P w = .ok h0 w := hH.1
        simp only [Sem.run_bind, Sem.run_pure, Result.andThen_ok, hH1]
        cases hlo : lo.map a.eval with
        | none => rw [hlo] at hl1; cases hl1; rfl
        | some u => rw [hlo] at hl1; simp only [Sem.run_bind]; erw [hl1]; rfl
    split at hb
    · cases hb
      obtain rfl := evn h1
      exact ⟨key 0 rfl, Nat.zero_le _, hH.2, by simp; omega, by simp, by simp⟩
    · split at hb
      case h_2 => cases hb
      rename_i n hn
      split at hb
      case h_2 => cases hb
      rename_i hle
      cases hb
      have hle' := Nat.le_of_ble_eq_true hle
      obtain ⟨k, hk⟩ := evo h1 rfl hn
      exact ⟨key _ (by rw [hk]; exact run_bound k _ _ hle' _), hle', hH.2, by simp; omega, by simp, by simp⟩
  · split at hb
    case h_1 => cases hb
    rename_i m0 hm0
    split at hb
    case h_1 => cases hb
    rename_i hle
    have hle' := Nat.le_of_ble_eq_true hle
    obtain ⟨k, hk⟩ := evo h3 rfl hm0
    split at hb
    case h_1 => cases hb
    split at hb
    case h_1 => cases hb
    rename_i n hn
    split at hb
    case h_1 => cases hb
    rename_i hle2
    have hle2' := Nat.le_of_ble_eq_true hle2
    obtain ⟨k2, hk2⟩ := evo h2 rfl hn
    have key : ∀ l1, (match (lo.map a.eval) with
        | some v => Instr.sliceBound v n (if (mx.map a.eval).isSome then .slice3C else .sliceB)
        | none => pure 0 : Sem Nat).run P w = .ok l1 w →
        (Instr.sliceBounds isSlice len cap (lo.map a.eval) (hi.map a.eval) (mx.map a.eval)).run P w = .ok (l1, n, m0) w := by
      intro l1 hl1
      unfold Instr.sliceBounds
      rw [hk2, hk] at *
      simp only [Sem.run_bind, Sem.run_pure, Result.andThen_ok, run_bound k m0 cap (by omega), run_bound k2 n m0 hle2']
      cases hlo : lo.map a.eval with
      | none => rw [hlo] at hl1; cases hl1; rfl
      | some u => rw [hlo] at hl1; simp only [Sem.run_bind]; erw [hl1]; rfl
    split at hb
    · cases hb
      obtain rfl := evn h1
      exact ⟨key 0 rfl, Nat.zero_le _, by omega, by simp; omega, by simp; omega, fun k hk => by cases hk; exact hle'⟩
    · split at hb
      case h_2 => cases hb
      rename_i n2 hn2
      split at hb
      case h_2 => cases hb
      rename_i hle3
      cases hb
      have hle3' := Nat.le_of_ble_eq_true hle3
      obtain ⟨k3, hk3⟩ := evo h1 rfl hn2
      exact ⟨key _ (by rw [hk3]; exact run_bound k3 _ _ hle3' _), hle3', by omega, by simp; omega, by simp; omega, fun k hk => by cases hk; exact hle'⟩

end Go.Abs
