/- Structs held against each other; the lesser and the greater of two. -/
import Derived.Test.YtnhebanimmicaaaGreatDoorAb11
import Derived.Laws.StructEq
namespace Go.Abs

/-! ### '==' of structs -/
/-- What a part is that is held against another: 0 a whole number, 1 text, 2 a bool. -/
noncomputable def leafOf : TypeDesc → Option Nat
  | .int _ => some 0
  | .string => some 1
  | .bool => some 2
  | _ => none
/-- Where a struct's cells lie that are held against each other, and what they are. -/
noncomputable def eqFieldsL (P : Program) (rec : TypeId → Option (List (Nat × Nat))) : List Field → Option (List (Nat × Nat))
  | [] => some []
  | f :: fs => match f.name == "_" with
    | true => eqFieldsL P rec fs
    | false => match eqFieldsL P rec fs with
      | none => none
      | some r => match P.underlying f.type with
        | none => none
        | some d => match leafOf d with
          | some q => some ((f.offset, q) :: r)
          | none => match d.isRow with
            | false => none
            | true => match P.info? f.type with
              | some i => match rec f.type with
                | some ls => match ls.all (fun o => Nat.blt o.1 i.size) with
                  | true => some (ls.map (fun o => (Nat.add f.offset o.1, o.2)) ++ r)
                  | false => none
                | none => none
              | none => none
noncomputable def eqLeaves (P : Program) : Nat → TypeId → Option (List (Nat × Nat))
  | 0, _ => none
  | n + 1, t => match P.underlying t with
    | some (.struct _) => match P.stoodInHeld t with
      | true => none
      | false => eqFieldsL P (eqLeaves P n) (P.fieldsOf t).toList
    | _ => none

noncomputable def mkB (b : Bool) : Bool := match b with
  | true => true
  | false => false
theorem mkB_eq (b : Bool) : mkB b = b := by cases b <;> rfl
noncomputable def eqAV (q : Nat) (a b : AV) : Option Bool := match q with
  | 0 => match a, b with
    | .int k x, .int j y => match kbeq k j with
      | true => some (mkB (eqI x y))
      | false => none
    | _, _ => none
  | 1 => match a, b with
    | .str l x, .str m y => some (mkB (strEq l x m y))
    | _, _ => none
  | _ => match a, b with
    | .bool x, .bool y => match x with
      | true => some (mkB y)
      | false => some (mkB (not y))
    | _, _ => none

noncomputable def eqCells (la lb : List AV) (ls : List (Nat × Nat)) : Option Bool := List.rec (some true) (fun o _ r => match la[o.1]? with
  | some a => match lb[o.1]? with
    | some b => match eqAV o.2 a b with
      | none => none
      | some c => match c with
        | false => some false
        | true => r
    | none => none
  | none => none) ls

theorem eqAV_ok {P : Program} {w : World} {d : Nat} {t : TypeId} {x : TypeDesc} {q : Nat} (hu : P.underlying t = some x) (hx : leafOf x = some q) {μ : Mu} {a b : AV} {va vb : Value} (ha : VRel μ a va) (hb : VRel μ b vb) {r : Bool}
    (h : eqAV q a b = some r) : (Op.equalIn (d + 1) t va vb).run P w = .ok r w := by
  unfold leafOf at hx
  split at hx
  · cases hx
    unfold eqAV at h
    simp only at h
    split at h
    case h_2 => cases h
    split at h
    case h_2 => cases h
    rename_i hk
    obtain rfl := kbeq_eq.1 hk
    cases h
    cases ha; cases hb
    rw [mkB_eq, eqI_eq]
    exact run_equalIn_int w d t _ _ _ _ hu
  · cases hx
    unfold eqAV at h
    simp only at h
    split at h
    case h_2 => cases h
    cases h
    cases ha with | str s1 l n hl hb1 =>
    cases hb with | str s2 l' n' hl' hb2 =>
    subst hl hb1 hl' hb2
    rw [mkB_eq, run_equalIn_string w d t _ _ hu, bytes_toList, bytes_toList]
    have := strEq_eq s1.data.toList s2.data.toList
    simp only [Array.length_toList] at this
    exact congrArg (fun b => Result.ok b w) this.symm
  · cases hx
    unfold eqAV at h
    simp only at h
    split at h
    case h_2 => cases h
    cases ha; cases hb
    rw [run_equalIn_bool' w d t _ _ hu]
    split at h
    · cases h
      rw [mkB_eq, Bool.true_beq]
    · cases h
      rw [mkB_eq, Bool.false_beq]
  · cases hx

theorem eqCells_append (la lb : List AV) (r : List (Nat × Nat)) : ∀ ls : List (Nat × Nat), eqCells la lb (ls ++ r) = (match eqCells la lb ls with
    | none => none
    | some c => match c with
      | false => some false
      | true => eqCells la lb r)
  | [] => rfl
  | o :: ls => by
    have e1 : ∀ m : List (Nat × Nat), eqCells la lb (o :: m) = match la[o.1]? with
      | some a => match lb[o.1]? with
        | some b => match eqAV o.2 a b with
          | none => none
          | some c => match c with
            | false => some false
            | true => eqCells la lb m
        | none => none
      | none => none := fun m => rfl
    rw [List.cons_append, e1, e1, eqCells_append la lb r ls]
    cases la[o.1]? with
    | none => rfl
    | some a =>
      dsimp only
      cases lb[o.1]? with
      | none => rfl
      | some b =>
        dsimp only
        cases eqAV o.2 a b with
        | none => rfl
        | some c => cases c <;> rfl

/-- Within a part the cells lie as in the whole. -/
theorem eqCells_part (la lb : List AV) (off n : Nat) : ∀ ls : List (Nat × Nat), ls.all (fun o => Nat.blt o.1 n) = true →
    eqCells la lb (ls.map fun o => (Nat.add off o.1, o.2)) = eqCells ((la.drop off).take n) ((lb.drop off).take n) ls
  | [], _ => rfl
  | o :: ls, h => by
    rw [List.all_cons, Bool.and_eq_true] at h
    have hlt : o.1 < n := by have := h.1; rw [Nat.blt_eq] at this; exact this
    have e1 : ∀ (l m : List AV) (o : Nat × Nat) (k : List (Nat × Nat)), eqCells l m (o :: k) = match l[o.1]? with
      | some a => match m[o.1]? with
        | some b => match eqAV o.2 a b with
          | none => none
          | some c => match c with
            | false => some false
            | true => eqCells l m k
        | none => none
      | none => none := fun l m o k => rfl
    have e2 : ∀ l : List AV, ((l.drop off).take n)[o.1]? = l[Nat.add off o.1]? := fun l => by
      rw [List.getElem?_take, if_pos hlt, List.getElem?_drop]; rfl
    rw [List.map_cons, e1, e1, e2, e2, eqCells_part la lb off n ls h.2]

theorem run_part_row {P : Program} {w : World} {t : TypeId} {d : TypeDesc} {i : TypeInfo} (hu : P.underlying t = some d) (hd : d.isRow = true) (hi : P.info? t = some i) (xs : Array Value) (off : Nat) :
    (part t xs off).run P w = .ok (.agg (xs.extract off (off + i.size))) w := by
  simp only [part, Sem.run_bind, run_isAgg hu, Result.andThen_ok, hd]
  simp [sizeOf, typeInfo, hi]
theorem run_part_cell {P : Program} {w : World} {t : TypeId} {d : TypeDesc} (hu : P.underlying t = some d) (hd : d.isRow = false) {xs : Array Value} {off : Nat} {v : Value} (hv : xs[off]? = some v) :
    (part t xs off).run P w = .ok v w := by
  simp only [part, Sem.run_bind, run_isAgg hu, Result.andThen_ok, hd]
  simp [hv]
theorem leaf_flat {d : TypeDesc} {q : Nat} (h : leafOf d = some q) : d.isRow = false := by
  unfold leafOf at h
  split at h <;> first | rfl | cases h

/-- A struct's '==' is its cells'. -/
def EqIs (P : Program) (rec : TypeId → Option (List (Nat × Nat))) (k : Nat) : Prop := ∀ (t : TypeId) (ls : List (Nat × Nat)), rec t = some ls → ∀ (μ : Mu) (la lb : List AV) (xs ys : Array Value) (r : Bool) (w : World) (d : Nat),
  k ≤ d → VRels μ la xs.toList → VRels μ lb ys.toList → eqCells la lb ls = some r → (Op.equalIn d t (.agg xs) (.agg ys)).run P w = .ok r w

theorem eqFieldsL_ok {P : Program} {rec : TypeId → Option (List (Nat × Nat))} {k : Nat} (hrec : EqIs P rec k) : ∀ (fs : List Field) (ls : List (Nat × Nat)), eqFieldsL P rec fs = some ls → ∀ (μ : Mu) (la lb : List AV) (xs ys : Array Value) (r : Bool) (w : World) (d : Nat),
    k ≤ d → 1 ≤ d → VRels μ la xs.toList → VRels μ lb ys.toList → eqCells la lb ls = some r → (Op.eqFields d xs ys fs).run P w = .ok r w
  | [], ls, h, μ, la, lb, xs, ys, r, w, d, hk, hd, ha, hb, hr => by
    cases h
    cases hr
    rfl
  | f :: fs, ls, h, μ, la, lb, xs, ys, r, w, d, hk, hd1, ha, hb, hr => by
    unfold eqFieldsL at h
    split at h
    · rename_i hn
      have hn' : f.name = "_" := by simpa using hn
      unfold Op.eqFields
      rw [if_neg (by simp [hn'])]
      exact eqFieldsL_ok hrec fs ls h μ la lb xs ys r w d hk hd1 ha hb hr
    · rename_i hn
      have hn' : f.name ≠ "_" := by simpa using hn
      split at h
      · cases h
      rename_i rs hrs
      split at h
      · cases h
      rename_i td hu
      unfold Op.eqFields
      rw [if_pos hn']
      have cont : ∀ r, eqCells la lb rs = some r → (Op.eqFields d xs ys fs).run P w = .ok r w := fun r hr => eqFieldsL_ok hrec fs rs hrs μ la lb xs ys r w d hk hd1 ha hb hr
      split at h
      · rename_i q hq
        cases h
        have hr' : (match la[f.offset]? with
          | some a => match lb[f.offset]? with
            | some b => match eqAV q a b with
              | none => none
              | some c => match c with
                | false => some false
                | true => eqCells la lb rs
            | none => none
          | none => none) = some r := hr
        split at hr'
        case h_2 => cases hr'
        rename_i a hla
        split at hr'
        case h_2 => cases hr'
        rename_i b hlb
        split at hr'
        · cases hr'
        rename_i c hc
        obtain ⟨va, a1, a2⟩ := ha.get _ _ hla
        obtain ⟨vb, b1, b2⟩ := hb.get _ _ hlb
        obtain ⟨d', rfl⟩ : ∃ d', d = d' + 1 := ⟨d - 1, by omega⟩
        rw [Sem.run_bind, run_part_cell hu (leaf_flat hq) (v := va) (by simpa using a1), Result.andThen_ok, Sem.run_bind, run_part_cell hu (leaf_flat hq) (v := vb) (by simpa using b1), Result.andThen_ok,
          Sem.run_bind, eqAV_ok hu hq a2 b2 hc, Result.andThen_ok]
        split at hr'
        · cases hr'; rfl
        · exact cont r hr'
      · split at h
        · cases h
        rename_i hrow
        split at h
        case h_2 => cases h
        rename_i i hi
        split at h
        case h_2 => cases h
        rename_i ls1 hls1
        split at h
        case h_2 => cases h
        rename_i hall
        cases h
        rw [eqCells_append, eqCells_part la lb f.offset i.size ls1 hall] at hr
        have ext : ∀ (l : List AV) (zs : Array Value), VRels μ l zs.toList → VRels μ ((l.drop f.offset).take i.size) (zs.extract f.offset (f.offset + i.size)).toList := fun l zs hz => by
          have e1 : (zs.extract f.offset (f.offset + i.size)).toList = (zs.toList.drop f.offset).take i.size := by
            rw [Array.toList_extract, List.extract_eq_take_drop]; simp
          rw [e1]; exact (hz.drop _).take _
        have sub : ∀ c, eqCells ((la.drop f.offset).take i.size) ((lb.drop f.offset).take i.size) ls1 = some c →
            (Op.equalIn d f.type (.agg (xs.extract f.offset (f.offset + i.size))) (.agg (ys.extract f.offset (f.offset + i.size)))).run P w = .ok c w := fun c hc =>
          hrec f.type ls1 hls1 μ _ _ _ _ c w d hk (ext la xs ha) (ext lb ys hb) hc
        rw [Sem.run_bind, run_part_row hu hrow hi, Result.andThen_ok, Sem.run_bind, run_part_row hu hrow hi, Result.andThen_ok, Sem.run_bind]
        generalize hc : eqCells ((la.drop f.offset).take i.size) ((lb.drop f.offset).take i.size) ls1 = c at hr sub
        cases c with
        | none => cases hr
        | some c =>
          rw [sub c rfl, Result.andThen_ok]
          cases c with
          | false => cases hr; rfl
          | true => exact cont r hr

theorem eqLeaves_ok {P : Program} : ∀ n, EqIs P (eqLeaves P n) (n + 1)
  | 0 => fun t ls h => by cases h
  | n + 1 => fun t ls h μ la lb xs ys r w d hk ha hb hr => by
    unfold eqLeaves at h
    split at h
    case h_2 => cases h
    rename_i fields hu
    split at h
    · cases h
    rename_i hs
    obtain ⟨d', rfl⟩ : ∃ d', d = d' + 1 := ⟨d - 1, by omega⟩
    have hu' : P.underlying t = some (.struct (P.fieldsOf t)) := by unfold Program.fieldsOf; rw [hu]
    rw [run_equalIn_agg w d' t xs ys hu' hs]
    exact eqFieldsL_ok (eqLeaves_ok n) _ _ h μ la lb xs ys r w d' (by omega) (by omega) ha hb hr

noncomputable def opEqSt (neg : Bool) (ls : List (Nat × Nat)) (x y : Opd) : Run := fun t s => match ev t x with
  | some (.agg la) => match ev t y with
    | some (.agg lb) => match eqCells la lb ls with
      | some b => match neg with
        | true => some (.bool (not b), s)
        | false => some (.bool b, s)
      | none => none
    | _ => none
  | _ => none
theorem opEqSt_ok {P : Program} {o : Oper} {tx ty : TypeId} {x y : Operand} {x' y' : Opd} {neg : Bool} {ls : List (Nat × Nat)} (ho : o.op = .binOp (if neg then .neq else .eql) tx x y ty) (hm : P.eqGuardType P.depth tx = false)
    (hl : eqLeaves P 8 tx = some ls) (hx : copd x = some x') (hy : copd y = some y') : OpSound P o (opEqSt neg ls x' y') :=
  .pure_ fun μ N t s w a v s' hf ht _ => by
    unfold opEqSt at hf
    split at hf
    case h_2 => cases hf
    rename_i la hla
    split at hf
    case h_2 => cases hf
    rename_i lb hlb
    split at hf
    case h_2 => cases hf
    rename_i b hb
    have pa := ev_ok ht hx hla
    generalize hea : a.eval x = va at pa
    cases pa with | agg la xs h1 o1 =>
    have pb := ev_ok ht hy hlb
    generalize heb : a.eval y = vb at pb
    cases pb with | agg lb ys h2 o2 =>
    have he := eqLeaves_ok 8 tx ls hl μ la lb xs ys b w 10000 (by omega) h1 h2 hb
    cases neg with
    | true =>
      cases hf
      refine ⟨rfl, .bool (!b), ?_, .bool _⟩
      simp only [if_true] at ho
      simp only [execOp, ho, hea, heb, Sem.run_bind, run_eqGuard_agg w _ tx x y xs ys hm, Result.andThen_ok, run_neq_struct w tx xs ys, he]
      rfl
    | false =>
      cases hf
      refine ⟨rfl, .bool b, ?_, .bool _⟩
      simp only [Bool.false_eq_true, if_false] at ho
      simp only [execOp, ho, hea, heb, Sem.run_bind, run_eqGuard_agg w _ tx x y xs ys hm, Result.andThen_ok, run_eql_struct w tx xs ys, he]
      rfl

/-! ### 'min', 'max' of two whole numbers -/
noncomputable def opMin (x y : Opd) : Run := fun t s => match ev t x with
  | some (.int k a) => match ev t y with
    | some (.int j b) => match kbeq k j with
      | true => match ltI b a with
        | true => some (.int k b, s)
        | false => some (.int k a, s)
      | false => none
    | _ => none
  | _ => none
noncomputable def opMax (x y : Opd) : Run := fun t s => match ev t x with
  | some (.int k a) => match ev t y with
    | some (.int j b) => match kbeq k j with
      | true => match ltI a b with
        | true => some (.int k b, s)
        | false => some (.int k a, s)
      | false => none
    | _ => none
  | _ => none
theorem opMin_ok {P : Program} {o : Oper} {t1 t2 : TypeId} {x y : Operand} {x' y' : Opd} (ho : o.op = .call { callee := .builtin .min, args := #[x, y], argTypes := #[t1, t2] })
    (hx : copd x = some x') (hy : copd y = some y') : OpSound P o (opMin x' y') :=
  .pure_ fun μ N t s w a v s' hf ht hR => by
    unfold opMin at hf
    split at hf
    case h_2 => cases hf
    rename_i k n hv
    split at hf
    case h_2 => cases hf
    rename_i j m hv'
    split at hf
    case h_2 => cases hf
    rename_i hk
    obtain rfl := kbeq_eq.1 hk
    have pa := ev_ok ht hx hv
    generalize hea : a.eval x = va at pa
    cases pa
    have pb := ev_ok ht hy hv'
    generalize heb : a.eval y = vb at pb
    cases pb
    have e : v = .int k (if m < n then m else n) ∧ s' = s := by
      rw [ltI_eq] at hf
      split at hf <;> rename_i hl <;> cases hf
      · rw [if_pos (by simpa using hl)]; exact ⟨rfl, rfl⟩
      · rw [if_neg (by simpa using hl)]; exact ⟨rfl, rfl⟩
    obtain ⟨rfl, rfl⟩ := e
    exact ⟨rfl, .int k (if m < n then m else n), run_builtin (vs := #[.int k n, .int k m]) Builtin.min_ ho (fun _ => rfl) (by simp [hea, heb]) (run_min_int2 w _ _ k k n m), .int _ _⟩
theorem opMax_ok {P : Program} {o : Oper} {t1 t2 : TypeId} {x y : Operand} {x' y' : Opd} (ho : o.op = .call { callee := .builtin .max, args := #[x, y], argTypes := #[t1, t2] })
    (hx : copd x = some x') (hy : copd y = some y') : OpSound P o (opMax x' y') :=
  .pure_ fun μ N t s w a v s' hf ht hR => by
    unfold opMax at hf
    split at hf
    case h_2 => cases hf
    rename_i k n hv
    split at hf
    case h_2 => cases hf
    rename_i j m hv'
    split at hf
    case h_2 => cases hf
    rename_i hk
    obtain rfl := kbeq_eq.1 hk
    have pa := ev_ok ht hx hv
    generalize hea : a.eval x = va at pa
    cases pa
    have pb := ev_ok ht hy hv'
    generalize heb : a.eval y = vb at pb
    cases pb
    have e : v = .int k (if m > n then m else n) ∧ s' = s := by
      rw [ltI_eq] at hf
      split at hf <;> rename_i hl <;> cases hf
      · rw [if_pos (by simpa using hl)]; exact ⟨rfl, rfl⟩
      · rw [if_neg (by simpa using hl)]; exact ⟨rfl, rfl⟩
    obtain ⟨rfl, rfl⟩ := e
    exact ⟨rfl, .int k (if m > n then m else n), run_builtin (vs := #[.int k n, .int k m]) Builtin.max_ ho (fun _ => rfl) (by simp [hea, heb]) (run_max_int2 w _ _ k k n m), .int _ _⟩

end Go.Abs
