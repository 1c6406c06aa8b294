/- Ranges over maps (one entry to choose from at most); arrays. -/
import Derived.Test.YtnhebanimmicaaaGreatDoorAbE
namespace Go.Abs

/-! ### a range over a map -/
noncomputable def opRange (x : Opd) : Run := fun t s => match ev t x with
  | some (.map b) => match s.heap.get b with
    | some (.map _ cl) => some (.ptr s.next 0, s.new (.iter (some b) cl [] cl))
    | _ => none
  | some .nilmap => some (.ptr s.next 0, s.new (.iter none 0 [] 0))
  | _ => none
theorem opRange_ok {P : Program} {o : Oper} {ti k e : TypeId} {x : Operand} {x' : Opd} (ho : o.op = .range ti x) (hu : P.underlying ti = some (.map k e)) (hx : copd x = some x') : OpSound P o (opRange x') := by
  intro μ N t s w a v s' hf ht hR hfree
  unfold opRange at hf
  split at hf
  · rename_i b hv
    split at hf
    case h_2 => cases hf
    rename_i es cl hb
    cases hf
    have hfs : μ s.next = none := hfree _ (Nat.le_refl _) (by show s.next.toNat < s.next.succ.toNat; rw [Pos.toNat_succ]; omega)
    have hp := ev_ok ht hx hv
    generalize he : a.eval x = vc at hp
    cases hp with | map b c d e' hm =>
    obtain ⟨b', d2, t2, e1, e2⟩ := hR.blk _ _ hb
    rw [hm] at e1; cases e1
    obtain ⟨ces, hw, her⟩ := e2
    have hgo := MapKept.run_getObj_map (P := P) hw
    have := new_ok (o := .mapIter (some c) cl #[] cl) (x := .iter (some b) cl [] cl) (t := 0) hR hfs (fun μ' hle _ => ⟨rfl, some c, heap_alloc_new _ _, (fun h => by cases h), fun p hp => by cases hp; exact ⟨c, d, e', hle _ _ hm, rfl⟩⟩)
    refine ⟨_, .value (.pointer (some ⟨w.heap.size, 0, none⟩)), _, ?_, .inr ⟨_, rfl, .ptr _ _ _ _ _ (Mu.set_same _ _ _)⟩, this.1, this.2⟩
    simp [execOp, ho, he, Instr.range, run_underlying hu, hgo]
  · rename_i hv
    cases hf
    have hfs : μ s.next = none := hfree _ (Nat.le_refl _) (by show s.next.toNat < s.next.succ.toNat; rw [Pos.toNat_succ]; omega)
    have hp := ev_ok ht hx hv
    generalize he : a.eval x = vc at hp
    cases hp
    have := new_ok (o := .mapIter none 0 #[] 0) (x := .iter none 0 [] 0) (t := 0) hR hfs (fun μ' hle _ => ⟨rfl, none, heap_alloc_new _ _, fun _ => rfl, fun p hp => by cases hp⟩)
    refine ⟨_, .value (.pointer (some ⟨w.heap.size, 0, none⟩)), _, ?_, .inr ⟨_, rfl, .ptr _ _ _ _ _ (Mu.set_same _ _ _)⟩, this.1, this.2⟩
    simp [execOp, ho, he, Instr.range, run_underlying hu]
  · cases hf

theorem nbeq (a b : Nat) : Nat.beq a b = (a == b) := by rw [Bool.eq_iff_iff, Nat.beq_eq, beq_iff_eq]
noncomputable def memN (x : Nat) (l : List Nat) : Bool := List.rec false (fun y _ r => or (Nat.beq x y) r) l
theorem memN_eq (x : Nat) : ∀ l : List Nat, memN x l = l.contains x
  | [] => rfl
  | y :: l => by
    have h : memN x (y :: l) = (Nat.beq x y || memN x l) := rfl
    have e : Nat.beq x y = (x == y) := nbeq _ _
    rw [h, memN_eq x l, List.contains_cons, e]
/-- What has not come yet. -/
noncomputable def leftL (seen : List Nat) (es : List (AV × AV × Nat)) : List (AV × AV × Nat) := List.rec [] (fun e _ r => match memN e.2.2 seen with
  | true => r
  | false => e :: r) es
noncomputable def allGe (last : Nat) (es : List (AV × AV × Nat)) : Bool := List.rec true (fun e _ r => and (Nat.ble last e.2.2) r) es
noncomputable def isNil {α : Type} (l : List α) : Bool := match l with
  | [] => true
  | _ :: _ => false
theorem leftL_cons (seen : List Nat) (e : AV × AV × Nat) (es : List (AV × AV × Nat)) : leftL seen (e :: es) = (match memN e.2.2 seen with
  | true => leftL seen es
  | false => e :: leftL seen es) := rfl
theorem leftL_ok {μ : Mu} {seen : List Nat} : ∀ {es : List (AV × AV × Nat)} {ces : List MapEntry}, ERels μ es ces → ERels μ (leftL seen es) (ces.filter fun e => !seen.toArray.contains e.born)
  | _, _, .nil => .nil
  | _, _, .cons (k := k) (v := v) (n := n) (e := e) (l := l) (l' := l') hk hv hn t => by
    rw [leftL_cons, List.filter_cons]
    have e1 : seen.toArray.contains e.born = memN n seen := by rw [memN_eq, hn]; simp
    rw [e1]
    have ih := leftL_ok (seen := seen) t
    show ERels μ (match memN n seen with
      | true => leftL seen l
      | false => (k, v, n) :: leftL seen l) _
    cases memN n seen with
    | true => simpa using ih
    | false => simpa using ERels.cons hk hv hn ih
theorem allGe_ok {μ : Mu} {last : Nat} : ∀ {es : List (AV × AV × Nat)} {ces : List MapEntry}, ERels μ es ces → (ces.all fun e => decide (e.born ≥ last)) = allGe last es
  | _, _, .nil => rfl
  | _, _, .cons (k := k) (v := v) (n := n) (e := e) (l := l) (l' := l') hk hv hn t => by
    have h : allGe last ((k, v, n) :: l) = (Nat.ble last n && allGe last l) := rfl
    rw [List.all_cons, allGe_ok t, h, hn]
    congr 1
    rw [Bool.eq_iff_iff, decide_eq_true_eq, Nat.ble_eq]
theorem ERels.isNil {μ : Mu} {es : List (AV × AV × Nat)} {ces : List MapEntry} (h : ERels μ es ces) : ces.isEmpty = Go.Abs.isNil es := by cases h <;> rfl

noncomputable def opNext (x : Opd) : Run := fun t s => match ev t x with
  | some (.ptr p o) => match o with
    | 0 => match s.heap.get p with
      | some (.iter m since seen last) => match m with
        | none => some (.tup [.bool false], s)
        | some b => match s.heap.get b with
          | some (.map es cl) => match and (not (isNil seen)) (and (not (isNil es)) (allGe last es)) with
            | true => none
            | false => match leftL seen es with
              | [] => some (.tup [.bool false], s)
              | e :: r => match r with
                | [] => match Nat.blt e.2.2 since with
                  | true => some (.tup [.bool true, e.1, e.2.1], s.upd p none (.iter (some b) since (seen ++ [e.2.2]) cl))
                  | false => none
                | _ :: _ => none
          | _ => none
      | _ => none
    | _ + 1 => none
  | _ => none
theorem opNext_ok {P : Program} {o : Oper} {x : Operand} {x' : Opd} (ho : o.op = .next x false) (hx : copd x = some x') : OpSound P o (opNext x') := by
  intro μ N t s w a v s' hf ht hR hfree
  unfold opNext at hf
  split at hf
  case h_2 => cases hf
  rename_i p oo hv
  split at hf
  case h_2 => cases hf
  split at hf
  case h_2 => cases hf
  rename_i m since seen last hp
  have hpv := ev_ok ht hx hv
  generalize he : a.eval x = vc at hpv
  cases hpv with | ptr p oo c d e' hm =>
  obtain ⟨c', d', t', e1, e2⟩ := hR.blk _ _ hp
  rw [hm] at e1; cases e1
  obtain ⟨rfl, mm, hw, hn1, hn2⟩ := e2
  split at hf
  · cases hf
    obtain rfl := hn1 rfl
    refine ⟨μ, .value (.tuple #[.bool false]), w, ?_, .inr ⟨_, rfl, .tup _ _ (.cons (.bool _) .nil)⟩, hR, .refl _ _ _⟩
    simp [execOp, ho, he, Instr.next, getObj, Sem.run, hw]
  rename_i b
  obtain ⟨cm, dm, tm, hmb, rfl⟩ := hn2 b rfl
  split at hf
  case h_2 => cases hf
  rename_i es cl hb
  obtain ⟨b', d2, t2, e1, e2⟩ := hR.blk _ _ hb
  rw [hmb] at e1; cases e1
  obtain ⟨ces, hwm, her⟩ := e2
  split at hf
  · cases hf
  rename_i hcond
  have hc2 : (!seen.toArray.isEmpty && !ces.isEmpty && ces.all (fun e => decide (e.born ≥ last))) = false := by
    have q1 : seen.toArray.isEmpty = isNil seen := by cases seen <;> rfl
    have q2 : ces.isEmpty = isNil es := by rw [← her.isNil, Array.isEmpty_toList]
    have q3 : ces.all (fun e => decide (e.born ≥ last)) = allGe last es := by rw [← allGe_ok her, Array.all_toList]
    rw [q1, q2, q3, ← hcond]
    cases isNil seen <;> cases isNil es <;> rfl
  have hl := leftL_ok (seen := seen) her
  have hfl : (ces.filter fun e => !seen.toArray.contains e.born).toList = ces.toList.filter fun e => !seen.toArray.contains e.born := Array.toList_filter ..
  rw [← hfl] at hl
  generalize hL : (ces.filter fun e => !seen.toArray.contains e.born) = L at hl
  split at hf
  · rename_i hle
    cases hf
    rw [hle] at hl
    have hL0 : L = #[] := by
      obtain ⟨L⟩ := L
      cases hl; rfl
    refine ⟨μ, .value (.tuple #[.bool false]), w, ?_, .inr ⟨_, rfl, .tup _ _ (.cons (.bool _) .nil)⟩, hR, .refl _ _ _⟩
    subst hL0
    simp only [execOp, ho, he, Instr.next, getObj, Sem.run_bind, Sem.run, hw, hwm, Result.andThen, hc2, hL, Bool.false_eq_true, if_false]
    simp [choose, Sem.run, Question.forced]
  · rename_i e r hle
    split at hf
    case h_2 => cases hf
    split at hf
    case h_2 => cases hf
    rename_i hlt
    cases hf
    rw [hle] at hl
    obtain ⟨E, hL0, k1, k2, k3⟩ : ∃ E, L = #[E] ∧ VRel μ e.1 E.key ∧ VRel μ e.2.1 E.val ∧ e.2.2 = E.born := by
      obtain ⟨L⟩ := L
      obtain ⟨a1, a2, a3⟩ := e
      cases hl with
      | cons hk hv hn t => cases t; exact ⟨_, rfl, hk, hv, hn⟩
    subst hL0
    have hlt' : E.born < since := by rw [← k3]; simpa [Nat.blt_eq] using hlt
    have hset := MapKept.heap_set (o' := .mapIter (some cm) since ((seen ++ [e.2.2]).toArray) cl) hw
    have := upd_ok (w' := { w with heap := w.heap.setIfInBounds c (.mapIter (some cm) since ((seen ++ [e.2.2]).toArray) cl) }) (y := .iter (some b) since (seen ++ [e.2.2]) cl) hR hp hm (by simp) rfl rfl rfl (fun k hk => hset.2 k hk)
      ⟨rfl, some cm, hset.1, (fun h => by cases h), fun p hp => by cases hp; exact ⟨cm, dm, tm, hmb, rfl⟩⟩
    refine ⟨μ, .value (.tuple #[.bool true, E.key, E.val]), _, ?_, .inr ⟨_, rfl, .tup _ _ (.cons (.bool _) (.cons k1 (.cons k2 .nil)))⟩, this.1, this.2⟩
    have q1 : (#[E].filter fun x => decide (x.born < since)) = #[E] := by simp [hlt']
    have q2 : (#[E].filter fun x => decide (x.born ≥ since)) = #[] := by simp; omega
    have q3 : (seen ++ [e.2.2]).toArray = seen.toArray.push E.born := by simp [k3]
    simp only [execOp, ho, he, Instr.next, getObj, Sem.run_bind, Sem.run, hw, hwm, Result.andThen, hc2, hL, Bool.false_eq_true, if_false, q1, q2, q3]
    simp [choose, setObj, Sem.run, Question.forced, hw]

noncomputable def lastL (l : List Nat) : Option Nat := List.rec none (fun x _ r => match r with
  | none => some x
  | some y => some y) l
theorem lastL_eq : ∀ l : List Nat, lastL l = l.getLast?
  | [] => rfl
  | [x] => rfl
  | x :: y :: l => by
    have h : lastL (x :: y :: l) = (match lastL (y :: l) with
      | none => some x
      | some z => some z) := rfl
    rw [h, lastL_eq (y :: l), List.getLast?_cons_cons]
    cases hh : (y :: l).getLast? with
    | none => simp at hh
    | some z => rfl
noncomputable def findBorn (n : Nat) (es : List (AV × AV × Nat)) : Option (AV × AV) := List.rec none (fun e _ r => match Nat.beq e.2.2 n with
  | true => some (e.1, e.2.1)
  | false => r) es
theorem findBorn_ok {μ : Mu} {n : Nat} {k v : AV} : ∀ {es : List (AV × AV × Nat)} {ces : List MapEntry}, ERels μ es ces → findBorn n es = some (k, v) → ∃ e, ces.find? (·.born == n) = some e ∧ VRel μ k e.key ∧ VRel μ v e.val
  | _, _, .nil, h => by cases h
  | _, _, .cons (k := k') (v := v') (n := n') (e := e) (l := l) (l' := l') hk hv hn t, h => by
    have h' : (match Nat.beq n' n with
      | true => some (k', v')
      | false => findBorn n l) = some (k, v) := h
    have e1 : Nat.beq n' n = (e.born == n) := by rw [hn, nbeq]
    rw [List.find?_cons]
    rw [e1] at h'
    cases hb : e.born == n with
    | true => rw [hb] at h'; cases h'; exact ⟨e, rfl, hk, hv⟩
    | false => rw [hb] at h'; exact findBorn_ok t h'
noncomputable def opEntry (x : Opd) : Run := fun t s => match ev t x with
  | some (.ptr p o) => match o with
    | 0 => match s.heap.get p with
      | some (.iter m _ seen last) => match m with
        | none => none
        | some b => match lastL seen with
          | none => none
          | some n => match s.heap.get b with
            | some (.map es cl) => match Nat.beq cl last with
              | false => none
              | true => match findBorn n es with
                | none => none
                | some (k, v) => some (.tup [k, v], s)
            | _ => none
      | _ => none
    | _ + 1 => none
  | _ => none
theorem opEntry_ok {P : Program} {o : Oper} {x : Operand} {x' : Opd} (ho : o.op = .entry x) (hx : copd x = some x') : OpSound P o (opEntry x') :=
  .pure_ fun μ N t s w a v s' hf ht hR => by
    unfold opEntry at hf
    split at hf
    case h_2 => cases hf
    rename_i p oo hv
    split at hf
    case h_2 => cases hf
    split at hf
    case h_2 => cases hf
    rename_i m since seen last hp
    have hpv := ev_ok ht hx hv
    generalize he : a.eval x = vc at hpv
    cases hpv with | ptr p oo c d e' hm =>
    obtain ⟨c', d', t', e1, e2⟩ := hR.blk _ _ hp
    rw [hm] at e1; cases e1
    obtain ⟨rfl, mm, hw, hn1, hn2⟩ := e2
    split at hf
    · cases hf
    rename_i b
    obtain ⟨cm, dm, tm, hmb, rfl⟩ := hn2 b rfl
    split at hf
    · cases hf
    rename_i n hn
    split at hf
    case h_2 => cases hf
    rename_i es cl hb
    obtain ⟨b', d2, t2, e1, e2⟩ := hR.blk _ _ hb
    rw [hmb] at e1; cases e1
    obtain ⟨ces, hwm, her⟩ := e2
    split at hf
    · cases hf
    rename_i hcl
    obtain rfl := Nat.eq_of_beq_eq_true hcl
    split at hf
    · cases hf
    rename_i k v hk
    cases hf
    obtain ⟨E, q1, q2, q3⟩ := findBorn_ok her hk
    refine ⟨rfl, .tuple #[E.key, E.val], ?_, .tup _ _ (.cons q2 (.cons q3 .nil))⟩
    have q4 : ces.find? (·.born == n) = some E := by rw [← Array.find?_toList]; exact q1
    have q5 : seen.toArray.back? = some n := by rw [List.back?_toArray, ← lastL_eq, hn]
    simp [execOp, ho, he, Instr.entry, getObj, Sem.run, hw, hwm, q4, q5]

/-! ### arrays -/
noncomputable def opIndexAddrA (len es : Nat) (x i : Opd) : Run := fun t s => match ev t x with
  | some (.ptr b o) => match ev t i with
    | some (.int _ j) => match j with
      | .ofNat j => match Nat.blt j len with
        | true => some (.ptr b (litN (Nat.add o (Nat.mul j es))), s)
        | false => none
      | .negSucc _ => none
    | _ => none
  | _ => none
theorem opIndexAddrA_ok {P : Program} {o : Oper} {ti e : TypeId} {x i : Operand} {x' i' : Opd} {ie : TypeInfo} {es len : Nat} (ho : o.op = .indexAddr ti x i) (hu : P.underlying ti = some (.array len e)) (hi : P.info? e = some ie) (hes : ie.size = es)
    (hx : copd x = some x') (hii : copd i = some i') : OpSound P o (opIndexAddrA len es x' i') :=
  .pure_ fun μ N t s w a v s' hf ht hR => by
    unfold opIndexAddrA at hf
    split at hf
    case h_2 => cases hf
    rename_i b oo hv
    split at hf
    case h_2 => cases hf
    rename_i k j hv'
    have hb' := ev_ok ht hii hv'
    generalize he' : a.eval i = vc' at hb'
    cases hb'
    split at hf
    case h_2 => cases hf
    rename_i j
    split at hf
    case h_2 => cases hf
    rename_i hlt
    have hlt' : j < len := by simpa [Nat.blt_eq] using hlt
    cases hf
    have hp := ev_ok ht hx hv
    generalize he : a.eval x = vc at hp
    cases hp with | ptr b oo cb dd e' hm =>
    refine ⟨rfl, .pointer (some ⟨cb, dd + (oo + j * es), none⟩), ?_, by rw [litN_eq]; exact .ptr _ _ _ _ _ hm⟩
    have h1 : (0 : Int) ≤ Int.ofNat j ∧ Int.ofNat j < (len : Int) := ⟨Int.natCast_nonneg j, by simp only [Int.ofNat_eq_natCast]; omega⟩
    simp only [execOp, ho, he, he', Instr.indexAt, Instr.sureAddr, asIntOf, sizeOf, typeInfo, Sem.run_bind, Sem.run_pure, run_program, Result.andThen_ok, run_underlying hu, hi, Sem.run_ite, if_pos h1, Addr.add_mid, hes]
    simp [Nat.add_assoc]

theorem opBuildB_ok {P : Program} {o : Oper} {ti e : TypeId} {len : Nat} {ps : Array (Nat × Operand)} {ps' : List (Nat × Nat × Opd)} {z : List AV} {ie : TypeInfo} {es : Nat} (ho : o.op = .build ti ps) (hz : zcells P ti = some z)
    (hu : P.underlying ti = some (.array len e)) (hie : P.info? e = some ie) (hes : ie.size = es) (hp : cparts (fun i => some (i * es, es)) ps.toList = some ps') : OpSound P o (opBuild z ps') :=
  .pure_ fun μ N t s w a v s' hf ht _ => by
    unfold opBuild at hf
    split at hf
    case h_2 => cases hf
    rename_i l hl
    cases hf
    obtain ⟨i, zv, hi, hzv, hrel⟩ := zcells_ok hz
    have hc := cparts_ok hp
    obtain ⟨r', g1, g2, g3⟩ := fill_ok ht (fun i => some (i * es, es)) ps.toList ps' hc.1 hc.2 z zv.cells l (hrel μ).1 (hrel μ).2 hl
    refine ⟨rfl, .agg r', ?_, .agg _ _ g2 g3⟩
    have hb : P.built ti (ps.map fun (i, x) => (i, a.eval x)).toList = some r' := by
      unfold Program.built
      rw [hi, hu]
      simp only [hzv, hie, hes]
      have e1 : (ps.map fun (i, x) => (i, a.eval x)).toList = ps.toList.map fun p => (p.1, a.eval p.2) := by simp
      rw [e1]; exact g1
    simp only [execOp, ho, Sem.run_bind, run_build w ti _ _ hb, Result.andThen_ok]
    rfl
theorem opBuildA_ok {P : Program} {o : Oper} {ti e : TypeId} {len : Nat} {ps : Array (Nat × Operand)} {ps' : List (Nat × Nat × Opd)} {z : List AV} {ie : TypeInfo} {es : Nat} (ho : o.op = .build ti ps) (hz : zcells P ti = some z)
    (hu : P.underlying ti = some (.array len e)) (hie : P.info? e = some ie) (hes : ie.size = es) (hp : cparts (fun i => some (i * es, es)) ps.toList = some ps') : OpSound P o (opBuildS z ps') := by
  have hb := opBuildB_ok ho hz hu hie hes hp
  intro μ N t s w a v s' hf
  refine hb μ N t s w a v s' ?_
  unfold opBuildS at hf
  unfold opBuild
  split at hf
  case h_2 => cases hf
  rename_i l hl
  cases hf
  have := seqp_parts hl [] rfl
  simp only [List.nil_append] at this
  rw [this]

end Go.Abs
