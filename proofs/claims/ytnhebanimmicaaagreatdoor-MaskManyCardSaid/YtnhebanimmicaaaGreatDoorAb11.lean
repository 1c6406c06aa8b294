/- Maps, nil tests, bytes to text, fields of values. -/
import Derived.Test.YtnhebanimmicaaaGreatDoorAb10
namespace Go.Abs

/-! ### maps -/
noncomputable def keyEq (k e : AV) : Option Bool := match k with
  | .str l a => match e with
    | .str l' b => some (strEq l a l' b)
    | _ => none
  | .int j a => match e with
    | .int j' b => match kbeq j j' with
      | true => some (eqI a b)
      | false => none
    | _ => none
  | _ => none
theorem bytes_beq (a b : ByteArray) : (a == b) = (a.data.toList == b.data.toList) := by
  have h : (a == b) = (a.data == b.data) := by cases a; cases b; rfl
  rw [h, Bool.eq_iff_iff, beq_iff_eq, beq_iff_eq]
  exact ⟨fun h => by rw [h], fun h => Array.ext' h⟩
theorem bytes_beq_comm (a b : ByteArray) : (a == b) = (b == a) := by
  rw [bytes_beq, bytes_beq, Bool.eq_iff_iff, beq_iff_eq, beq_iff_eq]
  exact ⟨fun h => h.symm, fun h => h.symm⟩
theorem keyEq_ok {μ : Mu} {k e : AV} {K E : Value} {d : TypeDesc} {b : Bool} (hk : VRel μ k K) (he : VRel μ e E) (hd : MapKept.IsKey d K) (h : keyEq k e = some b) : Instr.sameNow d K E = some b ∧ (b = true → Instr.sameBits 10000 E K = true) := by
  unfold keyEq at h
  split at h
  · split at h
    case h_2 => cases h
    cases hk with | str s1 l a hl hb =>
    cases he with | str s2 l' b' hl' hb' =>
    subst hl hb hl' hb'
    have hlx : s1.data.toList.length = s1.size := by simp
    have hly : s2.data.toList.length = s2.size := by simp
    have heq : strEq s1.size (enc s1.data.toList) s2.size (enc s2.data.toList) = (s1 == s2) := by rw [bytes_beq, ← strEq_eq, hlx, hly]
    cases h
    rw [heq]
    cases d <;> simp_all [MapKept.IsKey, Instr.sameNow, Instr.sameBits]
    intro h; rw [bytes_beq_comm]; exact h
  · split at h
    case h_2 => cases h
    split at h
    case h_2 => cases h
    rename_i hkk
    obtain rfl := kbeq_eq.1 hkk
    cases hk; cases he
    cases h
    rw [eqI_eq]
    cases d <;> simp_all [MapKept.IsKey, Instr.sameNow, Instr.sameBits]
  · cases h

noncomputable def findA (k : AV) (es : List (AV × AV × Nat)) : Option (Option AV) :=
  List.rec (some none) (fun e _ r => match e with
    | (e, v, _) => match keyEq k e with
      | some true => some (some v)
      | some false => r
      | none => none) es
theorem findA_cons (k e v : AV) (n : Nat) (es : List (AV × AV × Nat)) : findA k ((e, v, n) :: es) = match keyEq k e with
      | some true => some (some v)
      | some false => findA k es
      | none => none := rfl
theorem findA_ok {μ : Mu} {k : AV} {K : Value} {d : TypeDesc} (hk : VRel μ k K) (hd : MapKept.IsKey d K) : ∀ {es : List (AV × AV × Nat)} {es' : List MapEntry}, ERels μ es es' → ∀ {r : Option AV}, findA k es = some r → ∀ i,
    (r = none ∧ Instr.findNow d K es' i = some none) ∨ ∃ v j V, r = some v ∧ Instr.findNow d K es' i = some (some (j, V)) ∧ VRel μ v V
  | _, _, .nil, r, h, i => by cases h; exact .inl ⟨rfl, rfl⟩
  | _, _, .cons (k := e) (v := v) (n := n) (e := E) (l := es) (l' := es') he hv hn t, r, h, i => by
    rw [findA_cons] at h
    split at h
    · rename_i hq
      have hq' := keyEq_ok hk he hd hq
      cases h
      exact .inr ⟨v, i, E.val, rfl, by simp [Instr.findNow, hq'.1], hv⟩
    · rename_i hq
      have hq' := keyEq_ok hk he hd hq
      have ih := findA_ok hk hd t h (i + 1)
      simpa [Instr.findNow, hq'.1] using ih
    · cases h

noncomputable def updA (k v : AV) (es : List (AV × AV × Nat)) : Option (Option (List (AV × AV × Nat))) :=
  List.rec (some none) (fun e es r => match e with
    | (e, u, n) => match keyEq k e with
      | some true => some (some ((k, v, n) :: es))
      | some false => match r with
        | some (some l) => some (some ((e, u, n) :: l))
        | some none => some none
        | none => none
      | none => none) es
theorem updA_cons (k v e u : AV) (n : Nat) (es : List (AV × AV × Nat)) : updA k v ((e, u, n) :: es) = match keyEq k e with
      | some true => some (some ((k, v, n) :: es))
      | some false => match updA k v es with
        | some (some l) => some (some ((e, u, n) :: l))
        | some none => some none
        | none => none
      | none => none := rfl
theorem updA_ok {μ : Mu} {k v : AV} {K V : Value} {d : TypeDesc} (hk : VRel μ k K) (hv : VRel μ v V) (hd : MapKept.IsKey d K) : ∀ {es : List (AV × AV × Nat)} {es' : List MapEntry}, ERels μ es es' → ∀ {r : Option (List (AV × AV × Nat))}, updA k v es = some r → ∀ i,
    (r = none ∧ Instr.findNow d K es' i = some none) ∨
    ∃ l j U E, r = some l ∧ Instr.findNow d K es' i = some (some (i + j, U)) ∧ es'[j]? = some E ∧ Instr.sameBits 10000 E.key K = true ∧ ERels μ l (es'.modify j fun e => { e with key := K, val := V })
  | _, _, .nil, r, h, i => by cases h; exact .inl ⟨rfl, rfl⟩
  | _, _, .cons (k := e) (v := u) (n := n) (e := E) (l := es) (l' := es') he hu hn t, r, h, i => by
    rw [updA_cons] at h
    split at h
    · rename_i hq
      have hq' := keyEq_ok hk he hd hq
      cases h
      exact .inr ⟨_, 0, E.val, E, rfl, by simp [Instr.findNow, hq'.1], rfl, hq'.2 rfl, .cons hk hv hn t⟩
    · rename_i hq
      have hq' := keyEq_ok hk he hd hq
      split at h
      · rename_i l hl
        cases h
        rcases updA_ok hk hv hd t hl (i + 1) with ⟨h1, _⟩ | ⟨l2, j, U, E2, h1, h2, h3, h4, h5⟩
        · cases h1
        · cases h1
          exact .inr ⟨_, j + 1, U, E2, rfl, by simp only [Instr.findNow, hq'.1, h2]; congr 3; omega, by simpa using h3, h4, by simpa using ERels.cons he hu hn h5⟩
      · rename_i hl
        cases h
        rcases updA_ok hk hv hd t hl (i + 1) with ⟨h1, h2⟩ | ⟨l2, j, U, E2, h1, _⟩
        · exact .inl ⟨rfl, by simpa [Instr.findNow, hq'.1] using h2⟩
        · cases h1
      · cases h
    · cases h
theorem ERels.length {μ : Mu} : ∀ {a : List (AV × AV × Nat)} {b : List MapEntry}, ERels μ a b → a.length = b.length
  | _, _, .nil => rfl
  | _, _, .cons _ _ _ t => by simp [t.length]
theorem ERels.push {μ : Mu} {k v : AV} {n : Nat} {e : MapEntry} (hk : VRel μ k e.key) (hv : VRel μ v e.val) (hn : n = e.born) : ∀ {a : List (AV × AV × Nat)} {b : List MapEntry}, ERels μ a b → ERels μ (a ++ [(k, v, n)]) (b ++ [e])
  | _, _, .nil => .cons hk hv hn .nil
  | _, _, .cons h1 h2 h3 t => .cons h1 h2 h3 (t.push hk hv hn)

/-- Is a type one of those whose values are held against each other at once? -/
def keyType : TypeDesc → Bool
  | .string | .int _ => true
  | _ => false
/-- Is a value one of a type? -/
noncomputable def fitsKey (d : TypeDesc) (k : AV) : Bool := match d with
  | .string => match k with
    | .str _ _ => true
    | _ => false
  | .int j => match k with
    | .int j' _ => kbeq j' j
    | _ => false
  | _ => false
theorem fitsKey_ok {μ : Mu} {d : TypeDesc} {k : AV} {K : Value} (h : VRel μ k K) (hf : fitsKey d k = true) : MapKept.IsKey d K := by
  unfold fitsKey at hf
  split at hf
  · split at hf
    · cases h; trivial
    · cases hf
  · split at hf
    · cases h; exact kbeq_eq.1 hf
    · cases hf
  · cases hf

noncomputable def opMkmap : Run := fun _ s => some (.map s.next, s.new (.map [] 0))
theorem opMkmap_ok {P : Program} {o : Oper} {ti k e : TypeId} {r : Option Operand} (ho : o.op = .makeMap ti r) (hu : P.underlying ti = some (.map k e)) (hr : r = none ∨ ∃ kk n, r = some (.const (.int kk n))) : OpSound P o opMkmap := by
  intro μ N t s w a v s' hf ht hR hfree
  cases hf
  have hfs : μ s.next = none := hfree _ (Nat.le_refl _) (by show s.next.toNat < s.next.succ.toNat; rw [Pos.toNat_succ]; omega)
  have := new_ok (o := .map #[] 0) (x := .map [] 0) (t := 0) hR hfs (fun μ' _ _ => ⟨#[], heap_alloc_new _ _, .nil⟩)
  refine ⟨_, .value (.map (some w.heap.size)), _, ?_, .inr ⟨_, rfl, .map _ _ _ _ (Mu.set_same _ _ _)⟩, this.1, this.2⟩
  rcases hr with rfl | ⟨kk, n, rfl⟩
  · simp [execOp, ho, Instr.makeMap]
  · simp [execOp, ho, Instr.makeMap, Act.eval, run_underlying hu, asInt, asIntOf]

noncomputable def opLookup (d : TypeDesc) (z : AV) (x k : Opd) (ok : Bool) : Run := fun t s => match ev t k with
  | none => none
  | some kv => match fitsKey d kv with
    | false => none
    | true => match (match ev t x with
        | some .nilmap => some none
        | some (.map b) => match s.heap.get b with
          | some (.map es _) => findA kv es
          | _ => none
        | _ => none) with
      | none => none
      | some r => match ok with
        | false => match r with
          | some v => some (v, s)
          | none => some (z, s)
        | true => match r with
          | some v => some (.tup [v, .bool true], s)
          | none => some (.tup [z, .bool false], s)
theorem opLookup_ok {P : Program} {o : Oper} {ti k e : TypeId} {x y : Operand} {x' y' : Opd} {d : TypeDesc} {ok : Bool} {ie : TypeInfo} {zv : Value} {z : AV} (ho : o.op = .lookup ti x y ok) (hu : P.underlying ti = some (.map k e)) (hk : P.underlying k = some d)
    (hie : P.info? e = some ie) (hzv : ie.zero = some zv) (hz : cval 5 zv = some z) (hx : copd x = some x') (hy : copd y = some y') : OpSound P o (opLookup d z x' y' ok) :=
  .pure_ fun μ N t s w a v s' hf ht hR => by
    unfold opLookup at hf
    split at hf
    case h_1 => cases hf
    rename_i kv hkv
    split at hf
    case h_1 => cases hf
    rename_i hfit
    have hpk := ev_ok ht hy hkv
    have hik := fitsKey_ok hpk hfit
    split at hf
    case h_1 => cases hf
    rename_i r hr
    have hzr : VRel μ z zv := cval_ok μ 5 zv z hz
    have hmain : ∃ V, VRel μ (match r with | some v => v | none => z) V ∧ ∀ okk : Bool, (Instr.lookup ti (a.eval x) (a.eval y) okk).run P w = .ok (if okk then .tuple #[V, .bool r.isSome] else V) w := by
      split at hr
      · rename_i hv
        have hp := ev_ok ht hx hv
        generalize a.eval x = vc at hp
        cases hp; cases hr
        refine ⟨zv, hzr, fun okk => ?_⟩
        have hck := MapKept.run_checkKey (P := P) (w := w) hk hik true 9999
        have hfk := MapKept.run_findKey (P := P) (w := w) (k := a.eval y) (l := []) (a := none) hk rfl
        simp [Instr.lookup, run_underlying hu, hck, hfk, zeroValue, typeInfo, hie, hzv]
      · rename_i b hv
        have hp := ev_ok ht hx hv
        generalize a.eval x = vc at hp
        cases hp with | map b c d' e' hm =>
        split at hr
        case h_2 => cases hr
        rename_i es cl hb
        obtain ⟨b', d2, t2, e1, e2⟩ := hR.blk _ _ hb
        rw [hm] at e1; cases e1
        obtain ⟨ces, hw, her⟩ := e2
        have hck := MapKept.run_checkKey (P := P) (w := w) hk hik ces.isEmpty 9999
        have hgo := MapKept.run_getObj_map (P := P) hw
        rcases findA_ok hpk hik her hr 0 with ⟨h1, h2⟩ | ⟨v0, j, V, h1, h2, h3⟩
        · subst h1
          refine ⟨zv, hzr, fun okk => ?_⟩
          have hfk := MapKept.run_findKey (P := P) (w := w) hk h2
          simp [Instr.lookup, run_underlying hu, hgo, hck, hfk, zeroValue, typeInfo, hie, hzv]
        · subst h1
          refine ⟨V, h3, fun okk => ?_⟩
          have hfk := MapKept.run_findKey (P := P) (w := w) hk h2
          simp [Instr.lookup, run_underlying hu, hgo, hck, hfk]
      · cases hr
    obtain ⟨V, hV, hrun⟩ := hmain
    have hexec : (execOp a.eval o).run P w = .ok (.value (if ok then .tuple #[V, .bool r.isSome] else V)) w := by
      simp only [execOp, ho, Sem.run_bind, hrun, Result.andThen_ok]; rfl
    cases ok with
    | false => cases r <;> cases hf <;> exact ⟨rfl, _, hexec, hV⟩
    | true => cases r <;> cases hf <;> exact ⟨rfl, _, hexec, .tup _ _ (.cons hV (.cons (.bool _) .nil))⟩

noncomputable def opMapUpd (d : TypeDesc) (x k y : Opd) : Run := fun t s => match ev t k with
  | none => none
  | some kv => match fitsKey d kv with
    | false => none
    | true => match ev t y with
      | none => none
      | some v => match ev t x with
        | some (.map b) => match s.heap.get b with
          | some (.map es cl) => match updA kv v es with
            | none => none
            | some (some l) => some (.tup [], s.upd b none (.map l cl))
            | some none => some (.tup [], s.upd b none (.map (es ++ [(kv, v, cl)]) (litN (Nat.succ cl))))
          | _ => none
        | _ => none
theorem opMapUpd_ok {P : Program} {o : Oper} {ti k e : TypeId} {x y u : Operand} {x' y' u' : Opd} {d : TypeDesc} (ho : o.op = .mapUpdate ti x y u ∨ o.op = .insert ti x y u) (hu : P.underlying ti = some (.map k e)) (hk : P.underlying k = some d)
    (hx : copd x = some x') (hy : copd y = some y') (hz : copd u = some u') : OpSound P o (opMapUpd d x' y' u') := by
  intro μ N t s w a v s' hf ht hR hfree
  unfold opMapUpd at hf
  split at hf
  case h_1 => cases hf
  rename_i kv hkv
  split at hf
  case h_1 => cases hf
  rename_i hfit
  have hpk := ev_ok ht hy hkv
  have hik := fitsKey_ok hpk hfit
  split at hf
  case h_1 => cases hf
  rename_i uv huv
  have hpu := ev_ok ht hz huv
  split at hf
  case h_2 => cases hf
  rename_i b hv
  have hp := ev_ok ht hx hv
  generalize he : a.eval x = vc at hp
  cases hp with | map b c d' e' hm =>
  split at hf
  case h_2 => cases hf
  rename_i es cl hb
  obtain ⟨b', d2, t2, e1, e2⟩ := hR.blk _ _ hb
  rw [hm] at e1; cases e1
  obtain ⟨ces, hw, her⟩ := e2
  have hlt : c < w.heap.size := (Array.getElem?_eq_some_iff.1 hw).1
  have hck := MapKept.run_checkKey (P := P) (w := w) hk hik false 9999
  have hgo := MapKept.run_getObj_map (P := P) hw
  have fin : ∀ (ces' : Array MapEntry) (cl' : Nat) (l : List (AV × AV × Nat)), ERels μ l ces'.toList → (Instr.mapUpdate ti (.map (some c)) (a.eval y) (a.eval u)).run P w = .ok () { w with heap := w.heap.setIfInBounds c (.map ces' cl') } →
      v = .tup [] → s' = s.upd b none (.map l cl') →
      ∃ μ' nx w', (execOp a.eval o).run P w = .ok nx w' ∧ ((nx = .skip ∧ v = .tup []) ∨ ∃ v', nx = .value v' ∧ VRel μ' v v') ∧ R μ' s' w' ∧ Ext μ s w μ' s' w' := by
    intro ces' cl' l hrel hrun hv0 hs0
    subst hv0 hs0
    have hset := MapKept.heap_set (o' := .map ces' cl') hw
    have := upd_ok (w' := { w with heap := w.heap.setIfInBounds c (.map ces' cl') }) (y := .map l cl') hR hb hm (by simp) rfl rfl rfl (fun k hk => hset.2 k hk) ⟨ces', hset.1, hrel⟩
    refine ⟨μ, .skip, _, ?_, .inl ⟨rfl, rfl⟩, this.1, this.2⟩
    rcases ho with ho | ho <;> simp only [execOp, ho, he, Sem.run_bind, hrun, Result.andThen_ok] <;> rfl
  split at hf
  · cases hf
  · rename_i l hl
    cases hf
    rcases updA_ok hpk hpu hik her hl 0 with ⟨h1, _⟩ | ⟨l2, j, U, E, h1, h2, h3, h4, h5⟩
    · cases h1
    · cases h1
      have hfk := MapKept.run_findKey (P := P) (w := w) hk h2
      rw [Nat.zero_add] at hfk
      have hE : ces[j]? = some E := by simpa using h3
      refine fin (ces.modify j fun e => { e with key := a.eval y, val := a.eval u }) cl _ ?_ ?_ rfl rfl
      · have : (ces.modify j fun e => { e with key := a.eval y, val := a.eval u }).toList = ces.toList.modify j (fun e => { e with key := a.eval y, val := a.eval u }) := by
          apply List.ext_getElem?
          intro q
          simp [List.getElem?_modify]
        rw [this]; exact h5
      · simp [Instr.mapUpdate, run_underlying hu, hgo, hck, hfk, Instr.keyThatStays, hE, h4, MapKept.run_setObj_map _ hw]
  · rename_i hl
    cases hf
    rcases updA_ok hpk hpu hik her hl 0 with ⟨_, h2⟩ | ⟨l2, j, U, E, h1, _⟩
    · have hfk := MapKept.run_findKey (P := P) (w := w) hk h2
      rw [litN_eq]
      refine fin (ces.push { key := a.eval y, val := a.eval u, born := cl }) (cl + 1) _ ?_ ?_ rfl rfl
      · rw [Array.toList_push]; exact ERels.push (e := { key := a.eval y, val := a.eval u, born := cl }) hpk hpu rfl her
      · simp [Instr.mapUpdate, run_underlying hu, hgo, hck, hfk, MapKept.run_setObj_map _ hw]
    · cases h1

/-! ### against nil -/
/-- sort: 0 slices, 1 maps, 2 pointers, 3 functions. -/
noncomputable def nilEq (sort : Nat) (x y : AV) : Option Bool := match sort with
  | 0 => match x with
    | .nilslice => match y with
      | .nilslice => some true
      | .slice _ _ _ _ _ => some false
      | _ => none
    | .slice _ _ _ _ _ => match y with
      | .nilslice => some false
      | _ => none
    | _ => none
  | 1 => match x with
    | .nilmap => match y with
      | .nilmap => some true
      | .map _ => some false
      | _ => none
    | .map _ => match y with
      | .nilmap => some false
      | _ => none
    | _ => none
  | 2 => match x with
    | .nilptr => match y with
      | .nilptr => some true
      | .ptr _ _ => some false
      | _ => none
    | .ptr _ _ => match y with
      | .nilptr => some false
      | _ => none
    | _ => none
  | _ => match x with
    | .nilfn => match y with
      | .nilfn => some true
      | .fn _ _ => some false
      | _ => none
    | .fn _ _ => match y with
      | .nilfn => some false
      | _ => none
    | _ => none
def nilSort : TypeDesc → Option Nat
  | .slice _ => some 0
  | .map _ _ => some 1
  | .pointer _ => some 2
  | .func _ _ _ => some 3
  | _ => none
theorem nilEq_ok {P : Program} {w : World} {μ : Mu} {t : TypeId} {d : TypeDesc} {n : Nat} {x y : AV} {x' y' : Value} {b : Bool} (hu : P.underlying t = some d) (hn : nilSort d = some n) (hx : VRel μ x x') (hy : VRel μ y y') (h : nilEq n x y = some b) :
    (Op.equal t x' y').run P w = .ok b w ∧ (∀ l, x' ≠ .agg l) ∧ x' ≠ .nilIface ∧ (∀ k i, x' ≠ .int k i) ∧ (∀ s, x' ≠ .string s) ∧ (∀ k n, x' ≠ .float k n) ∧ (∀ k a b, x' ≠ .complex k a b) := by
  unfold Op.equal
  rw [show Op.maxDepth = 9999 + 1 from rfl, Op.equalIn]
  rw [Sem.run_bind, run_underlying hu, Result.andThen_ok]
  unfold nilEq at h
  cases d <;> cases hn
  all_goals
    cases hx <;> cases hy <;> cases h <;> exact ⟨rfl, nofun, nofun, nofun, nofun, nofun, nofun⟩

noncomputable def opEqNil (sort : Nat) (neg : Bool) (x y : Opd) : Run := fun t s => match ev t x with
  | none => none
  | some a => match ev t y with
    | none => none
    | some b => match nilEq sort a b with
      | none => none
      | some true => match neg with
        | true => some (.bool false, s)
        | false => some (.bool true, s)
      | some false => match neg with
        | true => some (.bool true, s)
        | false => some (.bool false, s)
theorem opEqNil_ok {P : Program} {o : Oper} {tx ty : TypeId} {x y : Operand} {x' y' : Opd} {neg : Bool} {d : TypeDesc} {n : Nat} (ho : o.op = .binOp (if neg then .neq else .eql) tx x y ty) (hu : P.underlying tx = some d) (hn : nilSort d = some n)
    (hx : copd x = some x') (hy : copd y = some y') : OpSound P o (opEqNil n neg x' y') :=
  .pure_ fun μ N t s w a v s' hf ht _ => by
    unfold opEqNil at hf
    split at hf
    case h_1 => cases hf
    rename_i av hav
    split at hf
    case h_1 => cases hf
    rename_i bv hbv
    have ha := ev_ok ht hx hav
    have hb := ev_ok ht hy hbv
    have key : ∀ q, nilEq n av bv = some q → (execOp a.eval o).run P w = .ok (.value (.bool (if neg then !q else q))) w := by
      intro q hq
      obtain ⟨h1, h2, h3, h4, h5, h6, h7⟩ := nilEq_ok (w := w) hu hn ha hb hq
      have hbin : (binOp (if neg then .neq else .eql) tx (a.eval x) (a.eval y)).run P w = .ok (.bool (if neg then !q else q)) w := by
        generalize a.eval x = X at *
        generalize a.eval y = Y at *
        cases neg <;> cases X <;> first
          | exact absurd rfl (h2 _)
          | exact absurd rfl h3
          | exact absurd rfl (h4 _ _)
          | exact absurd rfl (h5 _)
          | exact absurd rfl (h6 _ _)
          | exact absurd rfl (h7 _ _ _)
          | (cases Y <;> simp [binOp, h1])
      simp only [execOp, ho, Sem.run_bind, run_guard_plain ⟨h2, h3⟩, Result.andThen_ok, hbin, Sem.run_pure]
    split at hf
    · cases hf
    · rename_i hq
      have := key _ hq
      cases neg <;> cases hf <;> exact ⟨rfl, _, this, .bool _⟩
    · rename_i hq
      have := key _ hq
      cases neg <;> cases hf <;> exact ⟨rfl, _, this, .bool _⟩

end Go.Abs
