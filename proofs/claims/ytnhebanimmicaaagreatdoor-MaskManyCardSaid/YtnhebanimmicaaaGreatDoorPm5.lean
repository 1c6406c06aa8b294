/- Maps; structs held against each other; texts of bytes; rows of zeros. -/
import Derived.Test.YtnhebanimmicaaaGreatDoorPm4
namespace Go.Abs

def pkeyEq (k e : V) : Option Bool := match k, e with
  | .str a, .str b => some (decide (a = b))
  | .int j a, .int j' b => if j = j' then some (decide (a = b)) else none
  | _, _ => none
theorem pkeyEq_sim {k e : V} {b : Bool} (h : pkeyEq k e = some b) : keyEq k.er e.er = some b := by
  unfold pkeyEq at h
  split at h
  · rename_i x y
    cases h
    have heq : strEq x.length (enc x) y.length (enc y) = decide (x = y) := by rw [strEq_eq, Bool.eq_iff_iff]; simp
    simp only [V.er, keyEq, heq]
  · split at h
    case isFalse => cases h
    rename_i hj; subst hj
    cases h
    have hd : ∀ a b : Int, eqI a b = decide (a = b) := fun a b => by rw [eqI_eq]; rfl
    simp only [V.er, keyEq, kbeq_eq.2 rfl, hd]
  · cases h
abbrev Ents := List (V × V × Nat)
noncomputable def erE (e : V × V × Nat) : AV × AV × Nat := (e.1.er, e.2.1.er, e.2.2)
def pfind (k : V) : Ents → Option (Option V)
  | [] => some none
  | e :: r => match pkeyEq k e.1 with
    | some true => some (some e.2.1)
    | some false => pfind k r
    | none => none
theorem pfind_sim {k : V} : ∀ {es : Ents} {r : Option V}, pfind k es = some r → findA k.er (es.map erE) = some (r.map V.er) ∧ ∀ v, r = some v → ∃ e ∈ es, e.2.1 = v
  | [], r, h => by cases h; exact ⟨rfl, fun v hv => by cases hv⟩
  | e :: es, r, h => by
    unfold pfind at h
    have hA : findA k.er ((e :: es).map erE) = (match keyEq k.er e.1.er with
      | some true => some (some e.2.1.er)
      | some false => findA k.er (es.map erE)
      | none => none) := rfl
    split at h
    · rename_i hk
      cases h
      rw [hA, pkeyEq_sim hk]
      exact ⟨rfl, fun v hv => by cases hv; exact ⟨e, List.mem_cons_self .., rfl⟩⟩
    · rename_i hk
      rw [hA, pkeyEq_sim hk]
      obtain ⟨h1, h2⟩ := pfind_sim h
      exact ⟨h1, fun v hv => by obtain ⟨x, q1, q2⟩ := h2 v hv; exact ⟨x, List.mem_cons_of_mem _ q1, q2⟩⟩
    · cases h
def pupd (k v : V) : Ents → Option (Option Ents)
  | [] => some none
  | e :: r => match pkeyEq k e.1 with
    | some true => some (some ((k, v, e.2.2) :: r))
    | some false => match pupd k v r with
      | some (some l) => some (some (e :: l))
      | some none => some none
      | none => none
    | none => none
theorem pupd_sim {k v : V} : ∀ {es : Ents} {r : Option Ents}, pupd k v es = some r → updA k.er v.er (es.map erE) = some (r.map (List.map erE)) ∧ ∀ l, r = some l → ∀ e ∈ l, e ∈ es ∨ (e.1 = k ∧ e.2.1 = v)
  | [], r, h => by cases h; exact ⟨rfl, fun v hv => by cases hv⟩
  | e :: es, r, h => by
    unfold pupd at h
    have hA : updA k.er v.er ((e :: es).map erE) = (match keyEq k.er e.1.er with
      | some true => some (some ((k.er, v.er, e.2.2) :: es.map erE))
      | some false => (match updA k.er v.er (es.map erE) with
        | some (some l) => some (some ((e.1.er, e.2.1.er, e.2.2) :: l))
        | some none => some none
        | none => none)
      | none => none) := rfl
    split at h
    · rename_i hk
      cases h
      rw [hA, pkeyEq_sim hk]
      refine ⟨rfl, fun l hl x hx => ?_⟩
      cases hl
      rcases List.mem_cons.1 hx with rfl | hx
      · exact .inr ⟨rfl, rfl⟩
      · exact .inl (List.mem_cons_of_mem _ hx)
    · rename_i hk
      rw [hA, pkeyEq_sim hk]
      split at h
      · rename_i l hl
        cases h
        obtain ⟨h1, h2⟩ := pupd_sim hl
        rw [h1]
        refine ⟨rfl, fun m hm x hx => ?_⟩
        cases hm
        rcases List.mem_cons.1 hx with rfl | hx
        · exact .inl (List.mem_cons_self ..)
        · exact (h2 l rfl x hx).imp (List.mem_cons_of_mem _) id
      · rename_i hl
        cases h
        obtain ⟨h1, _⟩ := pupd_sim hl
        rw [h1]
        exact ⟨rfl, fun m hm => by cases hm⟩
      · cases h
    · cases h

def pfits (d : TypeDesc) (k : V) : Bool := match d, k with
  | .string, .str _ => true
  | .int j, .int j' _ => decide (j' = j)
  | _, _ => false
theorem pfits_sim {d : TypeDesc} {k : V} (h : pfits d k = true) : fitsKey d k.er = true := by
  unfold pfits at h
  split at h
  · rfl
  · rw [decide_eq_true_eq] at h; subst h; exact kbeq_eq.2 rfl
  · cases h
def pMkmap : PRun := fun _ S => some (.map S.next, S.new (.map [] 0))
theorem wf_map {S : PSt} {a : Nat} : Wf S (.map a) := fun r hr => by cases hr
theorem pMkmap_sim : OpSim pMkmap opMkmap := fun T t S s v S' hf he hs hw => by
  cases hf
  refine ⟨_, ?_, hs.new (b := .map [] 0) rfl (fun v hv => by cases hv), hs.keepNew _, wf_map⟩
  unfold opMkmap
  rw [hs.next]; rfl
def pLookV (T : PEnv) (S : PSt) (kv : V) (x : POpd) : Option (Option V) := match pev T x with
  | some .nilmap => some none
  | some (.map a) => match S.heap a with
    | some (.map es _) => pfind kv es
    | _ => none
  | _ => none
def pLookup (d : TypeDesc) (z : V) (x k : POpd) (ok : Bool) : PRun := fun T S => match pev T k with
  | none => none
  | some kv => if pfits d kv = true then (match pLookV T S kv x with
    | none => none
    | some r => if ok = true then some (.tup [r.getD z, .bool r.isSome], S) else some (r.getD z, S)) else none
noncomputable def lookA (t : Env) (s : St) (kv : AV) (x : Opd) : Option (Option AV) := match ev t x with
  | some .nilmap => some none
  | some (.map b) => match s.heap.get b with
    | some (.map es _) => findA kv es
    | _ => none
  | _ => none
theorem opLookup_eq (d : TypeDesc) (z : AV) (x k : Opd) (ok : Bool) (t : Env) (s : St) : opLookup d z x k ok t s = (match ev t k with
  | none => none
  | some kv => match fitsKey d kv with
    | false => none
    | true => match lookA t s kv x with
      | none => none
      | some r => match ok with
        | false => match r with
          | some v => some (v, s)
          | none => some (z, s)
        | true => match r with
          | some v => some (.tup [v, .bool true], s)
          | none => some (.tup [z, .bool false], s)) := rfl
theorem pLookV_sim {T : PEnv} {t : Env} {S : PSt} {s : St} (he : ESim T t) (hs : Sim S s) {kv : V} {x : POpd} {r : Option V} (h : pLookV T S kv x = some r) : lookA t s kv.er x.toA = some (r.map V.er) ∧ ∀ v, r = some v → Wf S v := by
  unfold pLookV at h
  unfold lookA
  split at h
  · rename_i hx
    cases h
    rw [pev_sim he hx]
    exact ⟨rfl, fun v hv => by cases hv⟩
  · rename_i a hx
    split at h
    case h_2 => cases h
    rename_i es cl hb
    obtain ⟨y, h1, h2⟩ := hs.heap a _ hb
    have h2' : y = .map (es.map erE) cl := h2
    subst h2'
    obtain ⟨h3, h4⟩ := pfind_sim h
    rw [pev_sim he hx]
    simp only [V.er, h1, h3]
    refine ⟨trivial, fun v hv => ?_⟩
    obtain ⟨e, q1, q2⟩ := h4 v hv
    exact hs.wf a _ hb v (by
      show v ∈ es.flatMap fun e => [e.1, e.2.1]
      rw [List.mem_flatMap]; exact ⟨e, q1, by simp [q2]⟩)
  · cases h
theorem pLookup_sim {d : TypeDesc} {z : V} {x k : POpd} {ok : Bool} (hz : z.rows = []) : OpSim (pLookup d z x k ok) (opLookup d z.er x.toA k.toA ok) := .pure_ fun T t S s v S' hf he hs hw => by
  unfold pLookup at hf
  rw [opLookup_eq]
  split at hf
  · cases hf
  rename_i kv hk
  split at hf
  case isFalse => cases hf
  rename_i hfit
  split at hf
  · cases hf
  rename_i r hr
  obtain ⟨h1, h2⟩ := pLookV_sim he hs hr
  rw [pev_sim he hk]
  simp only [pfits_sim hfit, h1]
  have hwz : Wf S (r.getD z) := by
    cases r with
    | none => exact .of_none hz
    | some v => exact h2 v rfl
  cases ok with
  | true =>
    simp only [if_true] at hf
    cases hf
    refine ⟨rfl, ?_, .tup fun u hu => ?_⟩
    · cases r <;> rfl
    · rcases List.mem_cons.1 hu with rfl | hu
      · exact hwz
      · rw [List.mem_singleton] at hu; subst hu; exact wf_bool
  | false =>
    simp only [Bool.false_eq_true, if_false] at hf
    cases hf
    refine ⟨rfl, ?_, hwz⟩
    cases r <;> rfl
def PSt.setMap (S : PSt) (a : Nat) (es : Ents) (cl : Nat) : PSt := ⟨fun p => if p = a then some (.map es cl) else S.heap p, S.next⟩
theorem Sim.setMap {S : PSt} {s : St} (h : Sim S s) {a : Nat} {es0 es : Ents} {cl0 cl : Nat} (hb : S.heap a = some (.map es0 cl0)) (hw : ∀ e ∈ es, Wf S e.1 ∧ Wf S e.2.1) :
    Sim (S.setMap a es cl) (s.upd (Pos.of a) none (.map (es.map erE) cl)) ∧ Keep S (S.setMap a es cl) := by
  have hk : Keep S (S.setMap a es cl) := ⟨Nat.le_refl _, fun p c lk e => ⟨lk, by
    show (if p = a then _ else _) = _
    rw [if_neg (fun h => by rw [h, hb] at e; cases e)]; exact e⟩⟩
  refine ⟨⟨⟨h.next, fun p b e => ?_, fun p b e v hv => ?_⟩, fun p hp => ?_⟩, hk⟩
  · have e' : (if p = a then some (PB.map es cl) else S.heap p) = some b := e
    split at e'
    · rename_i hp; subst hp
      cases e'
      exact ⟨.map (es.map erE) cl, by show (s.heap.put (some _) (Pos.of p)).get (Pos.of p) = _; rw [T.get_put_same], rfl⟩
    · rename_i hp
      obtain ⟨y, k1, k2⟩ := h.heap p b e'
      exact ⟨y, by show (s.heap.put (some _) (Pos.of a)).get (Pos.of p) = _; rw [T.get_put_other _ _ (fun e => hp (Pos.of_inj e))]; exact k1, k2⟩
  · have e' : (if p = a then some (PB.map es cl) else S.heap p) = some b := e
    split at e'
    · cases e'
      have hv' : v ∈ es.flatMap fun e => [e.1, e.2.1] := hv
      rw [List.mem_flatMap] at hv'
      obtain ⟨x, q1, q2⟩ := hv'
      rcases List.mem_cons.1 q2 with rfl | q2
      · exact (hw x q1).1.keep hk
      · rw [List.mem_singleton] at q2; subst q2; exact (hw x q1).2.keep hk
    · exact (h.wf p b e' v hv).keep hk
  · show (if p = a then _ else _) = none
    have : p ≠ a := fun e => by subst e; rw [h.fresh p hp] at hb; cases hb
    rw [if_neg this]; exact h.fresh p hp
def pMapUpd (d : TypeDesc) (x k y : POpd) : PRun := fun T S => match pev T k with
  | none => none
  | some kv => if pfits d kv = true then (match pev T y with
    | none => none
    | some v => match pev T x with
      | some (.map a) => match S.heap a with
        | some (.map es cl) => match pupd kv v es with
          | none => none
          | some (some l) => some (.tup [], S.setMap a l cl)
          | some none => some (.tup [], S.setMap a (es ++ [(kv, v, cl)]) (cl + 1))
        | _ => none
      | _ => none) else none
theorem pMapUpd_sim {d : TypeDesc} {x k y : POpd} (hk : k.ok) (hy : y.ok) : OpSim (pMapUpd d x k y) (opMapUpd d x.toA k.toA y.toA) := fun T t S s v S' hf he hs hw => by
  unfold pMapUpd at hf
  unfold opMapUpd
  split at hf
  · cases hf
  rename_i kv hkv
  split at hf
  case isFalse => cases hf
  rename_i hfit
  split at hf
  · cases hf
  rename_i u hu
  split at hf
  case h_2 => cases hf
  rename_i a hx
  split at hf
  case h_2 => cases hf
  rename_i es cl hb
  have hwk := pev_wf hw hk hkv
  have hwu := pev_wf hw hy hu
  have hes : ∀ e ∈ es, Wf S e.1 ∧ Wf S e.2.1 := fun e he => by
    have hm : ∀ v ∈ [e.1, e.2.1], v ∈ es.flatMap fun e => [e.1, e.2.1] := fun v hv => by rw [List.mem_flatMap]; exact ⟨e, he, hv⟩
    exact ⟨hs.wf a _ hb _ (hm _ (by simp)), hs.wf a _ hb _ (hm _ (by simp))⟩
  obtain ⟨z, h1, h2⟩ := hs.heap a _ hb
  have h2' : z = .map (es.map erE) cl := h2
  subst h2'
  rw [pev_sim he hkv]
  simp only [pfits_sim hfit]
  rw [pev_sim he hu]
  simp only
  rw [pev_sim he hx]
  simp only [V.er, h1]
  split at hf
  · cases hf
  · rename_i l hl
    cases hf
    obtain ⟨q1, q2⟩ := pupd_sim hl
    have := hs.setMap (es := l) (cl := cl) hb (fun e he => (q2 l rfl e he).elim (hes e) (fun h => by rw [h.1, h.2]; exact ⟨hwk, hwu⟩))
    exact ⟨_, by rw [q1]; rfl, this.1, this.2, wf_tup0⟩
  · rename_i hl
    cases hf
    obtain ⟨q1, _⟩ := pupd_sim hl
    have := hs.setMap (es := es ++ [(kv, u, cl)]) (cl := cl + 1) hb (fun e he => by
      rw [List.mem_append] at he
      rcases he with he | he
      · exact hes e he
      · rw [List.mem_singleton] at he; subst he; exact ⟨hwk, hwu⟩)
    refine ⟨_, ?_, this.1, this.2, wf_tup0⟩
    rw [q1]
    simp only [Option.map_none, litN_eq, List.map_append]
    rfl

/-! ### structs held against each other -/
def peqV (q : Nat) (a b : V) : Option Bool := match q with
  | 0 => match a, b with
    | .int k x, .int j y => if k = j then some (decide (x = y)) else none
    | _, _ => none
  | 1 => match a, b with
    | .str x, .str y => some (decide (x = y))
    | _, _ => none
  | _ => match a, b with
    | .bool x, .bool y => some (x == y)
    | _, _ => none
theorem peqV_sim {q : Nat} {a b : V} {c : Bool} (h : peqV q a b = some c) : eqAV q a.er b.er = some c := by
  unfold peqV at h
  split at h
  · split at h
    case h_2 => cases h
    split at h
    case isFalse => cases h
    rename_i hk; subst hk
    cases h
    have hd : ∀ a b : Int, eqI a b = decide (a = b) := fun a b => by rw [eqI_eq]; rfl
    simp only [V.er, eqAV, kbeq_eq.2 rfl, hd, mkB_eq]
  · split at h
    case h_2 => cases h
    rename_i x y
    cases h
    have heq : strEq x.length (enc x) y.length (enc y) = decide (x = y) := by rw [strEq_eq, Bool.eq_iff_iff]; simp
    simp only [V.er, eqAV, heq, mkB_eq]
  · rename_i q h0 h1
    split at h
    case h_2 => cases h
    rename_i x y
    cases h
    have : ∀ n, n ≠ 0 → n ≠ 1 → eqAV n (.bool x) (.bool y) = some (x == y) := fun n h0 h1 => by
      match n, h0, h1 with
      | n + 2, _, _ => cases x <;> cases y <;> rfl
    exact this _ (fun e => h0 e) (fun e => h1 e)
def peqCells (la lb : List V) : List (Nat × Nat) → Option Bool
  | [] => some true
  | o :: r => match la[o.1]? with
    | some a => match lb[o.1]? with
      | some b => match peqV o.2 a b with
        | none => none
        | some c => if c = true then peqCells la lb r else some false
      | none => none
    | none => none
theorem peqCells_sim {la lb : List V} : ∀ {ls : List (Nat × Nat)} {c : Bool}, peqCells la lb ls = some c → eqCells (la.map V.er) (lb.map V.er) ls = some c
  | [], c, h => by cases h; rfl
  | o :: r, c, h => by
    unfold peqCells at h
    have hA : eqCells (la.map V.er) (lb.map V.er) (o :: r) = (match (la.map V.er)[o.1]? with
      | some a => match (lb.map V.er)[o.1]? with
        | some b => match eqAV o.2 a b with
          | none => none
          | some c => match c with
            | false => some false
            | true => eqCells (la.map V.er) (lb.map V.er) r
        | none => none
      | none => none) := rfl
    split at h
    case h_2 => cases h
    rename_i a ha
    split at h
    case h_2 => cases h
    rename_i b hb
    split at h
    · cases h
    rename_i c' hc
    rw [hA]
    simp only [List.getElem?_map, ha, hb, Option.map_some, peqV_sim hc]
    cases c' with
    | true => simp only [if_true] at h; exact peqCells_sim h
    | false => simp only [Bool.false_eq_true, if_false] at h; cases h; rfl
def pEqSt (neg : Bool) (ls : List (Nat × Nat)) (x y : POpd) : PRun := fun T S => match pev T x with
  | some (.agg la) => match pev T y with
    | some (.agg lb) => match peqCells la lb ls with
      | some b => some (.bool (if neg then !b else b), S)
      | none => none
    | _ => none
  | _ => none
theorem pEqSt_sim {neg : Bool} {ls : List (Nat × Nat)} {x y : POpd} : OpSim (pEqSt neg ls x y) (opEqSt neg ls x.toA y.toA) := .pure_ fun T t S s v S' hf he hs hw => by
  unfold pEqSt at hf
  unfold opEqSt
  split at hf
  case h_2 => cases hf
  rename_i la hx
  split at hf
  case h_2 => cases hf
  rename_i lb hy
  split at hf
  case h_2 => cases hf
  rename_i b hb
  cases hf
  have := peqCells_sim hb
  refine ⟨rfl, ?_, wf_bool⟩
  rw [pev_sim he hx]
  simp only [V.er, V.ers_eq]
  rw [pev_sim he hy]
  simp only [V.er, V.ers_eq, this]
  cases neg <;> cases b <;> rfl

/-! ### bytes to text -/
def pbytes : List V → Option (List UInt8)
  | [] => some []
  | v :: r => match v with
    | .int .u8 n => if 0 ≤ n ∧ n < 256 then (match pbytes r with
      | none => none
      | some l => some (n.toNat.toUInt8 :: l)) else none
    | _ => none
theorem pbytes_sim : ∀ {l : List V} {b : List UInt8}, pbytes l = some b → ∀ acc : Nat, encA (l.map V.er) acc = some (acc * 256 ^ b.length + enc b) ∧ b.length = l.length
  | [], b, h, acc => by cases h; exact ⟨by rw [enc_nil]; simp [encA_nil], rfl⟩
  | v :: r, b, h, acc => by
    unfold pbytes at h
    split at h
    case h_2 => cases h
    rename_i n
    split at h
    case isFalse => cases h
    rename_i hn
    split at h
    · cases h
    rename_i l hl
    cases h
    obtain ⟨m, rfl⟩ : ∃ m : Nat, n = Int.ofNat m := ⟨n.toNat, by simp only [Int.ofNat_eq_natCast]; omega⟩
    have hm : m < 256 := by have := hn.2; simp only [Int.ofNat_eq_natCast] at this; omega
    obtain ⟨h1, h2⟩ := pbytes_sim hl (acc * 256 + m)
    have hb : Nat.blt m 256 = true := by rw [Nat.blt_eq]; exact hm
    have ht : (Int.ofNat m).toNat.toUInt8.toNat = m := by
      show m.toUInt8.toNat = m
      simp; omega
    refine ⟨?_, by simp [h2]⟩
    rw [List.map_cons, V.er, encA_cons]
    simp only [hb, litN_eq]
    have e : Nat.add (Nat.mul acc 256) m = acc * 256 + m := rfl
    rw [e, h1, enc_cons, ht, List.length_cons, Nat.pow_succ]
    congr 1
    rw [Nat.add_mul, Nat.mul_assoc, Nat.mul_comm 256]
    omega
def pToStr (x : POpd) : PRun := fun T S => match pev T x with
  | some .nilrow => some (.str [], S)
  | some (.row _ _ len _ es xs) => if es = 1 ∧ xs.length = len then (match pbytes xs with
    | none => none
    | some b => some (.str b, S)) else none
  | _ => none
theorem pToStr_sim {x : POpd} (ho : x.ok) : OpSim (pToStr x) (opToStr x.toA) := .pure_ fun T t S s v S' hf he hs hw => by
  unfold pToStr at hf
  unfold opToStr
  split at hf
  · rename_i hx
    cases hf
    exact ⟨rfl, by rw [pev_sim he hx]; rfl, wf_str⟩
  · rename_i a o len cap es xs hx
    split at hf
    case isFalse => cases hf
    rename_i hc
    obtain ⟨rfl, hxl⟩ := hc
    split at hf
    · cases hf
    rename_i b hb
    cases hf
    obtain ⟨cs, lk, hrow, hp⟩ := wf_row (pev_wf hw ho hx)
    obtain ⟨c, n, m, h1, h2⟩ := hs.cells hrow (.inl ⟨lk, rfl⟩)
    have hrd : s.readN (Pos.of a) o len = some (xs.map V.er) := by
      rw [← hxl]
      have hlen := prefix_len hp
      unfold St.readN
      cases hx0 : xs.length with
      | zero => rw [List.eq_nil_of_length_eq_zero hx0]; rfl
      | succ j =>
        show s.read (Pos.of a) o (j + 1) = _
        rw [← hx0]
        unfold St.read
        rw [h1]
        simp only
        rw [holds_read h2 _ _ (by omega)]
        obtain ⟨r, hr⟩ := hp
        rw [← hr, List.take_left]
    obtain ⟨q1, q2⟩ := pbytes_sim hb 0
    refine ⟨rfl, ?_, wf_str⟩
    rw [pev_sim he hx]
    simp only [V.er, Nat.beq_refl, hrd, q1, Nat.zero_mul, Nat.zero_add]
    rw [← hxl, ← q2, mkStr_enc]
  · cases hf
end Go.Abs
