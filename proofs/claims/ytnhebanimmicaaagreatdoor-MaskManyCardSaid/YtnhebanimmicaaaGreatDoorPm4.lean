/- Slices of slices and of texts, literals, append, maps. -/
import Derived.Test.YtnhebanimmicaaaGreatDoorPm3
namespace Go.Abs

def pevN (T : PEnv) (x : POpd) : Option Nat := match pev T x with
  | some (.int _ n) => if 0 ≤ n then some n.toNat else none
  | _ => none
theorem pevN_sim {T : PEnv} {t : Env} (h : ESim T t) {x : POpd} {n : Nat} (hv : pevN T x = some n) : evN t x.toA = some n := by
  unfold pevN at hv
  split at hv
  case h_2 => cases hv
  rename_i k m hx
  split at hv
  case isFalse => cases hv
  rename_i hm
  cases hv
  obtain ⟨j, rfl⟩ : ∃ j : Nat, m = Int.ofNat j := ⟨m.toNat, by simp only [Int.ofNat_eq_natCast]; omega⟩
  unfold evN
  rw [pev_sim h hx]
  rfl
/-- From where to where. -/
def pHi (T : PEnv) (len top : Nat) : Option POpd → Option Nat
  | none => some len
  | some x => match pevN T x with
    | some h => if h ≤ len ∧ h ≤ top then some h else none
    | none => none
def pLo (T : PEnv) (h : Nat) : Option POpd → Option Nat
  | none => some 0
  | some x => match pevN T x with
    | some l => if l ≤ h then some l else none
    | none => none
def pBounds (T : PEnv) (len top : Nat) (lo hi : Option POpd) : Option (Nat × Nat) := match pHi T len top hi with
  | none => none
  | some h => match pLo T h lo with
    | none => none
    | some l => some (l, h)
noncomputable def toAo : Option POpd → Option Opd
  | none => none
  | some x => some x.toA
noncomputable def bHi (t : Env) (len top : Nat) (hi : Option Opd) : Option Nat := match hi with
  | none => some len
  | some x => match evN t x with
    | some h => match Nat.ble h top with
      | true => some h
      | false => none
    | none => none
noncomputable def bLo (t : Env) (h : Nat) (lo : Option Opd) : Option (Nat × Nat × Option Nat) := match lo with
  | none => some (0, h, none)
  | some x => match evN t x with
    | some l => match Nat.ble l h with
      | true => some (l, h, none)
      | false => none
    | none => none
theorem bounds_none (t : Env) (len top : Nat) (lo hi : Option Opd) : bounds t len top lo hi none = (match bHi t len top hi with
  | none => none
  | some h => bLo t h lo) := by
  unfold bounds bHi bLo
  cases hi <;> cases lo <;> rfl
theorem pBounds_sim {T : PEnv} {t : Env} (he : ESim T t) {len top : Nat} {lo hi : Option POpd} {l h : Nat} (hb : pBounds T len top lo hi = some (l, h)) : bounds t len top (toAo lo) (toAo hi) none = some (l, h, none) ∧ l ≤ h ∧ h ≤ len := by
  unfold pBounds at hb
  split at hb
  · cases hb
  rename_i h' hh
  split at hb
  · cases hb
  rename_i l' hl
  cases hb
  have h1 : h ≤ len ∧ bHi t len top (toAo hi) = some h := by
    cases hi with
    | none => cases hh; exact ⟨Nat.le_refl _, rfl⟩
    | some x =>
      have hh' : (match pevN T x with
        | some h => if h ≤ len ∧ h ≤ top then some h else none
        | none => none) = some h := hh
      split at hh'
      case h_2 => cases hh'
      rename_i k hk
      split at hh'
      case isFalse => cases hh'
      rename_i hc
      cases hh'
      have hb : Nat.ble h top = true := Nat.ble_eq_true_of_le hc.2
      refine ⟨hc.1, ?_⟩
      simp only [toAo, bHi, pevN_sim he hk, hb]
  have h2 : l ≤ h ∧ bLo t h (toAo lo) = some (l, h, none) := by
    cases lo with
    | none => cases hl; exact ⟨Nat.zero_le _, rfl⟩
    | some x =>
      have hl' : (match pevN T x with
        | some l => if l ≤ h then some l else none
        | none => none) = some l := hl
      split at hl'
      case h_2 => cases hl'
      rename_i k hk
      split at hl'
      case isFalse => cases hl'
      rename_i hc
      cases hl'
      have hb : Nat.ble l h = true := Nat.ble_eq_true_of_le hc
      refine ⟨hc, ?_⟩
      simp only [toAo, bLo, pevN_sim he hk, hb]
  refine ⟨?_, h2.1, h1.1⟩
  rw [bounds_none, h1.2]
  exact h2.2

def pSliceS (es : Nat) (x : POpd) (lo hi : Option POpd) : PRun := fun T S => match pev T x with
  | some (.row a o len cap es' xs) => if es' = es then (match pBounds T len (cap.getD len) lo hi with
    | none => none
    | some (l, h) => some (.row a (o + l * es) (h - l) (cap.map (· - l)) es ((xs.drop (l * es)).take ((h - l) * es)), S)) else none
  | some .nilrow => match pBounds T 0 0 lo hi with
    | none => none
    | some _ => some (.nilrow, S)
  | _ => none
theorem pSliceS_sim {es : Nat} {x : POpd} {lo hi : Option POpd} (ho : x.ok) : OpSim (pSliceS es x lo hi) (opSliceS es x.toA (toAo lo) (toAo hi) none) := .pure_ fun T t S s v S' hf he hs hw => by
  unfold pSliceS at hf
  unfold opSliceS
  split at hf
  · rename_i a o len cap es' xs hx
    split at hf
    case isFalse => cases hf
    rename_i hes; subst hes
    split at hf
    · cases hf
    rename_i l h hb
    cases hf
    obtain ⟨hb1, hb2, hb3⟩ := pBounds_sim he hb
    obtain ⟨cs, lk, hrow, hp⟩ := wf_row (pev_wf hw ho hx)
    refine ⟨rfl, ?_, wf_row_mk hrow ((List.take_prefix _ _).trans (prefix_drop hp _))⟩
    rw [pev_sim he hx]
    cases cap with
    | none =>
      have hb1' : bounds t len len (toAo lo) (toAo hi) none = some (l, h, none) := hb1
      simp only [V.er, Nat.beq_refl, hb1', litN_eq]
      rfl
    | some c =>
      have hb1' : bounds t len c (toAo lo) (toAo hi) none = some (l, h, none) := hb1
      simp only [V.er, Nat.beq_refl, hb1', litN_eq]
      rfl
  · rename_i hx
    split at hf
    · cases hf
    rename_i r hb
    cases hf
    obtain ⟨hb1, _⟩ := pBounds_sim he hb
    refine ⟨rfl, ?_, fun r hr => by cases hr⟩
    rw [pev_sim he hx]
    simp only [V.er, hb1]
  · cases hf
def pSliceStr (x : POpd) (lo hi : Option POpd) : PRun := fun T S => match pev T x with
  | some (.str s) => match pBounds T s.length s.length lo hi with
    | none => none
    | some (l, h) => some (.str ((s.take h).drop l), S)
  | _ => none
theorem pSliceStr_sim {x : POpd} {lo hi : Option POpd} : OpSim (pSliceStr x lo hi) (opSliceStr x.toA (toAo lo) (toAo hi)) := .pure_ fun T t S s v S' hf he hs hw => by
  unfold pSliceStr at hf
  unfold opSliceStr
  split at hf
  case h_2 => cases hf
  rename_i b hx
  split at hf
  · cases hf
  rename_i l h hb
  cases hf
  obtain ⟨hb1, hb2, hb3⟩ := pBounds_sim he hb
  refine ⟨rfl, ?_, wf_str⟩
  rw [pev_sim he hx]
  have hl : ((b.take h).drop l).length = h - l := by simp; omega
  have e := enc_sub b l h hb3
  have e2 : Nat.mod (Nat.div (enc b) (Nat.pow 256 (Nat.sub b.length h))) (Nat.pow 256 (Nat.sub h l)) = enc ((b.take h).drop l) := e.symm
  simp only [V.er, hb1, e2]
  rw [show Nat.sub h l = ((b.take h).drop l).length from hl.symm, mkStr_enc]

/-! ### literals -/
noncomputable def toAp (l : List (Nat × Nat × POpd)) : List (Nat × Nat × Opd) := l.map fun p => (p.1, p.2.1, p.2.2.toA)
def okP (l : List (Nat × Nat × POpd)) : Prop := ∀ p ∈ l, p.2.2.ok
def pseqp (T : PEnv) : List (Nat × Nat × POpd) → Nat → List V → Option (List V)
  | [], _, zs => some zs
  | (off, size, x) :: r, pos, zs => match pev T x with
    | none => none
    | some v => if v.solid = true ∧ v.cells.length = size ∧ pos ≤ off ∧ off - pos + size ≤ zs.length then (match pseqp T r (off + size) (zs.drop (off - pos + size)) with
      | none => none
      | some l => some (zs.take (off - pos) ++ (v.cells ++ l))) else none
theorem pseqp_sim {S : PSt} {T : PEnv} {t : Env} (he : ESim T t) (hw : EWf S T) : ∀ {ps : List (Nat × Nat × POpd)} {pos : Nat} {zs r : List V}, okP ps → (∀ v ∈ zs, Wf S v) → pseqp T ps pos zs = some r →
    seqp t (toAp ps) pos (zs.map V.er) = some (r.map V.er) ∧ ∀ v ∈ r, Wf S v
  | [], pos, zs, r, _, hz, h => by cases h; exact ⟨rfl, hz⟩
  | (off, size, x) :: ps, pos, zs, r, ho, hz, h => by
    unfold pseqp at h
    split at h
    · cases h
    rename_i v hv
    split at h
    case isFalse => cases h
    rename_i hc
    obtain ⟨h1, h2, h3, h4⟩ := hc
    split at h
    · cases h
    rename_i l hl
    cases h
    obtain ⟨q1, q2⟩ := pseqp_sim he hw (fun p hp => ho p (List.mem_cons_of_mem _ hp)) (fun u hu => hz u (List.mem_of_mem_drop hu)) hl
    have hox : x.ok := ho (off, size, x) (List.mem_cons_self ..)
    refine ⟨?_, fun u hu => ?_⟩
    · show seqp t ((off, size, x.toA) :: toAp ps) pos (zs.map V.er) = _
      unfold seqp
      rw [pev_sim he hv]
      have b1 : Nat.beq (v.cells.map V.er).length size = true := by rw [List.length_map, h2]; exact Nat.beq_refl _
      have b2 : Nat.ble pos off = true := Nat.ble_eq_true_of_le h3
      have b3 : Nat.ble (Nat.add (Nat.sub off pos) size) (zs.map V.er).length = true := Nat.ble_eq_true_of_le (by rw [List.length_map]; exact h4)
      simp only [V.er_solid, h1, V.er_cells, b1, b2, b3, Bool.and_self, litN_eq]
      have e : (zs.map V.er).drop (Nat.add (Nat.sub off pos) size) = (zs.drop (off - pos + size)).map V.er := by rw [List.map_drop]; rfl
      have e2 : Nat.add off size = off + size := rfl
      rw [e, e2, q1]
      simp only [List.map_append, List.map_take]
      have e3 : Nat.sub off pos = off - pos := rfl
      rw [e3]
      cases off - pos with
      | zero => simp
      | succ g => rfl
    · rw [List.mem_append, List.mem_append] at hu
      rcases hu with hu | hu | hu
      · exact hz u (List.mem_of_mem_take hu)
      · exact (pev_wf hw hox hv).cells u hu
      · exact q2 u hu
def pparts (T : PEnv) : List (Nat × Nat × POpd) → List V → Option (List V)
  | [], cs => some cs
  | (off, size, x) :: r, cs => match pev T x with
    | some v => if v.solid = true ∧ v.cells.length = size ∧ off + size ≤ cs.length then pparts T r (putL cs off v.cells) else none
    | none => none
theorem pparts_sim {S : PSt} {T : PEnv} {t : Env} (he : ESim T t) (hw : EWf S T) : ∀ {ps : List (Nat × Nat × POpd)} {zs r : List V}, okP ps → (∀ v ∈ zs, Wf S v) → pparts T ps zs = some r →
    parts t (toAp ps) (zs.map V.er) = some (r.map V.er) ∧ ∀ v ∈ r, Wf S v
  | [], zs, r, _, hz, h => by cases h; exact ⟨rfl, hz⟩
  | (off, size, x) :: ps, zs, r, ho, hz, h => by
    unfold pparts at h
    split at h
    case h_2 => cases h
    rename_i v hv
    split at h
    case isFalse => cases h
    rename_i hc
    obtain ⟨h1, h2, h3⟩ := hc
    have hox : x.ok := ho (off, size, x) (List.mem_cons_self ..)
    obtain ⟨q1, q2⟩ := pparts_sim he hw (fun p hp => ho p (List.mem_cons_of_mem _ hp)) (fun u hu => by
      unfold putL at hu
      rw [List.mem_append, List.mem_append] at hu
      rcases hu with (hu | hu) | hu
      · exact hz u (List.mem_of_mem_take hu)
      · exact (pev_wf hw hox hv).cells u hu
      · exact hz u (List.mem_of_mem_drop hu)) h
    refine ⟨?_, q2⟩
    show parts t ((off, size, x.toA) :: toAp ps) (zs.map V.er) = _
    unfold parts
    rw [pev_sim he hv]
    have b1 : Nat.beq (v.cells.map V.er).length size = true := by rw [List.length_map, h2]; exact Nat.beq_refl _
    have b3 : Nat.ble (Nat.add off size) (zs.map V.er).length = true := Nat.ble_eq_true_of_le (by rw [List.length_map]; exact h3)
    simp only [V.er_solid, h1, V.er_cells, b1, b3, Bool.and_self]
    have e : splice (zs.map V.er) off (v.cells.map V.er) = (putL zs off v.cells).map V.er := by
      unfold splice putL
      simp
    rw [e]; exact q1
def prising : List (Nat × Nat × POpd) → Nat → Bool
  | [], _ => true
  | p :: r, n => Nat.ble n p.1 && prising r (p.1 + p.2.1)
theorem prising_eq : ∀ (ps : List (Nat × Nat × POpd)) (n : Nat), rising (toAp ps) n = prising ps n
  | [], _ => rfl
  | p :: r, n => by
    have h : rising (toAp (p :: r)) n = (Nat.ble n p.1 && rising (toAp r) (p.1 + p.2.1)) := rfl
    rw [h, prising_eq r]; rfl
def pBuild (z : List V) (ps : List (Nat × Nat × POpd)) : PRun := fun T S => match (if prising ps 0 = true then pseqp T ps 0 z else pparts T ps z) with
  | some l => some (.agg l, S)
  | none => none
theorem pBuild_sim {z : List V} {ps : List (Nat × Nat × POpd)} (ho : okP ps) (hz : ∀ v ∈ z, v.rows = []) : OpSim (pBuild z ps) (buildR (z.map V.er) (toAp ps)) := .pure_ fun T t S s v S' hf he hs hw => by
  unfold pBuild at hf
  split at hf
  case h_2 => cases hf
  rename_i l hl
  cases hf
  unfold buildR
  rw [prising_eq]
  split at hl
  · rename_i hr
    obtain ⟨q1, q2⟩ := pseqp_sim he hw ho (fun v hv => .of_none (hz v hv)) hl
    rw [hr]
    refine ⟨rfl, ?_, .agg q2⟩
    simp only [opBuildS, q1, V.er, V.ers_eq]
  · rename_i hr
    obtain ⟨q1, q2⟩ := pparts_sim he hw ho (fun v hv => .of_none (hz v hv)) hl
    rw [Bool.not_eq_true] at hr
    rw [hr]
    refine ⟨rfl, ?_, .agg q2⟩
    simp only [opBuild, q1, V.er, V.ers_eq]
def prepl : Nat → List V → List V
  | 0, _ => []
  | n + 1, z => z ++ prepl n z
theorem prepl_map (z : List V) : ∀ n, (prepl n z).map V.er = repl n (z.map V.er)
  | 0 => rfl
  | n + 1 => by rw [repl_succ, prepl, List.map_append, prepl_map z n]
theorem prepl_mem {z : List V} {v : V} : ∀ {n : Nat}, v ∈ prepl n z → v ∈ z
  | 0, h => by cases h
  | n + 1, h => by
    rw [prepl, List.mem_append] at h
    exact h.elim id (prepl_mem (n := n))
def pBuildSlice (es len : Nat) (z : List V) (ps : List (Nat × Nat × POpd)) : PRun := fun T S => match pseqp T ps 0 (prepl len z) with
  | some l => some (.row S.next 0 len (some len) es l, S.new (.row l none))
  | none => none
theorem Sim.newRow {S : PSt} {s : St} (h : Sim S s) {l : List V} (hw : ∀ v ∈ l, Wf S v) : Sim (S.new (.row l none)) (s.new (.cells (rowOf (l.map V.er)) (l.map V.er).length none)) :=
  h.new (b := .row l none) ⟨_, by rw [List.length_map]; rfl, holds_rowOf l⟩ hw
theorem wf_newRow {S : PSt} {l xs : List V} {lk : Option (Nat × Bool)} {len es : Nat} {cap : Option Nat} (h : xs <+: l) : Wf (S.new (.row l lk)) (.row S.next 0 len cap es xs) :=
  wf_row_mk (PSt.new_at _ _) (by simpa using h)
theorem pBuildSlice_sim {es len : Nat} {z : List V} {ps : List (Nat × Nat × POpd)} (ho : okP ps) (hz : ∀ v ∈ z, v.rows = []) : OpSim (pBuildSlice es len z ps) (opBuildSlice es len (z.map V.er) (toAp ps)) := fun T t S s v S' hf he hs hw => by
  unfold pBuildSlice at hf
  split at hf
  case h_2 => cases hf
  rename_i l hl
  cases hf
  obtain ⟨q1, q2⟩ := pseqp_sim he hw ho (fun v hv => .of_none (hz v (prepl_mem hv))) hl
  refine ⟨_, ?_, hs.newRow q2, hs.keepNew _, wf_newRow (List.prefix_refl _)⟩
  unfold opBuildSlice
  rw [← prepl_map, q1]
  simp only [V.er, hs.next]

/-! ### append -/
def tipP (lk : Option (Nat × Bool)) : Bool := match lk with
  | none => true
  | some x => x.2
def famN (a : Nat) (lk : Option (Nat × Bool)) : Nat := match lk with
  | none => a
  | some x => x.1
/-- A row goes on in a new one; memory may be shared. -/
def PSt.grow (S : PSt) (a : Nat) (cs : List V) (lk : Option (Nat × Bool)) (ys : List V) : PSt :=
  ⟨fun p => if p = S.next then some (.row (cs ++ ys) (some (famN a lk, true))) else if p = a then some (.row cs (some (famN a lk, false))) else S.heap p, S.next + 1⟩
def pAppendV (S : PSt) (es by_ : Nat) (x : V) (ys : List V) (k : Nat) : Option (V × PSt) := match k with
  | 0 => match x with
    | .nilrow => some (.nilrow, S)
    | .row a o len cap es' xs => some (.row a o len cap es' xs, S)
    | _ => none
  | k + 1 => match x with
    | .nilrow => if (k + 1) * by_ ≤ 70368744177664 then some (.row S.next 0 (k + 1) none es ys, S.new (.row ys none)) else none
    | .row a o len cap es' xs => if es' = es ∧ (len + (k + 1)) * by_ ≤ 70368744177664 ∧ xs.length = len * es then (match cap with
      | some cp => if len + (k + 1) ≤ cp then none else some (.row S.next 0 (len + (k + 1)) none es (xs ++ ys), S.new (.row (xs ++ ys) none))
      | none => match S.heap a with
        | some (.row cs lk) => if o = 0 ∧ len * es = cs.length ∧ tipP lk = true then some (.row S.next 0 (len + (k + 1)) none es (xs ++ ys), S.grow a cs lk ys) else none
        | _ => none) else none
    | _ => none
theorem pos_of_eq {a b : Nat} : Pos.of a = Pos.of b ↔ a = b := ⟨Pos.of_inj, fun h => by rw [h]⟩
theorem Sim.grow {S : PSt} {s : St} (h : Sim S s) {a : Nat} {cs : List V} {lk : Option (Nat × Bool)} (hb : S.heap a = some (.row cs lk)) {ys : List V} (hy : ∀ v ∈ ys, Wf S v) {c : T AV} (hc : Holds c cs) :
    Sim (S.grow a cs lk ys) ((s.relink (Pos.of a) c cs.length (famP (Pos.of a) (lkE lk))).new (.cells (T.fill (ys.map V.er) cs.length c) (Nat.add cs.length (ys.map V.er).length) (some ⟨famP (Pos.of a) (lkE lk), true⟩))) ∧ Keep S (S.grow a cs lk ys) := by
  have hne : a ≠ S.next := fun e => by rw [e, h.fresh _ (Nat.le_refl _)] at hb; cases hb
  have hf : famP (Pos.of a) (lkE lk) = Pos.of (famN a lk) := by cases lk <;> rfl
  have hk : Keep S (S.grow a cs lk ys) := ⟨Nat.le_succ _, fun p c' lk' e => by
    by_cases h1 : p = S.next
    · rw [h1, h.fresh _ (Nat.le_refl _)] at e; cases e
    · by_cases h2 : p = a
      · subst h2
        rw [hb] at e; cases e
        exact ⟨some (famN p lk, false), by show (if p = S.next then _ else if p = p then _ else _) = _; rw [if_neg h1, if_pos rfl]⟩
      · exact ⟨lk', by show (if p = S.next then _ else if p = a then _ else _) = _; rw [if_neg h1, if_neg h2]; exact e⟩⟩
  refine ⟨⟨⟨?_, fun p b e => ?_, fun p b e v hv => ?_⟩, fun p hp => ?_⟩, hk⟩
  · show s.next.succ = Pos.of (S.next + 1)
    rw [h.next, Pos.succ_of]
  · have e' : (if p = S.next then some (PB.row (cs ++ ys) (some (famN a lk, true))) else if p = a then some (.row cs (some (famN a lk, false))) else S.heap p) = some b := e
    have hget : ∀ q : Pos, ((s.relink (Pos.of a) c cs.length (famP (Pos.of a) (lkE lk))).new (.cells (T.fill (ys.map V.er) cs.length c) (Nat.add cs.length (ys.map V.er).length) (some ⟨famP (Pos.of a) (lkE lk), true⟩))).heap.get q =
        if q = Pos.of S.next then some (.cells (T.fill (ys.map V.er) cs.length c) (Nat.add cs.length (ys.map V.er).length) (some ⟨famP (Pos.of a) (lkE lk), true⟩)) else
        if q = Pos.of a then some (.cells c cs.length (some ⟨famP (Pos.of a) (lkE lk), false⟩)) else s.heap.get q := fun q => by
      show ((s.heap.put _ (Pos.of a)).put _ s.next).get q = _
      rw [T.get_put, T.get_put, h.next]
    rw [hget]
    split at e'
    · rename_i hp
      cases e'
      rw [if_pos (by rw [hp])]
      refine ⟨_, rfl, T.fill (ys.map V.er) cs.length c, ?_, fun i => ?_⟩
      · rw [hf]
        have : Nat.add cs.length (ys.map V.er).length = (cs ++ ys).length := by simp
        rw [this]; rfl
      · rw [T.get_fill]
        simp only [List.length_map]
        split
        · rename_i hi
          rw [List.getElem?_append_right hi.1]; simp
        · rename_i hi
          rw [hc i]
          by_cases h1 : i < cs.length
          · rw [List.getElem?_append_left h1]
          · have h3 : cs.length + ys.length ≤ i := by omega
            rw [List.getElem?_eq_none (by omega : cs.length ≤ i), List.getElem?_eq_none (by simp; omega)]
    · rename_i hp
      rw [if_neg (fun e => hp (Pos.of_inj e))]
      split at e'
      · rename_i hp2
        cases e'
        rw [if_pos (by rw [hp2])]
        exact ⟨_, rfl, c, by rw [hf]; rfl, hc⟩
      · rename_i hp2
        rw [if_neg (fun e => hp2 (Pos.of_inj e))]
        exact h.heap p b e'
  · have e' : (if p = S.next then some (PB.row (cs ++ ys) (some (famN a lk, true))) else if p = a then some (.row cs (some (famN a lk, false))) else S.heap p) = some b := e
    split at e'
    · cases e'
      have hv' : v ∈ cs ++ ys := hv
      rw [List.mem_append] at hv'
      exact (hv'.elim (fun hv => h.wf a _ hb v hv) (hy v)).keep hk
    · split at e'
      · cases e'
        exact (h.wf a _ hb v hv).keep hk
      · exact (h.wf p b e' v hv).keep hk
  · have hp' : S.next + 1 ≤ p := hp
    show (if p = S.next then _ else if p = a then _ else _) = none
    have hap : p ≠ a := fun e => by
      rw [← e, h.fresh p (by omega)] at hb; cases hb
    rw [if_neg (by omega), if_neg hap]
    exact h.fresh p (by omega)
theorem pAppendV_sim {S : PSt} {s : St} (hs : Sim S s) {es by_ : Nat} {x v : V} {ys : List V} {k : Nat} {S' : PSt} (hx : Wf S x) (hy : ∀ u ∈ ys, Wf S u) (hf : pAppendV S es by_ x ys k = some (v, S')) :
    ∃ s', s.append es by_ x.er (ys.map V.er) k = some (v.er, s') ∧ Sim S' s' ∧ Keep S S' ∧ Wf S' v := by
  unfold pAppendV at hf
  split at hf
  · split at hf
    · cases hf; exact ⟨s, rfl, hs, .refl _, hx⟩
    · cases hf; exact ⟨s, rfl, hs, .refl _, hx⟩
    · cases hf
  rename_i k
  split at hf
  · split at hf
    case isFalse => cases hf
    rename_i hle
    cases hf
    have hb : Nat.ble (Nat.mul (Nat.succ k) by_) 70368744177664 = true := Nat.ble_eq_true_of_le hle
    refine ⟨_, ?_, hs.newRow hy, hs.keepNew _, wf_newRow (List.prefix_refl _)⟩
    simp only [St.append, V.er, hb, hs.next]
  · rename_i a o len cap es' xs
    split at hf
    case isFalse => cases hf
    rename_i hc
    obtain ⟨rfl, hle, hxl⟩ := hc
    have hb : and (Nat.beq es' es') (Nat.ble (Nat.mul (Nat.add len (Nat.succ k)) by_) 70368744177664) = true := by
      rw [Bool.and_eq_true]; exact ⟨Nat.beq_refl _, Nat.ble_eq_true_of_le hle⟩
    obtain ⟨cs, lk, hrow, hp⟩ := wf_row hx
    split at hf
    · rename_i cp
      split at hf
      · cases hf
      rename_i hcp
      cases hf
      have hb2 : Nat.ble (Nat.add len (Nat.succ k)) cp = false := by
        cases hbb : Nat.ble (Nat.add len (Nat.succ k)) cp with
        | false => rfl
        | true => exact absurd (Nat.le_of_ble_eq_true hbb) hcp
      have hwx : ∀ v ∈ xs ++ ys, Wf S v := fun v hv => (List.mem_append.1 hv).elim (fun h => hs.wf a _ hrow v (prefix_mem hp h)) (hy v)
      have hrd : s.readN (Pos.of a) o (Nat.mul len es') = some (xs.map V.er) := by
        obtain ⟨c, n, m, h1, h2⟩ := hs.cells hrow (.inl ⟨lk, rfl⟩)
        have hxl' : Nat.mul len es' = xs.length := hxl.symm
        rw [hxl']
        unfold St.readN
        cases hx0 : xs.length with
        | zero => rw [List.eq_nil_of_length_eq_zero hx0]; rfl
        | succ j =>
          have hlen := prefix_len hp
          show s.read (Pos.of a) o (j + 1) = _
          rw [← hx0]
          unfold St.read
          rw [h1]
          simp only
          rw [holds_read h2 _ _ (by omega)]
          obtain ⟨r, hr⟩ := hp
          rw [← hr, List.take_left]
      refine ⟨_, ?_, hs.newRow hwx, hs.keepNew _, wf_newRow (List.prefix_refl _)⟩
      simp only [St.append, V.er, hb, St.appendK, hb2, hrd, hs.next, List.map_append]
      rfl
    · split at hf
      case h_2 => cases hf
      rename_i cs' lk' hrow'
      rw [hrow] at hrow'; cases hrow'
      split at hf
      case isFalse => cases hf
      rename_i hc
      obtain ⟨rfl, hlen, htip⟩ := hc
      cases hf
      have hxcs : xs = cs := by
        have h1 : xs <+: cs := by simpa using hp
        exact h1.eq_of_length (by omega)
      subst hxcs
      obtain ⟨y, h1, c, rfl, hcc⟩ := hs.heap a _ hrow
      have hg := hs.grow hrow hy hcc
      refine ⟨_, ?_, hg.1, hg.2, ?_⟩
      · have ht : tipB (lkE lk) = true := by
          cases lk with
          | none => rfl
          | some q => exact htip
        have hb3 : and (and (Nat.beq 0 0) (Nat.beq (Nat.mul len es') xs.length)) (tipB (lkE lk)) = true := by
          have : Nat.beq (Nat.mul len es') xs.length = true := by rw [show Nat.mul len es' = xs.length from hlen]; exact Nat.beq_refl _
          rw [this, ht]; rfl
        simp only [St.append, V.er, hb, St.appendU, h1, hb3, hs.next]
        rfl
      · refine wf_row_mk (cs := xs ++ ys) (lk := some (famN a lk, true)) ?_ (by simp)
        show (if S.next = S.next then _ else _) = _
        rw [if_pos rfl]
  · cases hf
def pAppend (es by_ : Nat) (x y : POpd) : PRun := fun T S => match pev T x with
  | some u => match pev T y with
    | some .nilrow => pAppendV S es by_ u [] 0
    | some (.row _ _ len _ _ ys) => if ys.length = len * es then pAppendV S es by_ u ys len else none
    | _ => none
  | none => none
theorem pAppend_sim {es by_ : Nat} {x y : POpd} (hx : x.ok) (hy : y.ok) : OpSim (pAppend es by_ x y) (opAppend es by_ x.toA y.toA) := fun T t S s v S' hf he hs hw => by
  unfold pAppend at hf
  unfold opAppend
  split at hf
  case h_2 => cases hf
  rename_i u hu
  have hwu := pev_wf hw hx hu
  split at hf
  · rename_i hv
    obtain ⟨s', h1, h2⟩ := pAppendV_sim hs hwu (fun u hu => by cases hu) hf
    refine ⟨s', ?_, h2⟩
    rw [pev_sim he hu]
    simp only
    rw [pev_sim he hv]
    exact h1
  · rename_i b o len cap es' ys hv
    split at hf
    case isFalse => cases hf
    rename_i hyl
    obtain ⟨cs, lk, hrow, hp⟩ := wf_row (pev_wf hw hy hv)
    obtain ⟨s', h1, h2⟩ := pAppendV_sim hs hwu (fun u hu => hs.wf b _ hrow u (prefix_mem hp hu)) hf
    refine ⟨s', ?_, h2⟩
    rw [pev_sim he hu]
    simp only
    rw [pev_sim he hv]
    simp only [V.er]
    cases len with
    | zero =>
      have : ys = [] := List.eq_nil_of_length_eq_zero (by rw [hyl]; omega)
      subst this
      exact h1
    | succ n =>
      obtain ⟨c, n', m, g1, g2⟩ := hs.cells hrow (.inl ⟨lk, rfl⟩)
      have hlen := prefix_len hp
      have hrd : s.read (Pos.of b) o (Nat.mul (Nat.succ n) es) = some (ys.map V.er) := by
        rw [show Nat.mul (Nat.succ n) es = ys.length from hyl.symm]
        unfold St.read
        rw [g1]
        simp only
        by_cases h0 : ys.length = 0
        · rw [List.eq_nil_of_length_eq_zero h0]; rfl
        · rw [holds_read g2 _ _ (by omega)]
          obtain ⟨r, hr⟩ := hp
          rw [← hr, List.take_left]
      simp only [hrd]
      exact h1
  · cases hf
end Go.Abs
