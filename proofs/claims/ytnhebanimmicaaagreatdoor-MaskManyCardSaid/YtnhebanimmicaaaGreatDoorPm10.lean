/- The machine's operations made of the model's. -/
import Derived.Test.YtnhebanimmicaaaGreatDoorPm9
namespace Go.Abs

def pvals (f : Value → Option V) : List Value → Option (List V)
  | [] => some []
  | v :: r => match f v with
    | none => none
    | some a => match pvals f r with
      | none => none
      | some l => some (a :: l)
def pval : Nat → Value → Option V
  | 0, _ => none
  | n + 1, v => match v with
    | .bool b => some (.bool b)
    | .int k n => some (.int k n)
    | .string s => some (.str s.data.toList)
    | .pointer none => some .nilptr
    | .slice none 0 0 => some .nilrow
    | .map none => some .nilmap
    | .nilFunc => some .nilfn
    | .nilIface => some .niliface
    | .agg vs => match vs.toList.all (·.oneCell') with
      | true => match pvals (pval n) vs.toList with
        | some l => some (.agg l)
        | none => none
      | false => none
    | _ => none
theorem pvals_ok {f : Value → Option V} {g : Value → Option AV} (hf : ∀ v u, f v = some u → g v = some u.er ∧ u.rows = []) : ∀ (l : List Value) (r : List V), pvals f l = some r → cvals g l = some (V.ers r) ∧ V.rowss r = []
  | [], r, h => by cases h; exact ⟨rfl, rfl⟩
  | v :: l, r, h => by
    unfold pvals at h
    split at h
    · cases h
    rename_i u hu
    split at h
    · cases h
    rename_i k hk
    cases h
    obtain ⟨h1, h2⟩ := hf v u hu
    obtain ⟨i1, i2⟩ := pvals_ok hf l k hk
    refine ⟨?_, by rw [V.rowss, h2, i2]; rfl⟩
    simp only [cvals, h1, i1, V.ers]
theorem pval_ok : ∀ (n : Nat) (v : Value) (u : V), pval n v = some u → cval n v = some u.er ∧ u.rows = [] := by
  intro n
  induction n with
  | zero => intro v u h; cases h
  | succ n ih =>
    intro v u h
    unfold pval at h
    split at h
    · cases h; exact ⟨rfl, rfl⟩
    · cases h; exact ⟨by show some (mkInt _ _) = _; rw [mkInt_eq]; rfl, rfl⟩
    · rename_i s
      cases h
      refine ⟨?_, rfl⟩
      show some (mkStr s.size (enc s.data.toList)) = some (.str s.data.toList.length (enc s.data.toList))
      have e : s.data.toList.length = s.size := Array.length_toList
      rw [e, mkStr_eq]
      intro h
      have : s.data.toList = [] := by apply List.eq_nil_of_length_eq_zero; simpa using h
      rw [this]; rfl
    · cases h; exact ⟨rfl, rfl⟩
    · cases h; exact ⟨rfl, rfl⟩
    · cases h; exact ⟨rfl, rfl⟩
    · cases h; exact ⟨rfl, rfl⟩
    · cases h; exact ⟨rfl, rfl⟩
    · rename_i vs
      split at h
      case h_2 => cases h
      rename_i hall
      split at h
      case h_2 => cases h
      rename_i l hl
      cases h
      obtain ⟨h1, h2⟩ := pvals_ok ih _ _ hl
      refine ⟨?_, h2⟩
      simp only [cval, hall, h1, V.er]
    · cases h

def pcopd (x : Operand) : Option POpd :=
  match x with
  | .tmp n => some (.tmp n)
  | .const v => match pval 5 v with
    | some a => some (.const a)
    | none => none
  | .func f => some (.const (.fn f []))
  | .global _ => none
theorem pcopd_ok {x : Operand} {y : POpd} (h : pcopd x = some y) : copd x = some y.toA ∧ y.ok := by
  cases x with
  | tmp n => cases h; exact ⟨rfl, trivial⟩
  | const v =>
    simp only [pcopd] at h
    split at h
    case h_2 => cases h
    rename_i a ha
    cases h
    obtain ⟨h1, h2⟩ := pval_ok 5 v a ha
    refine ⟨?_, h2⟩
    simp only [copd, h1]; rfl
  | func f =>
    cases h
    exact ⟨by show some (Opd.const (.fn f [])) = some (Opd.const (V.fn f []).er); simp [V.er, V.ers], rfl⟩
  | global g => cases h
def pcopds : List Operand → Option (List POpd)
  | [] => some []
  | x :: r => match pcopd x with
    | none => none
    | some y => match pcopds r with
      | none => none
      | some l => some (y :: l)
theorem pcopds_ok : ∀ {l : List Operand} {r : List POpd}, pcopds l = some r → copds l = some (r.map POpd.toA) ∧ okL r
  | [], r, h => by cases h; exact ⟨rfl, fun x hx => by cases hx⟩
  | x :: l, r, h => by
    unfold pcopds at h
    split at h
    · cases h
    rename_i y hy
    split at h
    · cases h
    rename_i k hk
    cases h
    obtain ⟨h1, h2⟩ := pcopd_ok hy
    obtain ⟨i1, i2⟩ := pcopds_ok hk
    refine ⟨by simp only [copds, h1, i1, List.map_cons], fun z hz => ?_⟩
    rcases List.mem_cons.1 hz with rfl | hz
    · exact h2
    · exact i2 z hz
def pcopdo : Option Operand → Option (Option POpd)
  | none => some none
  | some x => match pcopd x with
    | some y => some (some y)
    | none => none
theorem pcopdo_ok {x : Option Operand} {y : Option POpd} (h : pcopdo x = some y) : copdo x = some (toAo y) := by
  cases x with
  | none => cases h; rfl
  | some x =>
    unfold pcopdo at h
    simp only at h
    split at h
    case h_2 => cases h
    rename_i z hz
    cases h
    simp only [copdo, (pcopd_ok hz).1]; rfl
def p1 (f : POpd → POp) (x : Operand) : Option POp := match pcopd x with
  | some y => some (f y)
  | none => none
def p2 (f : POpd → POpd → POp) (x y : Operand) : Option POp := match pcopd x with
  | some x' => match pcopd y with
    | some y' => some (f x' y')
    | none => none
  | none => none
theorem p1_ok {f : POpd → POp} {g : Opd → Run} {x : Operand} {q : POp} (h : p1 f x = some q) (hr : ∀ y, (f y).runA = g y.toA) (hk : ∀ y, y.ok → (f y).ok) : mk1 g x = some q.runA ∧ q.ok := by
  unfold p1 at h
  split at h
  case h_2 => cases h
  rename_i y hy
  cases h
  obtain ⟨h1, h2⟩ := pcopd_ok hy
  exact ⟨by simp only [mk1, h1, hr], hk y h2⟩
theorem p2_ok {f : POpd → POpd → POp} {g : Opd → Opd → Run} {x y : Operand} {q : POp} (h : p2 f x y = some q) (hr : ∀ x y, (f x y).runA = g x.toA y.toA) (hk : ∀ x y, x.ok → y.ok → (f x y).ok) : mk2 g x y = some q.runA ∧ q.ok := by
  unfold p2 at h
  split at h
  case h_2 => cases h
  rename_i x' hx
  split at h
  case h_2 => cases h
  rename_i y' hy
  cases h
  obtain ⟨h1, h2⟩ := pcopd_ok hx
  obtain ⟨h3, h4⟩ := pcopd_ok hy
  exact ⟨by simp only [mk2, h1, h3, hr], hk _ _ h2 h4⟩

def pzcells (P : Program) (t : TypeId) : Option (List V) :=
  match P.info? t with
  | some i => match i.zero with
    | some z => match pval 5 z with
      | some v => match v.solid with
        | true => some v.cells
        | false => none
      | none => none
    | none => none
  | none => none
theorem cells_rows {v : V} (h : v.rows = []) : zok v.cells := by
  intro u hu
  cases v <;> simp only [V.cells, List.mem_singleton] at hu <;> try (subst hu; exact h)
  rename_i l
  have h' : V.rowss l = [] := h
  rw [V.rowss_eq, List.flatMap_eq_nil_iff] at h'
  exact h' u hu
theorem pzcells_ok {P : Program} {t : TypeId} {l : List V} (h : pzcells P t = some l) : zcells P t = some (l.map V.er) ∧ zok l := by
  unfold pzcells at h
  split at h
  case h_2 => cases h
  rename_i i hi
  split at h
  case h_2 => cases h
  rename_i z hz
  split at h
  case h_2 => cases h
  rename_i v hv
  split at h
  case h_2 => cases h
  rename_i hs
  cases h
  obtain ⟨h1, h2⟩ := pval_ok 5 z v hv
  refine ⟨?_, cells_rows h2⟩
  simp only [zcells, hi, hz, h1, V.er_solid, hs, V.er_cells]
def pelemOf (P : Program) (t : TypeId) : Option (TypeId × Nat × Nat × List V) := match P.underlying t with
  | some (.slice e) => match P.info? e with
    | some ie => match pzcells P e with
      | some z => match Nat.beq z.length ie.size with
        | true => some (e, ie.size, Nat.succ ie.bytes, z)
        | false => none
      | none => none
    | none => none
  | _ => none
theorem pelemOf_ok {P : Program} {t e : TypeId} {n b : Nat} {z : List V} (h : pelemOf P t = some (e, n, b, z)) : elemOf P t = some (e, n, b, z.map V.er) ∧ zok z := by
  unfold pelemOf at h
  split at h
  case h_2 => cases h
  rename_i e' hu
  split at h
  case h_2 => cases h
  rename_i ie hie
  split at h
  case h_2 => cases h
  rename_i z' hz
  split at h
  case h_2 => cases h
  rename_i hl
  cases h
  obtain ⟨h1, h2⟩ := pzcells_ok hz
  refine ⟨?_, h2⟩
  simp only [elemOf, hu, hie, h1, List.length_map, hl]

noncomputable def pcBin (P : Program) (op : BinOp) (tx : TypeId) (x y : Operand) : Option POp := match P.underlying tx with
  | some (.int _) => p2 (.bin op) x y
  | some .string => p2 (.bin op) x y
  | some .bool => match op with
    | .eql => p2 (.eqB false) x y
    | .neq => p2 (.eqB true) x y
    | _ => none
  | some d => match nilSort d with
    | some n => match op with
      | .eql => p2 (.eqNil n false) x y
      | .neq => p2 (.eqNil n true) x y
      | _ => none
    | none => match P.eqGuardType P.depth tx with
      | true => none
      | false => match eqLeaves P 8 tx with
        | none => none
        | some ls => match op with
          | .eql => p2 (.eqSt false ls) x y
          | .neq => p2 (.eqSt true ls) x y
          | _ => none
  | none => none
theorem pcBin_ok {P : Program} {op : BinOp} {tx : TypeId} {x y : Operand} {q : POp} (h : pcBin P op tx x y = some q) : cBin P op tx x y = some q.runA ∧ q.ok := by
  unfold pcBin at h
  unfold cBin
  split at h
  · rename_i hu; rw [hu]; exact p2_ok h (fun _ _ => rfl) (fun _ _ _ _ => trivial)
  · rename_i hu; rw [hu]; exact p2_ok h (fun _ _ => rfl) (fun _ _ _ _ => trivial)
  · rename_i hu
    rw [hu]
    split at h
    · exact p2_ok h (fun _ _ => rfl) (fun _ _ _ _ => trivial)
    · exact p2_ok h (fun _ _ => rfl) (fun _ _ _ _ => trivial)
    · cases h
  · rename_i d h1 h2 h3 hu
    rw [hu]
    cases d
    case int k => exact absurd rfl (h1 k)
    case string => exact absurd rfl h2
    case bool => exact absurd rfl h3
    all_goals
      dsimp only
      split at h
      · rename_i n hn
        rw [hn]
        dsimp only
        split at h
        · exact p2_ok h (fun _ _ => rfl) (fun _ _ _ _ => trivial)
        · exact p2_ok h (fun _ _ => rfl) (fun _ _ _ _ => trivial)
        · cases h
      · rename_i hn
        rw [hn]
        dsimp only
        split at h
        · cases h
        rename_i hg
        rw [hg]
        dsimp only
        split at h
        · cases h
        rename_i ls hl
        rw [hl]
        dsimp only
        split at h
        · exact p2_ok h (fun _ _ => rfl) (fun _ _ _ _ => trivial)
        · exact p2_ok h (fun _ _ => rfl) (fun _ _ _ _ => trivial)
        · cases h
  · cases h

def pcConv (P : Program) (src dst : TypeId) (x : Operand) : Option POp := match P.underlying src with
  | none => none
  | some ds => match P.underlying dst with
    | some (.int k) => p1 (.conv k) x
    | some .string => match ds with
      | .string => p1 .convStr x
      | .slice e => match P.underlying e with
        | some (.int .u8) => p1 .toStr x
        | _ => none
      | _ => none
    | _ => none
theorem pcConv_ok {P : Program} {src dst : TypeId} {x : Operand} {q : POp} (h : pcConv P src dst x = some q) : cConv P src dst x = some q.runA ∧ q.ok := by
  unfold pcConv at h
  unfold cConv
  split at h
  · cases h
  rename_i ds hs
  rw [hs]
  dsimp only
  split at h
  · rename_i hd; rw [hd]; exact p1_ok h (fun _ => rfl) (fun _ _ => trivial)
  · rename_i hd
    rw [hd]
    split at h
    · exact p1_ok h (fun _ => rfl) (fun _ _ => trivial)
    · dsimp only
      split at h
      · rename_i he; rw [he]; exact p1_ok h (fun _ => rfl) (fun _ k => k)
      · cases h
    · cases h
  · cases h

def pcparts (place : Nat → Option (Nat × Nat)) : List (Nat × Operand) → Option (List (Nat × Nat × POpd))
  | [] => some []
  | (i, x) :: r => match place i with
    | some (off, size) => match pcopd x with
      | some y => match pcparts place r with
        | some l => some ((off, size, y) :: l)
        | none => none
      | none => none
    | none => none
theorem pcparts_ok {place : Nat → Option (Nat × Nat)} : ∀ {ps : List (Nat × Operand)} {qs : List (Nat × Nat × POpd)}, pcparts place ps = some qs → cparts place ps = some (toAp qs) ∧ okP qs
  | [], qs, h => by cases h; exact ⟨rfl, fun x hx => by cases hx⟩
  | (i, x) :: r, qs, h => by
    unfold pcparts at h
    split at h
    case h_2 => cases h
    rename_i off size hp
    split at h
    case h_2 => cases h
    rename_i y hy
    split at h
    case h_2 => cases h
    rename_i l hl
    cases h
    obtain ⟨h1, h2⟩ := pcopd_ok hy
    obtain ⟨i1, i2⟩ := pcparts_ok hl
    refine ⟨by simp only [cparts, hp, h1, i1]; rfl, fun z hz => ?_⟩
    rcases List.mem_cons.1 hz with rfl | hz
    · exact h2
    · exact i2 z hz
def pcBuild (P : Program) (t : TypeId) (ps : Array (Nat × Operand)) : Option POp := match pzcells P t with
  | none => none
  | some z => match P.underlying t with
    | some (.struct fields) => match fields.toList.mapM (fun f => (P.info? f.type).map fun i => (f.offset, i.size)) with
      | none => none
      | some places => match pcparts (places.toArray[·]?) ps.toList with
        | some ps' => some (.build z ps')
        | none => none
    | some (.array _ e) => match P.info? e with
      | none => none
      | some ie => match pcparts (fun i => some (i * ie.size, ie.size)) ps.toList with
        | some ps' => some (.build z ps')
        | none => none
    | _ => none
theorem pcBuild_ok {P : Program} {t : TypeId} {ps : Array (Nat × Operand)} {q : POp} (h : pcBuild P t ps = some q) : cBuild P t ps = some q.runA ∧ q.ok := by
  unfold pcBuild at h
  unfold cBuild
  split at h
  · cases h
  rename_i z hz
  obtain ⟨z1, z2⟩ := pzcells_ok hz
  rw [z1]
  dsimp only
  split at h
  · rename_i fields hu
    rw [hu]
    dsimp only
    split at h
    · cases h
    rename_i places hpl
    rw [hpl]
    dsimp only
    split at h
    case h_2 => cases h
    rename_i ps' hps
    cases h
    obtain ⟨i1, i2⟩ := pcparts_ok hps
    rw [i1]
    exact ⟨rfl, i2, z2⟩
  · rename_i len e hu
    rw [hu]
    dsimp only
    split at h
    · cases h
    rename_i ie hie
    rw [hie]
    dsimp only
    split at h
    case h_2 => cases h
    rename_i ps' hps
    cases h
    obtain ⟨i1, i2⟩ := pcparts_ok hps
    rw [i1]
    exact ⟨rfl, i2, z2⟩
  · cases h
def pcBuildSlice (P : Program) (t : TypeId) (len : Nat) (ps : Array (Nat × Operand)) : Option POp := match pelemOf P t with
  | none => none
  | some (_, es, _, z) => match Nat.ble (Nat.mul len es) 16777216 with
    | false => none
    | true => match pcparts (fun i => some (i * es, es)) ps.toList with
      | some ps' => some (.buildSlice es len z ps')
      | none => none
theorem pcBuildSlice_ok {P : Program} {t : TypeId} {len : Nat} {ps : Array (Nat × Operand)} {q : POp} (h : pcBuildSlice P t len ps = some q) : cBuildSlice P t len ps = some q.runA ∧ q.ok := by
  unfold pcBuildSlice at h
  unfold cBuildSlice
  split at h
  · cases h
  rename_i e es b z he
  obtain ⟨z1, z2⟩ := pelemOf_ok he
  rw [z1]
  dsimp only
  split at h
  · cases h
  rename_i hle
  rw [hle]
  dsimp only
  split at h
  case h_2 => cases h
  rename_i ps' hps
  cases h
  obtain ⟨i1, i2⟩ := pcparts_ok hps
  rw [i1]
  exact ⟨rfl, i2, z2⟩
def pcLoad (P : Program) (t : TypeId) (x : Operand) : Option POp := match P.underlying t with
  | none => none
  | some d => match d.isRow with
    | false => p1 .load1 x
    | true => match P.info? t with
      | some i => p1 (.loadN i.size) x
      | none => none
theorem pcLoad_ok {P : Program} {t : TypeId} {x : Operand} {q : POp} (h : pcLoad P t x = some q) : cLoad P t x = some q.runA ∧ q.ok := by
  unfold pcLoad at h
  unfold cLoad
  split at h
  · cases h
  rename_i d hu
  rw [hu]
  dsimp only
  split at h
  · rename_i hr; rw [hr]; exact p1_ok h (fun _ => rfl) (fun _ k => k)
  · rename_i hr
    rw [hr]
    dsimp only
    split at h
    · rename_i i hi; rw [hi]; exact p1_ok h (fun _ => rfl) (fun _ k => k)
    · cases h
def pcFieldAddr (P : Program) (t : TypeId) (x : Operand) (fi : Nat) : Option POp := match P.underlying t with
  | some (.struct fields) => match fields[fi]? with
    | some f => match P.info? f.type with
      | some i => match i.size with
        | 0 => none
        | _ + 1 => p1 (.fieldAddr f.offset) x
      | none => none
    | none => none
  | _ => none
theorem pcFieldAddr_ok {P : Program} {t : TypeId} {x : Operand} {fi : Nat} {q : POp} (h : pcFieldAddr P t x fi = some q) : cFieldAddr P t x fi = some q.runA ∧ q.ok := by
  unfold pcFieldAddr at h
  unfold cFieldAddr
  split at h
  case h_2 => cases h
  rename_i fields hu
  rw [hu]
  dsimp only
  split at h
  case h_2 => cases h
  rename_i f hf
  rw [hf]
  dsimp only
  split at h
  case h_2 => cases h
  rename_i i hi
  rw [hi]
  dsimp only
  split at h
  · cases h
  rename_i n hn
  rw [hn]
  exact p1_ok h (fun _ => rfl) (fun _ k => k)
def pcField (P : Program) (t : TypeId) (x : Operand) (fi : Nat) : Option POp := match P.underlying t with
  | some (.struct fields) => match fields[fi]? with
    | some f => match P.underlying f.type with
      | some d => match d.isRow with
        | false => p1 (.field1 f.offset) x
        | true => match P.info? f.type with
          | some i => p1 (.fieldN f.offset i.size) x
          | none => none
      | none => none
    | none => none
  | _ => none
theorem pcField_ok {P : Program} {t : TypeId} {x : Operand} {fi : Nat} {q : POp} (h : pcField P t x fi = some q) : cField P t x fi = some q.runA ∧ q.ok := by
  unfold pcField at h
  unfold cField
  split at h
  case h_2 => cases h
  rename_i fields hu
  rw [hu]
  dsimp only
  split at h
  case h_2 => cases h
  rename_i f hf
  rw [hf]
  dsimp only
  split at h
  case h_2 => cases h
  rename_i d hd
  rw [hd]
  dsimp only
  split at h
  · rename_i hr; rw [hr]; exact p1_ok h (fun _ => rfl) (fun _ k => k)
  · rename_i hr
    rw [hr]
    dsimp only
    split at h
    · rename_i i hi; rw [hi]; exact p1_ok h (fun _ => rfl) (fun _ k => k)
    · cases h
def pcSlice (P : Program) (t : TypeId) (x : Operand) (lo hi mx : Option Operand) : Option POp := match pcopd x with
  | none => none
  | some x' => match pcopdo lo with
    | none => none
    | some lo' => match pcopdo hi with
      | none => none
      | some hi' => match mx with
        | some _ => none
        | none => match P.underlying t with
          | some .string => some (.sliceStr x' lo' hi')
          | some (.slice e) => match P.info? e with
            | some ie => some (.sliceS ie.size x' lo' hi')
            | none => none
          | _ => none
theorem pcSlice_ok {P : Program} {t : TypeId} {x : Operand} {lo hi mx : Option Operand} {q : POp} (h : pcSlice P t x lo hi mx = some q) : cSlice P t x lo hi mx = some q.runA ∧ q.ok := by
  unfold pcSlice at h
  unfold cSlice
  split at h
  · cases h
  rename_i x' hx
  obtain ⟨x1, x2⟩ := pcopd_ok hx
  rw [x1]
  dsimp only
  split at h
  · cases h
  rename_i lo' hlo
  rw [pcopdo_ok hlo]
  dsimp only
  split at h
  · cases h
  rename_i hi' hhi
  rw [pcopdo_ok hhi]
  dsimp only
  split at h
  · cases h
  split at h
  · rename_i hu; rw [hu]; cases h; exact ⟨rfl, trivial⟩
  · rename_i e hu
    rw [hu]
    dsimp only
    split at h
    case h_2 => cases h
    rename_i ie hie
    rw [hie]
    cases h
    exact ⟨rfl, x2⟩
  · cases h
def pcLookup (P : Program) (t : TypeId) (x y : Operand) (ok : Bool) : Option POp := match P.underlying t with
  | some (.map k e) => match P.underlying k with
    | some d => match P.info? e with
      | some ie => match ie.zero with
        | some zv => match pval 5 zv with
          | some z => p2 (fun x y => .lookup d z x y ok) x y
          | none => none
        | none => none
      | none => none
    | none => none
  | _ => none
theorem pcLookup_ok {P : Program} {t : TypeId} {x y : Operand} {ok : Bool} {q : POp} (h : pcLookup P t x y ok = some q) : cLookup P t x y ok = some q.runA ∧ q.ok := by
  unfold pcLookup at h
  unfold cLookup
  split at h
  case h_2 => cases h
  rename_i k e hu
  rw [hu]
  dsimp only
  split at h
  case h_2 => cases h
  rename_i d hd
  rw [hd]
  dsimp only
  split at h
  case h_2 => cases h
  rename_i ie hie
  rw [hie]
  dsimp only
  split at h
  case h_2 => cases h
  rename_i zv hzv
  rw [hzv]
  dsimp only
  split at h
  case h_2 => cases h
  rename_i z hz
  obtain ⟨z1, z2⟩ := pval_ok 5 zv z hz
  rw [z1]
  exact p2_ok h (fun _ _ => rfl) (fun _ _ _ _ => z2)
def pcMapUpd (P : Program) (t : TypeId) (x y z : Operand) : Option POp := match P.underlying t with
  | some (.map k _) => match P.underlying k with
    | some d => match pcopd x with
      | some x' => match pcopd y with
        | some y' => match pcopd z with
          | some z' => some (.mapUpd d x' y' z')
          | none => none
        | none => none
      | none => none
    | none => none
  | _ => none
theorem pcMapUpd_ok {P : Program} {t : TypeId} {x y z : Operand} {q : POp} (h : pcMapUpd P t x y z = some q) : cMapUpd P t x y z = some q.runA ∧ q.ok := by
  unfold pcMapUpd at h
  unfold cMapUpd
  split at h
  case h_2 => cases h
  rename_i k e hu
  rw [hu]
  dsimp only
  split at h
  case h_2 => cases h
  rename_i d hd
  rw [hd]
  dsimp only
  split at h
  case h_2 => cases h
  rename_i x' hx
  split at h
  case h_2 => cases h
  rename_i y' hy
  split at h
  case h_2 => cases h
  rename_i z' hz
  cases h
  obtain ⟨x1, x2⟩ := pcopd_ok hx
  obtain ⟨y1, y2⟩ := pcopd_ok hy
  obtain ⟨z1, z2⟩ := pcopd_ok hz
  rw [z1]
  exact ⟨by simp only [mk2, x1, y1]; rfl, y2, z2⟩
def pcBuiltin (P : Program) (b : Builtin) (xs : List Operand) (ts : List TypeId) : Option POp := match b with
  | .len => match xs, ts with
    | [x], [t] => match P.underlying t with
      | some .string => p1 .lenStr x
      | some (.slice _) => p1 .lenS x
      | _ => none
    | _, _ => none
  | .append => match xs, ts with
    | [x, y], [t, u] => match pelemOf P t with
      | some (_, es, by_, _) => match P.underlying u with
        | some (.slice _) => p2 (.append es by_) x y
        | _ => none
      | none => none
    | _, _ => none
  | .min => match xs, ts with
    | [x, y], [_, _] => p2 .min x y
    | _, _ => none
  | .max => match xs, ts with
    | [x, y], [_, _] => p2 .max x y
    | _, _ => none
  | _ => none
theorem pcBuiltin_ok {P : Program} {b : Builtin} {xs : List Operand} {ts : List TypeId} {q : POp} (h : pcBuiltin P b xs ts = some q) : cBuiltin P b xs ts = some q.runA ∧ q.ok := by
  unfold pcBuiltin at h
  unfold cBuiltin
  split at h
  · split at h
    case h_2 => cases h
    dsimp only
    split at h
    · rename_i hu; rw [hu]; exact p1_ok h (fun _ => rfl) (fun _ _ => trivial)
    · rename_i hu; rw [hu]; exact p1_ok h (fun _ => rfl) (fun _ _ => trivial)
    · cases h
  · split at h
    case h_2 => cases h
    dsimp only
    split at h
    case h_2 => cases h
    rename_i e es b z he
    rw [(pelemOf_ok he).1]
    dsimp only
    split at h
    · rename_i hu; rw [hu]; exact p2_ok h (fun _ _ => rfl) (fun _ _ a b => ⟨a, b⟩)
    · cases h
  · split at h
    case h_2 => cases h
    dsimp only
    exact p2_ok h (fun _ _ => rfl) (fun _ _ _ _ => trivial)
  · split at h
    case h_2 => cases h
    dsimp only
    exact p2_ok h (fun _ _ => rfl) (fun _ _ _ _ => trivial)
  · cases h

noncomputable def pcop (P : Program) (op : Op) : Option POp := match op with
  | .move x => p1 .move x
  | .assign x => p1 .move x
  | .pick c x y => match pcopd c with
    | some c' => p2 (.pick c') x y
    | none => none
  | .alloc t => match pzcells P t with
    | some z => some (.alloc z)
    | none => none
  | .box _ x => p1 .box x
  | .build t ps => pcBuild P t ps
  | .buildSlice t len ps => pcBuildSlice P t len ps
  | .insert t x y z => pcMapUpd P t x y z
  | .load t x => pcLoad P t x
  | .store t x y => match P.info? t with
    | some i => p2 (.store i.size) x y
    | none => none
  | .nilCheck x => p1 .nilCheck x
  | .binOp op tx x y _ => pcBin P op tx x y
  | .unOp .not _ x => p1 .not x
  | .unOp .neg _ x => p1 .neg x
  | .convert src dst x => pcConv P src dst x
  | .makeFunc (.func f) first caps => match first.toList with
    | [] => match pcopds caps.toList with
      | some l => some (.mkfn f l)
      | none => none
    | _ => none
  | .makeMap t r => match P.underlying t with
    | some (.map _ _) => match r with
      | none => some .mkmap
      | some (.const (.int _ _)) => some .mkmap
      | _ => none
    | _ => none
  | .slice t x lo hi mx => pcSlice P t x lo hi mx
  | .fieldAddr t x fi => pcFieldAddr P t x fi
  | .field t x fi => pcField P t x fi
  | .indexAddr t x i => match P.underlying t with
    | some (.slice e) => match P.info? e with
      | some ie => p2 (.indexAddr ie.size) x i
      | none => none
    | _ => none
  | .index t x i => match P.underlying t with
    | some .string => p2 .indexStr x i
    | _ => none
  | .lookup t x y ok => pcLookup P t x y ok
  | .mapUpdate t x y z => pcMapUpd P t x y z
  | .extract x i => p1 (fun x => .extract x i) x
  | .call { callee := .builtin b, args, argTypes } => pcBuiltin P b args.toList argTypes.toList
  | _ => none
theorem pcop_ok {P : Program} {op : Op} {q : POp} (h : pcop P op = some q) : cop P op = some q.runA ∧ q.ok := by
  unfold pcop at h
  split at h
  · exact p1_ok h (fun _ => rfl) (fun _ k => k)
  · exact p1_ok h (fun _ => rfl) (fun _ k => k)
  · split at h
    case h_2 => cases h
    rename_i c' hc
    simp only [cop, (pcopd_ok hc).1]
    exact p2_ok h (fun _ _ => rfl) (fun _ _ a b => ⟨a, b⟩)
  · split at h
    case h_2 => cases h
    rename_i z hz
    obtain ⟨z1, z2⟩ := pzcells_ok hz
    cases h
    simp only [cop, z1]
    exact ⟨rfl, z2⟩
  · exact p1_ok h (fun _ => rfl) (fun _ k => k)
  · exact pcBuild_ok h
  · exact pcBuildSlice_ok h
  · exact pcMapUpd_ok h
  · exact pcLoad_ok h
  · split at h
    case h_2 => cases h
    rename_i i hi
    simp only [cop, hi]
    exact p2_ok h (fun _ _ => rfl) (fun _ _ _ b => b)
  · exact p1_ok h (fun _ => rfl) (fun _ k => k)
  · exact pcBin_ok h
  · exact p1_ok h (fun _ => rfl) (fun _ _ => trivial)
  · exact p1_ok h (fun _ => rfl) (fun _ _ => trivial)
  · exact pcConv_ok h
  · split at h
    case h_2 => cases h
    rename_i hf
    split at h
    case h_2 => cases h
    rename_i l hl
    obtain ⟨h1, h2⟩ := pcopds_ok hl
    cases h
    simp only [cop, hf, h1]
    exact ⟨rfl, h2⟩
  · split at h
    case h_2 => cases h
    rename_i hu
    simp only [cop, hu]
    split at h
    · cases h; exact ⟨rfl, trivial⟩
    · cases h; exact ⟨rfl, trivial⟩
    · cases h
  · exact pcSlice_ok h
  · exact pcFieldAddr_ok h
  · exact pcField_ok h
  · split at h
    case h_2 => cases h
    rename_i e hu
    split at h
    case h_2 => cases h
    rename_i ie hie
    simp only [cop, hu, hie]
    exact p2_ok h (fun _ _ => rfl) (fun _ _ a _ => a)
  · split at h
    case h_2 => cases h
    rename_i hu
    simp only [cop, hu]
    exact p2_ok h (fun _ _ => rfl) (fun _ _ _ _ => trivial)
  · exact pcLookup_ok h
  · exact pcMapUpd_ok h
  · exact p1_ok (g := fun x => opExtract x _) h (fun _ => rfl) (fun _ k => k)
  · exact pcBuiltin_ok h
  · cases h
end Go.Abs
