/- Bytes to text; fields; and the operations made of the model's. -/
import Derived.Test.YtnhebanimmicaaaGreatDoorAbI
namespace Go.Abs

noncomputable def encA (l : List AV) : Nat → Option Nat :=
  List.rec (motive := fun _ => Nat → Option Nat) (fun acc => some acc) (fun v _ ih acc => match v with
    | .int k n => match k with
      | .u8 => match n with
        | .ofNat n => match Nat.blt n 256 with
          | true => ih (litN (Nat.add (Nat.mul acc 256) n))
          | false => none
        | .negSucc _ => none
      | _ => none
    | _ => none) l
theorem encA_nil (acc : Nat) : encA [] acc = some acc := rfl
theorem encA_cons (v : AV) (l : List AV) (acc : Nat) : encA (v :: l) acc = match v with
    | .int k n => match k with
      | .u8 => match n with
        | .ofNat n => match Nat.blt n 256 with
          | true => encA l (litN (Nat.add (Nat.mul acc 256) n))
          | false => none
        | .negSucc _ => none
      | _ => none
    | _ => none := rfl
theorem encA_ok {μ : Mu} : ∀ {l : List AV} {l' : List Value} (_ : VRels μ l l') {acc r : Nat} (_ : encA l acc = some r),
    ∃ bs : List UInt8, l' = bs.map (fun b => .int .u8 (b.toNat : Int)) ∧ r = bs.foldl (fun a b => a * 256 + b.toNat) acc
  | _, _, .nil, acc, r, h => by cases h; exact ⟨[], rfl, rfl⟩
  | _, _, .cons hv t, acc, r, h => by
    rw [encA_cons] at h
    split at h
    case h_2 => cases h
    rename_i k n
    split at h
    case h_2 => cases h
    split at h
    case h_2 => cases h
    rename_i n
    split at h
    case h_2 => cases h
    rename_i hlt
    have hlt' : n < 256 := by simpa [Nat.blt_eq] using hlt
    rw [litN_eq] at h
    obtain ⟨bs, h1, h2⟩ := encA_ok t h
    cases hv
    have e : (UInt8.ofNat n).toNat = n := by simp; omega
    refine ⟨UInt8.ofNat n :: bs, ?_, ?_⟩
    · rw [List.map_cons, e, h1]; rfl
    · rw [List.foldl_cons, e]; exact h2

noncomputable def opToStr (x : Opd) : Run := fun t s => match ev t x with
  | some .nilslice => some (.str 0 0, s)
  | some (.slice b o len _ es) => match Nat.beq es 1 with
    | false => none
    | true => match s.readN b o len with
      | none => none
      | some l => match encA l 0 with
        | none => none
        | some r => some (mkStr len r, s)
  | _ => none
theorem opToStr_ok {P : Program} {o : Oper} {src dst e : TypeId} {x : Operand} {x' : Opd} (ho : o.op = .convert src dst x) (hs : P.underlying src = some (.slice e)) (he8 : P.underlying e = some (.int .u8)) (hd : P.underlying dst = some .string)
    (hx : copd x = some x') : OpSound P o (opToStr x') :=
  .pure_ fun μ N t s w a v s' hf ht hR => by
    unfold opToStr at hf
    split at hf
    · rename_i hv
      have hp := ev_ok ht hx hv
      generalize he : a.eval x = vc at hp
      cases hp; cases hf
      have hrun := run_convert_bytes_nil (P := P) w src e hs he8 0 0 dst hd
      refine ⟨rfl, .string ByteArray.empty, ?_, .str _ _ _ rfl rfl⟩
      simp only [execOp, ho, he, Sem.run_bind, hrun, Result.andThen_ok]; rfl
    · rename_i b oo len cap es hv
      split at hf
      case h_1 => cases hf
      split at hf
      case h_1 => cases hf
      rename_i l hl
      split at hf
      case h_1 => cases hf
      rename_i r hr
      cases hf
      have hp := ev_ok ht hx hv
      generalize he : a.eval x = vc at hp
      have key : ∀ (bb off cap' : Nat), vc = .slice (some ⟨bb, off, none⟩) len cap' → (∃ l', VRels μ l l' ∧ l'.length = len ∧ RangeIs w bb off l') →
          s = s ∧ ∃ v', (execOp a.eval o).run P w = .ok (.value v') w ∧ VRel μ (mkStr len r) v' := by
        intro bb off cap' hvc ⟨l', q1, q2, q3⟩
        subst hvc
        obtain ⟨bs, g1, g2⟩ := encA_ok q1 hr
        have hbl : bs.length = len := by rw [← q2, g1]; simp
        have hrun := run_convert_bytes_arg (P := P) w src e hs he8 bb off len cap' (bs.map fun b => (b.toNat : Int)) (by simpa using hbl) (fun i hi => by
          have := q3 i (.int .u8 (((bs.map fun b => (b.toNat : Int)).getD i 0))) (by
            rw [g1]; simp [List.getD, List.getElem?_map]
            have hib : i < bs.length := by omega
            simp [List.getElem?_eq_getElem hib])
          exact this) dst hd
        have hstr : strOfNums (bs.map fun b => (b.toNat : Int)) = ⟨bs.toArray⟩ := by
          unfold strOfNums
          congr 1
          simp [List.map_map, Function.comp_def]
        rw [hstr] at hrun
        refine ⟨rfl, .string ⟨bs.toArray⟩, ?_, ?_⟩
        · simp only [execOp, ho, he, Sem.run_bind, hrun, Result.andThen_ok]; rfl
        · have h1 : (⟨bs.toArray⟩ : ByteArray).size = len := by rw [← hbl]; simp [ByteArray.size]
          have h2 : enc (⟨bs.toArray⟩ : ByteArray).data.toList = r := by rw [g2]; rfl
          rw [← h1, ← h2]
          exact mkStr_rel _ _
      cases hp with
      | slice b oo len cap es cb d e' cap' hm hc hl' htt =>
        refine key cb (d + oo) cap' rfl ?_
        unfold St.readN at hl
        split at hl
        · cases hl; exact ⟨[], .nil, rfl, fun j v h => by simp at h⟩
        · obtain ⟨l', q1, q2, q3, _⟩ := read_ok hR hm hl
          exact ⟨l', q1, q2, q3⟩
      | sliceE b oo cap es cb xx hc =>
        refine key cb xx 0 rfl ?_
        unfold St.readN at hl
        cases hl; exact ⟨[], .nil, rfl, fun j v h => by simp at h⟩
    · cases hf

noncomputable def opField1 (off : Nat) (x : Opd) : Run := fun t s => match ev t x with
  | some (.agg l) => match l[off]? with
    | some v => some (v, s)
    | none => none
  | _ => none
theorem opField1_ok {P : Program} {o : Oper} {ti : TypeId} {x : Operand} {x' : Opd} {fi : Nat} {fields : Array Field} {f : Field} {d : TypeDesc} (ho : o.op = .field ti x fi) (hu : P.underlying ti = some (.struct fields))
    (hfi : fields[fi]? = some f) (hd : P.underlying f.type = some d) (hr : d.isRow = false) (hx : copd x = some x') : OpSound P o (opField1 f.offset x') :=
  .pure_ fun μ N t s w a v s' hf ht hR => by
    unfold opField1 at hf
    split at hf
    case h_2 => cases hf
    rename_i l hv
    split at hf
    case h_2 => cases hf
    rename_i v1 hv1
    cases hf
    have hp := ev_ok ht hx hv
    generalize he : a.eval x = vc at hp
    cases hp with | agg l vs h hone =>
    obtain ⟨v', g1, g2⟩ := h.get _ _ hv1
    have g1' : vs[f.offset]? = some v' := by simpa using g1
    refine ⟨rfl, v', ?_, g2⟩
    simp only [execOp, ho, he, Instr.field, asAgg, part, Sem.run_bind, run_underlying hu, Result.andThen_ok, hfi, Sem.run_pure, run_isAgg hd, hr]
    simp [g1']
noncomputable def opFieldN (off n : Nat) (x : Opd) : Run := fun t s => match ev t x with
  | some (.agg l) => match Nat.ble (Nat.add off n) l.length with
    | true => some (.agg ((l.drop off).take n), s)
    | false => none
  | _ => none
theorem opFieldN_ok {P : Program} {o : Oper} {ti : TypeId} {x : Operand} {x' : Opd} {fi : Nat} {fields : Array Field} {f : Field} {d : TypeDesc} {ie : TypeInfo} {n : Nat} (ho : o.op = .field ti x fi) (hu : P.underlying ti = some (.struct fields))
    (hfi : fields[fi]? = some f) (hd : P.underlying f.type = some d) (hr : d.isRow = true) (hie : P.info? f.type = some ie) (hn : ie.size = n) (hx : copd x = some x') : OpSound P o (opFieldN f.offset n x') :=
  .pure_ fun μ N t s w a v s' hf ht hR => by
    unfold opFieldN at hf
    split at hf
    case h_2 => cases hf
    rename_i l hv
    split at hf
    case h_2 => cases hf
    cases hf
    have hp := ev_ok ht hx hv
    generalize he : a.eval x = vc at hp
    cases hp with | agg l vs h hone =>
    have e1 : (vs.extract f.offset (f.offset + n)).toList = (vs.toList.drop f.offset).take n := by
      rw [Array.toList_extract, List.extract_eq_take_drop]; simp
    refine ⟨rfl, .agg (vs.extract f.offset (f.offset + n)), ?_, .agg _ _ (by rw [e1]; exact (h.drop _).take _) (by
      rw [e1]; intro u hu; exact hone u (List.mem_of_mem_drop (List.mem_of_mem_take hu)))⟩
    simp only [execOp, ho, he, Instr.field, asAgg, part, Sem.run_bind, run_underlying hu, Result.andThen_ok, hfi, Sem.run_pure, run_isAgg hd, hr]
    simp [sizeOf, typeInfo, hie, hn]

/-! ### the operations, made -/
noncomputable def mk1 (f : Opd → Run) (x : Operand) : Option Run := match copd x with
  | some y => some (f y)
  | none => none
noncomputable def mk2 (f : Opd → Opd → Run) (x y : Operand) : Option Run := match copd x with
  | some x' => match copd y with
    | some y' => some (f x' y')
    | none => none
  | none => none
theorem mk1_ok {f : Opd → Run} {x : Operand} {r : Run} (h : mk1 f x = some r) : ∃ y, copd x = some y ∧ r = f y := by
  unfold mk1 at h
  split at h
  · rename_i y hy; cases h; exact ⟨y, hy, rfl⟩
  · cases h
theorem mk2_ok {f : Opd → Opd → Run} {x y : Operand} {r : Run} (h : mk2 f x y = some r) : ∃ x' y', copd x = some x' ∧ copd y = some y' ∧ r = f x' y' := by
  unfold mk2 at h
  split at h
  · rename_i x' hx
    split at h
    · rename_i y' hy; cases h; exact ⟨x', y', hx, hy, rfl⟩
    · cases h
  · cases h

/-- A slice type's element: its number, cells, bytes and one more, zero cells. -/
noncomputable def elemOf (P : Program) (t : TypeId) : Option (TypeId × Nat × Nat × List AV) := match P.underlying t with
  | some (.slice e) => match P.info? e with
    | some ie => match zcells P e with
      | some z => match Nat.beq z.length ie.size with
        | true => some (e, ie.size, Nat.succ ie.bytes, z)
        | false => none
      | none => none
    | none => none
  | _ => none
theorem elemOf_ok {P : Program} {t e : TypeId} {n b : Nat} {z : List AV} (h : elemOf P t = some (e, n, b, z)) :
    ∃ ie, P.underlying t = some (.slice e) ∧ P.info? e = some ie ∧ ie.size = n ∧ ie.bytes < b ∧ zcells P e = some z ∧ z.length = n := by
  unfold elemOf at h
  split at h
  case h_2 => cases h
  rename_i e' hu
  split at h
  case h_2 => cases h
  rename_i ie hie
  split at h
  case h_2 => cases h
  rename_i z' hz
  split at h
  case h_2 => cases h
  rename_i hl
  cases h
  exact ⟨ie, hu, hie, rfl, Nat.lt_succ_self _, hz, Nat.eq_of_beq_eq_true hl⟩

noncomputable def cBin (P : Program) (op : BinOp) (tx : TypeId) (x y : Operand) : Option Run := match P.underlying tx with
  | some (.int _) => mk2 (opBin op) x y
  | some .string => mk2 (opBin op) x y
  | some .bool => match op with
    | .eql => mk2 (opEqB false) x y
    | .neq => mk2 (opEqB true) x y
    | _ => none
  | some d => match nilSort d with
    | some n => match op with
      | .eql => mk2 (opEqNil n false) x y
      | .neq => mk2 (opEqNil n true) x y
      | _ => none
    | none => match P.eqGuardType P.depth tx with
      | true => none
      | false => match eqLeaves P 8 tx with
        | none => none
        | some ls => match op with
          | .eql => mk2 (opEqSt false ls) x y
          | .neq => mk2 (opEqSt true ls) x y
          | _ => none
  | none => none
theorem cBin_ok {P : Program} {o : Oper} {op : BinOp} {tx ty : TypeId} {x y : Operand} {r : Run} (ho : o.op = .binOp op tx x y ty) (h : cBin P op tx x y = some r) : OpSound P o r := by
  unfold cBin at h
  split at h
  · obtain ⟨x', y', h1, h2, rfl⟩ := mk2_ok h; exact opBin_ok ho h1 h2
  · obtain ⟨x', y', h1, h2, rfl⟩ := mk2_ok h; exact opBin_ok ho h1 h2
  · rename_i hu
    split at h
    · obtain ⟨x', y', h1, h2, rfl⟩ := mk2_ok h; exact opEqB_ok (neg := false) ho hu h1 h2
    · obtain ⟨x', y', h1, h2, rfl⟩ := mk2_ok h; exact opEqB_ok (neg := true) ho hu h1 h2
    · cases h
  · rename_i d hu
    split at h
    · rename_i n hn
      split at h
      · obtain ⟨x', y', h1, h2, rfl⟩ := mk2_ok h; exact opEqNil_ok (neg := false) ho hu hn h1 h2
      · obtain ⟨x', y', h1, h2, rfl⟩ := mk2_ok h; exact opEqNil_ok (neg := true) ho hu hn h1 h2
      · cases h
    · split at h
      · cases h
      rename_i hg
      split at h
      · cases h
      rename_i ls hl
      split at h
      · obtain ⟨x', y', h1, h2, rfl⟩ := mk2_ok h; exact opEqSt_ok (neg := false) ho hg hl h1 h2
      · obtain ⟨x', y', h1, h2, rfl⟩ := mk2_ok h; exact opEqSt_ok (neg := true) ho hg hl h1 h2
      · cases h
  · cases h

noncomputable def cConv (P : Program) (src dst : TypeId) (x : Operand) : Option Run := match P.underlying src with
  | none => none
  | some ds => match P.underlying dst with
    | some (.int k) => mk1 (opConv k) x
    | some .string => match ds with
      | .string => mk1 opConvStr x
      | .slice e => match P.underlying e with
        | some (.int .u8) => mk1 opToStr x
        | _ => none
      | _ => none
    | _ => none
theorem cConv_ok {P : Program} {o : Oper} {src dst : TypeId} {x : Operand} {r : Run} (ho : o.op = .convert src dst x) (h : cConv P src dst x = some r) : OpSound P o r := by
  unfold cConv at h
  split at h
  case h_1 => cases h
  rename_i ds hs
  split at h
  · rename_i k hd
    obtain ⟨x', h1, rfl⟩ := mk1_ok h
    exact opConv_ok ho hs hd h1
  · rename_i hd
    split at h
    · obtain ⟨x', h1, rfl⟩ := mk1_ok h; exact opConvStr_ok ho hs hd h1
    · rename_i e
      split at h
      · rename_i he8; obtain ⟨x', h1, rfl⟩ := mk1_ok h; exact opToStr_ok ho hs he8 hd h1
      · cases h
    · cases h
  · cases h

/-- Do the parts come in the order of their places? -/
noncomputable def rising (ps : List (Nat × Nat × Opd)) : Nat → Bool := List.rec (motive := fun _ => Nat → Bool) (fun _ => true) (fun p _ ih n => and (Nat.ble n p.1) (ih (Nat.add p.1 p.2.1))) ps
noncomputable def buildR (z : List AV) (ps : List (Nat × Nat × Opd)) : Run := match rising ps 0 with
  | true => opBuildS z ps
  | false => opBuild z ps
noncomputable def cBuild (P : Program) (t : TypeId) (ps : Array (Nat × Operand)) : Option Run := match zcells P t with
  | none => none
  | some z => match P.underlying t with
    | some (.struct fields) => match fields.toList.mapM (fun f => (P.info? f.type).map fun i => (f.offset, i.size)) with
      | none => none
      | some places => match cparts (places.toArray[·]?) ps.toList with
        | some ps' => some (buildR z ps')
        | none => none
    | some (.array _ e) => match P.info? e with
      | none => none
      | some ie => match cparts (fun i => some (i * ie.size, ie.size)) ps.toList with
        | some ps' => some (buildR z ps')
        | none => none
    | _ => none
theorem cBuild_ok {P : Program} {o : Oper} {t : TypeId} {ps : Array (Nat × Operand)} {r : Run} (ho : o.op = .build t ps) (h : cBuild P t ps = some r) : OpSound P o r := by
  unfold cBuild at h
  split at h
  case h_1 => cases h
  rename_i z hz
  split at h
  · rename_i fields hu
    split at h
    case h_1 => cases h
    rename_i places hpl
    split at h
    case h_2 => cases h
    rename_i ps' hp
    cases h
    unfold buildR
    split
    · exact opBuildS_ok ho hz hu hpl hp
    · exact opBuild_ok ho hz hu hpl hp
  · rename_i len e hu
    split at h
    case h_1 => cases h
    rename_i ie hie
    split at h
    case h_2 => cases h
    rename_i ps' hp
    cases h
    unfold buildR
    split
    · exact opBuildA_ok ho hz hu hie rfl hp
    · exact opBuildB_ok ho hz hu hie rfl hp
  · cases h

noncomputable def cBuildSlice (P : Program) (t : TypeId) (len : Nat) (ps : Array (Nat × Operand)) : Option Run := match elemOf P t with
  | none => none
  | some (_, es, _, z) => match Nat.ble (Nat.mul len es) 16777216 with
    | false => none
    | true => match cparts (fun i => some (i * es, es)) ps.toList with
      | some ps' => some (opBuildSlice es len z ps')
      | none => none
theorem cBuildSlice_ok {P : Program} {o : Oper} {t : TypeId} {len : Nat} {ps : Array (Nat × Operand)} {r : Run} (ho : o.op = .buildSlice t len ps) (h : cBuildSlice P t len ps = some r) : OpSound P o r := by
  unfold cBuildSlice at h
  split at h
  case h_1 => cases h
  rename_i e es b z he
  obtain ⟨ie, h1, h2, h3, h4, h5, h6⟩ := elemOf_ok he
  split at h
  case h_1 => cases h
  rename_i hle
  split at h
  case h_2 => cases h
  rename_i ps' hp
  cases h
  exact opBuildSlice_ok ho h5 h1 h2 h3 h6 (Nat.le_of_ble_eq_true hle) hp

noncomputable def cLoad (P : Program) (t : TypeId) (x : Operand) : Option Run := match P.underlying t with
  | none => none
  | some d => match d.isRow with
    | false => mk1 opLoad1 x
    | true => match P.info? t with
      | some i => mk1 (opLoadN i.size) x
      | none => none
theorem cLoad_ok {P : Program} {o : Oper} {t : TypeId} {x : Operand} {r : Run} (ho : o.op = .load t x) (h : cLoad P t x = some r) : OpSound P o r := by
  unfold cLoad at h
  split at h
  case h_1 => cases h
  rename_i d hu
  split at h
  · rename_i hr; obtain ⟨x', h1, rfl⟩ := mk1_ok h; exact opLoad1_ok ho hu hr h1
  · rename_i hr
    split at h
    · rename_i i hi; obtain ⟨x', h1, rfl⟩ := mk1_ok h; exact opLoadN_ok ho hu hr hi rfl h1
    · cases h

noncomputable def cFieldAddr (P : Program) (t : TypeId) (x : Operand) (fi : Nat) : Option Run := match P.underlying t with
  | some (.struct fields) => match fields[fi]? with
    | some f => match P.info? f.type with
      | some i => match i.size with
        | 0 => none
        | _ + 1 => mk1 (opFieldAddr f.offset) x
      | none => none
    | none => none
  | _ => none
theorem cFieldAddr_ok {P : Program} {o : Oper} {t : TypeId} {x : Operand} {fi : Nat} {r : Run} (ho : o.op = .fieldAddr t x fi) (h : cFieldAddr P t x fi = some r) : OpSound P o r := by
  unfold cFieldAddr at h
  split at h
  case h_2 => cases h
  rename_i fields hu
  split at h
  case h_2 => cases h
  rename_i f hf
  split at h
  case h_2 => cases h
  rename_i i hi
  split at h
  case h_1 => cases h
  rename_i n hn
  obtain ⟨x', h1, rfl⟩ := mk1_ok h
  exact opFieldAddr_ok ho hu hf hi (by rw [hn]; omega) h1

noncomputable def cField (P : Program) (t : TypeId) (x : Operand) (fi : Nat) : Option Run := match P.underlying t with
  | some (.struct fields) => match fields[fi]? with
    | some f => match P.underlying f.type with
      | some d => match d.isRow with
        | false => mk1 (opField1 f.offset) x
        | true => match P.info? f.type with
          | some i => mk1 (opFieldN f.offset i.size) x
          | none => none
      | none => none
    | none => none
  | _ => none
theorem cField_ok {P : Program} {o : Oper} {t : TypeId} {x : Operand} {fi : Nat} {r : Run} (ho : o.op = .field t x fi) (h : cField P t x fi = some r) : OpSound P o r := by
  unfold cField at h
  split at h
  case h_2 => cases h
  rename_i fields hu
  split at h
  case h_2 => cases h
  rename_i f hf
  split at h
  case h_2 => cases h
  rename_i d hd
  split at h
  · rename_i hr; obtain ⟨x', h1, rfl⟩ := mk1_ok h; exact opField1_ok ho hu hf hd hr h1
  · rename_i hr
    split at h
    · rename_i i hi; obtain ⟨x', h1, rfl⟩ := mk1_ok h; exact opFieldN_ok ho hu hf hd hr hi rfl h1
    · cases h

noncomputable def cSlice (P : Program) (t : TypeId) (x : Operand) (lo hi mx : Option Operand) : Option Run := match copd x with
  | none => none
  | some x' => match copdo lo with
    | none => none
    | some lo' => match copdo hi with
      | none => none
      | some hi' => match P.underlying t with
        | some .string => match mx with
          | none => some (opSliceStr x' lo' hi')
          | some _ => none
        | some (.slice e) => match P.info? e with
          | some ie => match copdo mx with
            | some mx' => some (opSliceS ie.size x' lo' hi' mx')
            | none => none
          | none => none
        | _ => none
theorem cSlice_ok {P : Program} {o : Oper} {t : TypeId} {x : Operand} {lo hi mx : Option Operand} {r : Run} (ho : o.op = .slice t x lo hi mx) (h : cSlice P t x lo hi mx = some r) : OpSound P o r := by
  unfold cSlice at h
  split at h
  case h_1 => cases h
  rename_i x' hx
  split at h
  case h_1 => cases h
  rename_i lo' hlo
  split at h
  case h_1 => cases h
  rename_i hi' hhi
  split at h
  · rename_i hu
    split at h
    · cases h; exact opSliceStr_ok ho hu hx hlo hhi
    · cases h
  · rename_i e hu
    split at h
    case h_2 => cases h
    rename_i ie hie
    split at h
    case h_2 => cases h
    rename_i mx' hmx
    cases h
    exact opSliceS_ok ho hu hie rfl hx hlo hhi hmx
  · cases h

noncomputable def cLookup (P : Program) (t : TypeId) (x y : Operand) (ok : Bool) : Option Run := match P.underlying t with
  | some (.map k e) => match P.underlying k with
    | some d => match P.info? e with
      | some ie => match ie.zero with
        | some zv => match cval 5 zv with
          | some z => mk2 (fun x y => opLookup d z x y ok) x y
          | none => none
        | none => none
      | none => none
    | none => none
  | _ => none
theorem cLookup_ok {P : Program} {o : Oper} {t : TypeId} {x y : Operand} {ok : Bool} {r : Run} (ho : o.op = .lookup t x y ok) (h : cLookup P t x y ok = some r) : OpSound P o r := by
  unfold cLookup at h
  split at h
  case h_2 => cases h
  rename_i k e hu
  split at h
  case h_2 => cases h
  rename_i d hd
  split at h
  case h_2 => cases h
  rename_i ie hie
  split at h
  case h_2 => cases h
  rename_i zv hzv
  split at h
  case h_2 => cases h
  rename_i z hz
  obtain ⟨x', y', h1, h2, rfl⟩ := mk2_ok h
  exact opLookup_ok ho hu hd hie hzv hz h1 h2

noncomputable def cMapUpd (P : Program) (t : TypeId) (x y z : Operand) : Option Run := match P.underlying t with
  | some (.map k _) => match P.underlying k with
    | some d => match copd z with
      | some z' => mk2 (fun x y => opMapUpd d x y z') x y
      | none => none
    | none => none
  | _ => none
theorem cMapUpd_ok {P : Program} {o : Oper} {t : TypeId} {x y z : Operand} {r : Run} (ho : o.op = .mapUpdate t x y z ∨ o.op = .insert t x y z) (h : cMapUpd P t x y z = some r) : OpSound P o r := by
  unfold cMapUpd at h
  split at h
  case h_2 => cases h
  rename_i k e hu
  split at h
  case h_2 => cases h
  rename_i d hd
  split at h
  case h_2 => cases h
  rename_i z' hz
  obtain ⟨x', y', h1, h2, rfl⟩ := mk2_ok h
  exact opMapUpd_ok ho hu hd h1 h2 hz

noncomputable def cBuiltin (P : Program) (b : Builtin) (xs : List Operand) (ts : List TypeId) : Option Run := match b with
  | .len => match xs, ts with
    | [x], [t] => match P.underlying t with
      | some .string => mk1 opLenStr x
      | some (.slice _) => mk1 opLenS x
      | _ => none
    | _, _ => none
  | .cap => match xs, ts with
    | [x], [t] => match P.underlying t with
      | some (.slice _) => mk1 opCap x
      | _ => none
    | _, _ => none
  | .append => match xs, ts with
    | [x, y], [t, u] => match elemOf P t with
      | some (_, es, by_, z) => match P.underlying u with
        | some (.slice _) => mk2 (opAppend es by_) x y
        | some (.int _) => mk2 (opAppendZ es by_ z) x y
        | _ => none
      | none => none
    | _, _ => none
  | .clear => match xs, ts with
    | [x], [t] => match elemOf P t with
      | some (_, _, _, z) => mk1 (opClear z) x
      | none => none
    | _, _ => none
  | .min => match xs, ts with
    | [x, y], [_, _] => mk2 opMin x y
    | _, _ => none
  | .max => match xs, ts with
    | [x, y], [_, _] => mk2 opMax x y
    | _, _ => none
  | _ => none
theorem cBuiltin_ok {P : Program} {o : Oper} {b : Builtin} {xs : Array Operand} {ts : Array TypeId} {r : Run} (ho : o.op = .call { callee := .builtin b, args := xs, argTypes := ts }) (h : cBuiltin P b xs.toList ts.toList = some r) : OpSound P o r := by
  unfold cBuiltin at h
  split at h
  · split at h
    case h_2 => cases h
    rename_i x t hxs hts
    have e1 : xs = #[x] := Array.ext' hxs
    have e2 : ts = #[t] := Array.ext' hts
    subst e1 e2
    split at h
    · rename_i hu; obtain ⟨x', h1, rfl⟩ := mk1_ok h; exact opLenStr_ok ho hu h1
    · rename_i hu; obtain ⟨x', h1, rfl⟩ := mk1_ok h; exact opLenS_ok ho hu h1
    · cases h
  · split at h
    case h_2 => cases h
    rename_i x t hxs hts
    have e1 : xs = #[x] := Array.ext' hxs
    have e2 : ts = #[t] := Array.ext' hts
    subst e1 e2
    split at h
    · rename_i hu; obtain ⟨x', h1, rfl⟩ := mk1_ok h; exact opCap_ok ho hu h1
    · cases h
  · split at h
    case h_2 => cases h
    rename_i x y t u hxs hts
    have e1 : xs = #[x, y] := Array.ext' hxs
    have e2 : ts = #[t, u] := Array.ext' hts
    subst e1 e2
    split at h
    case h_2 => cases h
    rename_i e es by_ z he
    obtain ⟨ie, h1, h2, h3, h4, h5, h6⟩ := elemOf_ok he
    split at h
    · rename_i hu; obtain ⟨x', y', g1, g2, rfl⟩ := mk2_ok h; exact opAppend_ok ho h1 hu h2 h3 h5 h6 h4 g1 g2
    · rename_i hu; obtain ⟨x', y', g1, g2, rfl⟩ := mk2_ok h; exact opAppendZ_ok ho h1 hu h2 h3 h5 h6 h4 g1 g2
    · cases h
  · split at h
    case h_2 => cases h
    rename_i x t hxs hts
    have e1 : xs = #[x] := Array.ext' hxs
    have e2 : ts = #[t] := Array.ext' hts
    subst e1 e2
    split at h
    case h_2 => cases h
    rename_i e es by_ z he
    obtain ⟨ie, h1, h2, h3, h4, h5, h6⟩ := elemOf_ok he
    obtain ⟨x', g1, rfl⟩ := mk1_ok h
    exact opClear_ok ho h1 h5 g1
  · split at h
    case h_2 => cases h
    rename_i x y t u hxs hts
    have e1 : xs = #[x, y] := Array.ext' hxs
    have e2 : ts = #[t, u] := Array.ext' hts
    subst e1 e2
    obtain ⟨x', y', g1, g2, rfl⟩ := mk2_ok h; exact opMin_ok ho g1 g2
  · split at h
    case h_2 => cases h
    rename_i x y t u hxs hts
    have e1 : xs = #[x, y] := Array.ext' hxs
    have e2 : ts = #[t, u] := Array.ext' hts
    subst e1 e2
    obtain ⟨x', y', g1, g2, rfl⟩ := mk2_ok h; exact opMax_ok ho g1 g2
  · cases h

/-- An operation of the model's, but for calls. -/
noncomputable def cop (P : Program) (op : Op) : Option Run := match op with
  | .move x => mk1 opMove x
  | .assign x => mk1 opMove x
  | .pick c x y => match copd c with
    | some c' => mk2 (opPick c') x y
    | none => none
  | .alloc t => match zcells P t with
    | some z => some (opAlloc z)
    | none => none
  | .box _ x => mk1 opBox x
  | .build t ps => cBuild P t ps
  | .buildSlice t len ps => cBuildSlice P t len ps
  | .insert t x y z => cMapUpd P t x y z
  | .load t x => cLoad P t x
  | .store t x y => match P.info? t with
    | some i => mk2 (opStore i.size) x y
    | none => none
  | .nilCheck x => mk1 opNilCheck x
  | .binOp op tx x y _ => cBin P op tx x y
  | .unOp .not _ x => mk1 opNot x
  | .unOp .neg _ x => mk1 opNeg x
  | .convert src dst x => cConv P src dst x
  | .makeInterface t x => match P.underlying t with
    | some (.interface _) => none
    | some _ => mk1 (opIface t) x
    | none => none
  | .makeFunc (.func f) first caps => match first.toList with
    | [] => match copds caps.toList with
      | some l => some (opMkfn f l)
      | none => none
    | _ => none
  | .makeMap t r => match P.underlying t with
    | some (.map _ _) => match r with
      | none => some opMkmap
      | some (.const (.int _ _)) => some opMkmap
      | _ => none
    | _ => none
  | .makeSlice t x y => match elemOf P t with
    | some (_, es, by_, z) => mk2 (opMkslice es by_ z) x y
    | none => none
  | .slice t x lo hi mx => cSlice P t x lo hi mx
  | .fieldAddr t x fi => cFieldAddr P t x fi
  | .field t x fi => cField P t x fi
  | .indexAddr t x i => match P.underlying t with
    | some (.slice e) => match P.info? e with
      | some ie => mk2 (opIndexAddr ie.size) x i
      | none => none
    | some (.array len e) => match P.info? e with
      | some ie => mk2 (opIndexAddrA len ie.size) x i
      | none => none
    | _ => none
  | .range t x => match P.underlying t with
    | some (.map _ _) => mk1 opRange x
    | _ => none
  | .next x str => match str with
    | false => mk1 opNext x
    | true => none
  | .entry x => mk1 opEntry x
  | .index t x i => match P.underlying t with
    | some .string => mk2 opIndexStr x i
    | _ => none
  | .lookup t x y ok => cLookup P t x y ok
  | .mapUpdate t x y z => cMapUpd P t x y z
  | .extract x i => mk1 (fun x => opExtract x i) x
  | .call { callee := .builtin b, args, argTypes } => cBuiltin P b args.toList argTypes.toList
  | _ => none

theorem cop_ok {P : Program} {o : Oper} {r : Run} (h : cop P o.op = some r) : OpSound P o r := by
  cases ho : o.op with
  | move x => rw [ho] at h; obtain ⟨x', h1, rfl⟩ := mk1_ok h; exact opMove_ok (.inl ho) h1
  | assign x => rw [ho] at h; obtain ⟨x', h1, rfl⟩ := mk1_ok h; exact opMove_ok (.inr ho) h1
  | pick c x y =>
    rw [ho] at h
    simp only [cop] at h
    split at h
    · rename_i c' hc; obtain ⟨x', y', h1, h2, rfl⟩ := mk2_ok h; exact opPick_ok ho hc h1 h2
    · cases h
  | alloc t =>
    rw [ho] at h
    simp only [cop] at h
    split at h
    · rename_i z hz; cases h; exact opAlloc_ok ho hz
    · cases h
  | box e x => rw [ho] at h; obtain ⟨x', h1, rfl⟩ := mk1_ok h; exact opBox_ok ho h1
  | build t ps => rw [ho] at h; exact cBuild_ok ho h
  | buildSlice t len ps => rw [ho] at h; exact cBuildSlice_ok ho h
  | insert t x y z => rw [ho] at h; exact cMapUpd_ok (.inr ho) h
  | load t x => rw [ho] at h; exact cLoad_ok ho h
  | store t x y =>
    rw [ho] at h
    simp only [cop] at h
    split at h
    · rename_i i hi; obtain ⟨x', y', h1, h2, rfl⟩ := mk2_ok h; exact opStore_ok ho hi rfl h1 h2
    · cases h
  | nilCheck x => rw [ho] at h; obtain ⟨x', h1, rfl⟩ := mk1_ok h; exact opNilCheck_ok ho h1
  | binOp op tx x y ty => rw [ho] at h; exact cBin_ok ho h
  | unOp u t x =>
    rw [ho] at h
    cases u <;> simp only [cop] at h
    case not => obtain ⟨x', h1, rfl⟩ := mk1_ok h; exact opNot_ok ho h1
    case neg => obtain ⟨x', h1, rfl⟩ := mk1_ok h; exact opNeg_ok ho h1
    all_goals cases h
  | convert src dst x => rw [ho] at h; exact cConv_ok ho h
  | makeInterface t x =>
    rw [ho] at h
    simp only [cop] at h
    split at h
    · cases h
    · rename_i d hd hu; obtain ⟨x', h1, rfl⟩ := mk1_ok h; exact opIface_ok ho hu (fun ms hm => hd ms hm) h1
    · cases h
  | makeFunc fn first caps =>
    rw [ho] at h
    cases fn <;> simp only [cop] at h
    case func f =>
      split at h
      · rename_i hf
        split at h
        · rename_i l hl
          cases h
          have : first = #[] := Array.ext' hf
          subst this
          exact opMkfn_ok ho hl
        · cases h
      · cases h
    all_goals cases h
  | makeMap t r =>
    rw [ho] at h
    simp only [cop] at h
    split at h
    · rename_i k e hu
      split at h
      · cases h; exact opMkmap_ok ho hu (.inl rfl)
      · cases h; exact opMkmap_ok ho hu (.inr ⟨_, _, rfl⟩)
      · cases h
    · cases h
  | makeSlice t x y =>
    rw [ho] at h
    simp only [cop] at h
    split at h
    · rename_i e es by_ z he
      obtain ⟨ie, h1, h2, h3, h4, h5, h6⟩ := elemOf_ok he
      obtain ⟨x', y', g1, g2, rfl⟩ := mk2_ok h
      exact opMkslice_ok ho h5 h1 h2 h3 h6 h4 g1 g2
    · cases h
  | slice t x lo hi mx => rw [ho] at h; exact cSlice_ok ho h
  | fieldAddr t x fi => rw [ho] at h; exact cFieldAddr_ok ho h
  | field t x fi => rw [ho] at h; exact cField_ok ho h
  | indexAddr t x i =>
    rw [ho] at h
    simp only [cop] at h
    split at h
    · rename_i e hu
      split at h
      · rename_i ie hie; obtain ⟨x', y', g1, g2, rfl⟩ := mk2_ok h; exact opIndexAddr_ok ho hu hie rfl g1 g2
      · cases h
    · rename_i len e hu
      split at h
      · rename_i ie hie; obtain ⟨x', y', g1, g2, rfl⟩ := mk2_ok h; exact opIndexAddrA_ok ho hu hie rfl g1 g2
      · cases h
    · cases h
  | range t x =>
    rw [ho] at h
    simp only [cop] at h
    split at h
    · rename_i k e hu; obtain ⟨x', h1, rfl⟩ := mk1_ok h; exact opRange_ok ho hu h1
    · cases h
  | next x str =>
    rw [ho] at h
    cases str with
    | false => simp only [cop] at h; obtain ⟨x', h1, rfl⟩ := mk1_ok h; exact opNext_ok ho h1
    | true => simp only [cop] at h; cases h
  | entry x => rw [ho] at h; obtain ⟨x', h1, rfl⟩ := mk1_ok h; exact opEntry_ok ho h1
  | index t x i =>
    rw [ho] at h
    simp only [cop] at h
    split at h
    · rename_i hu; obtain ⟨x', y', g1, g2, rfl⟩ := mk2_ok h; exact opIndexStr_ok ho hu g1 g2
    · cases h
  | lookup t x y ok => rw [ho] at h; exact cLookup_ok ho h
  | mapUpdate t x y z => rw [ho] at h; exact cMapUpd_ok (.inl ho) h
  | extract x i => rw [ho] at h; obtain ⟨x', h1, rfl⟩ := mk1_ok h; exact opExtract_ok ho h1
  | call c =>
    rw [ho] at h
    obtain ⟨callee, args, ts⟩ := c
    cases callee <;> simp only [cop] at h
    case builtin b => exact cBuiltin_ok ho h
    all_goals cases h
  | _ => rw [ho] at h; cases h

end Go.Abs
