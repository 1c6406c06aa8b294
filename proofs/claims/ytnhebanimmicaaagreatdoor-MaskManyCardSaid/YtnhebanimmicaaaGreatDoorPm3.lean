/- More operations on values that bear what they lead to. -/
import Derived.Test.YtnhebanimmicaaaGreatDoorPm2
namespace Go.Abs

theorem pIndexStr_sim {x i : POpd} : OpSim (pIndexStr x i) (opIndexStr x.toA i.toA) := .pure_ fun T t S s v S' hf he hs hw => by
  unfold pIndexStr at hf
  unfold opIndexStr
  split at hf
  case h_2 => cases hf
  rename_i l hx
  split at hf
  case h_2 => cases hf
  rename_i k j hi
  split at hf
  case isFalse => cases hf
  rename_i h0
  split at hf
  case h_2 => cases hf
  rename_i c hc
  cases hf
  obtain ⟨n, rfl⟩ : ∃ n : Nat, j = Int.ofNat n := ⟨j.toNat, by simp only [Int.ofNat_eq_natCast]; omega⟩
  have hn : n < l.length := (List.getElem?_eq_some_iff.1 hc).1
  have hg := enc_get l n hn
  have hcn : l[n] = c := by
    have h1 : l[n]? = some c := hc
    rw [List.getElem?_eq_getElem hn] at h1; exact Option.some.inj h1
  refine ⟨rfl, ?_, wf_int⟩
  rw [pev_sim he hx]
  simp only [V.er]
  rw [pev_sim he hi]
  have hlt : Nat.blt n l.length = true := by rw [Nat.blt_eq]; exact hn
  simp only [V.er, hlt, litN_eq]
  rw [hcn] at hg
  have e : Nat.mod (Nat.div (enc l) (Nat.pow 256 (Nat.sub (Nat.sub l.length 1) n))) 256 = c.toNat := hg.symm
  rw [e]
  rfl

/-! ### arithmetic -/
def pInt (op : BinOp) (k : IntKind) (a : Int) (k' : IntKind) (b : Int) : Option V :=
  match op with
  | .shl => if 0 ≤ b then some (.int k (k.wrap (a * 2 ^ (min b.toNat k.bits)))) else none
  | .shr => if 0 ≤ b then some (.int k (a.fdiv (2 ^ (min b.toNat k.bits)))) else none
  | .add => if k = k' then some (.int k (k.wrap (a + b))) else none
  | .sub => if k = k' then some (.int k (k.wrap (a - b))) else none
  | .mul => if k = k' then some (.int k (k.wrap (a * b))) else none
  | .quo => if k = k' ∧ b ≠ 0 then some (.int k (k.wrap (a.tdiv b))) else none
  | .rem => if k = k' ∧ b ≠ 0 then some (.int k (a.tmod b)) else none
  | .and => if k = k' then some (.int k (k.wrap ((BitVec.ofInt k.bits a).and (BitVec.ofInt k.bits b)).toNat)) else none
  | .or => if k = k' then some (.int k (k.wrap ((BitVec.ofInt k.bits a).or (BitVec.ofInt k.bits b)).toNat)) else none
  | .xor => if k = k' then some (.int k (k.wrap ((BitVec.ofInt k.bits a).xor (BitVec.ofInt k.bits b)).toNat)) else none
  | .andNot => if k = k' then some (.int k (k.wrap ((BitVec.ofInt k.bits a) &&& ~~~(BitVec.ofInt k.bits b)).toNat)) else none
  | .eql => if k = k' then some (.bool (decide (a = b))) else none
  | .neq => if k = k' then some (.bool (!decide (a = b))) else none
  | .lss => if k = k' then some (.bool (decide (a < b))) else none
  | .leq => if k = k' then some (.bool (!decide (b < a))) else none
  | .gtr => if k = k' then some (.bool (decide (b < a))) else none
  | .geq => if k = k' then some (.bool (!decide (a < b))) else none
theorem pInt_sim {op : BinOp} {k k' : IntKind} {a b : Int} {v : V} (h : pInt op k a k' b = some v) : intBin op k a k' b = some v.er ∧ v.rows = [] := by
  have hd : eqI a b = decide (a = b) := by rw [eqI_eq]; rfl
  unfold pInt at h
  cases op <;> simp only at h <;> split at h <;> first | (cases h; done) | skip
  case shl =>
    rename_i hb; cases h
    obtain ⟨n, rfl⟩ : ∃ n : Nat, b = Int.ofNat n := ⟨b.toNat, by simp only [Int.ofNat_eq_natCast]; omega⟩
    simp only [intBin, mkInt_eq, wrapF_eq, V.er]; first | exact ⟨rfl, rfl⟩ | exact ⟨trivial, rfl⟩
  case shr =>
    rename_i hb; cases h
    obtain ⟨n, rfl⟩ : ∃ n : Nat, b = Int.ofNat n := ⟨b.toNat, by simp only [Int.ofNat_eq_natCast]; omega⟩
    simp only [intBin, mkInt_eq, V.er]; first | exact ⟨rfl, rfl⟩ | exact ⟨trivial, rfl⟩
  case quo =>
    rename_i hb; cases h
    obtain ⟨rfl, hb⟩ := hb
    have : eqI b 0 = false := by rw [eqI_eq, beq_eq_false_iff_ne]; exact hb
    simp only [intBin, kbeq_eq.2 rfl, this, mkInt_eq, wrapF_eq, V.er]; first | exact ⟨rfl, rfl⟩ | exact ⟨trivial, rfl⟩
  case rem =>
    rename_i hb; cases h
    obtain ⟨rfl, hb⟩ := hb
    have : eqI b 0 = false := by rw [eqI_eq, beq_eq_false_iff_ne]; exact hb
    simp only [intBin, kbeq_eq.2 rfl, this, mkInt_eq, V.er]; first | exact ⟨rfl, rfl⟩ | exact ⟨trivial, rfl⟩
  all_goals
    rename_i hk; subst hk; cases h
    simp only [intBin, kbeq_eq.2 rfl, mkInt_eq, wrapF_eq, mkBool_eq, bits2, hd, ltI_eq, V.er]
    first | exact ⟨rfl, rfl⟩ | exact ⟨trivial, rfl⟩
def pStr (op : BinOp) (x y : List UInt8) : Option V :=
  match op with
  | .add => if x.length + y.length ≤ 4611686018427387904 then some (.str (x ++ y)) else none
  | .eql => some (.bool (decide (x = y)))
  | .neq => some (.bool (!decide (x = y)))
  | .lss => some (.bool (Op.bytesLess x y))
  | .leq => some (.bool (Op.bytesLess x y || decide (x = y)))
  | .gtr => some (.bool (!(Op.bytesLess x y || decide (x = y))))
  | .geq => some (.bool (!Op.bytesLess x y))
  | _ => none
theorem mkStr_enc (l : List UInt8) : mkStr l.length (enc l) = .str l.length (enc l) := mkStr_eq _ _ (fun h => by rw [List.eq_nil_of_length_eq_zero h]; rfl)
theorem pStr_sim {op : BinOp} {x y : List UInt8} {v : V} (h : pStr op x y = some v) : strBin op x.length (enc x) y.length (enc y) = some v.er ∧ v.rows = [] := by
  have heq : strEq x.length (enc x) y.length (enc y) = decide (x = y) := by rw [strEq_eq, Bool.eq_iff_iff]; simp
  have hlt : strLt x.length (enc x) y.length (enc y) = Op.bytesLess x y := strLt_eq x y
  unfold pStr at h
  cases op <;> simp only at h
  case add =>
    split at h
    case isFalse => cases h
    rename_i hl
    cases h
    have e1 : Nat.add x.length y.length = (x ++ y).length := by simp
    have hb : Nat.ble (x ++ y).length 4611686018427387904 = true := Nat.ble_eq_true_of_le (by rw [← e1]; exact hl)
    have e2 : Nat.add (Nat.mul (enc x) (Nat.pow 256 y.length)) (enc y) = enc (x ++ y) := by rw [enc_append]; rfl
    simp only [strBin, e1, hb, e2, mkStr_enc, V.er]
    first | exact ⟨rfl, rfl⟩ | exact ⟨trivial, rfl⟩
  all_goals first
    | (cases h; done)
    | (cases h; simp only [strBin, mkBool_eq, heq, hlt, V.er]; first | exact ⟨rfl, rfl⟩ | exact ⟨trivial, rfl⟩)
def pBin (op : BinOp) (x y : POpd) : PRun := fun T S => match pev T x with
  | some (.int k a) => match pev T y with
    | some (.int k' b) => match pInt op k a k' b with
      | some v => some (v, S)
      | none => none
    | _ => none
  | some (.str a) => match pev T y with
    | some (.str b) => match pStr op a b with
      | some v => some (v, S)
      | none => none
    | _ => none
  | _ => none
theorem pBin_sim {op : BinOp} {x y : POpd} : OpSim (pBin op x y) (opBin op x.toA y.toA) := .pure_ fun T t S s v S' hf he hs hw => by
  unfold pBin at hf
  unfold opBin
  split at hf
  · rename_i k a hx
    split at hf
    case h_2 => cases hf
    rename_i k' b hy
    split at hf
    case h_2 => cases hf
    rename_i u hu
    cases hf
    obtain ⟨h1, h2⟩ := pInt_sim hu
    refine ⟨rfl, ?_, .of_none h2⟩
    rw [pev_sim he hx]
    simp only [V.er]
    rw [pev_sim he hy]
    simp only [V.er, h1]
  · rename_i a hx
    split at hf
    case h_2 => cases hf
    rename_i b hy
    split at hf
    case h_2 => cases hf
    rename_i u hu
    cases hf
    obtain ⟨h1, h2⟩ := pStr_sim hu
    refine ⟨rfl, ?_, .of_none h2⟩
    rw [pev_sim he hx]
    simp only [V.er]
    rw [pev_sim he hy]
    simp only [V.er, h1]
  · cases hf
def pEqB (neg : Bool) (x y : POpd) : PRun := fun T S => match pev T x with
  | some (.bool a) => match pev T y with
    | some (.bool b) => some (.bool (if neg then (a != b) else (a == b)), S)
    | _ => none
  | _ => none
theorem pEqB_sim {neg : Bool} {x y : POpd} : OpSim (pEqB neg x y) (opEqB neg x.toA y.toA) := .pure_ fun T t S s v S' hf he hs hw => by
  unfold pEqB at hf
  unfold opEqB
  split at hf
  case h_2 => cases hf
  rename_i a hx
  split at hf
  case h_2 => cases hf
  rename_i b hy
  cases hf
  refine ⟨rfl, ?_, wf_bool⟩
  rw [pev_sim he hx]
  simp only [V.er]
  rw [pev_sim he hy]
  cases a <;> cases b <;> cases neg <;> rfl
/-- sort: 0 slices, 1 maps, 2 pointers, 3 functions. -/
def pNilEq (sort : Nat) (x y : V) : Option Bool := match sort with
  | 0 => match x, y with
    | .nilrow, .nilrow => some true
    | .nilrow, .row .. => some false
    | .row .., .nilrow => some false
    | _, _ => none
  | 1 => match x, y with
    | .nilmap, .nilmap => some true
    | .nilmap, .map _ => some false
    | .map _, .nilmap => some false
    | _, _ => none
  | 2 => match x, y with
    | .nilptr, .nilptr => some true
    | .nilptr, .ptr .. => some false
    | .nilptr, .eptr .. => some false
    | .ptr .., .nilptr => some false
    | .eptr .., .nilptr => some false
    | _, _ => none
  | _ => none
theorem pNilEq_sim {n : Nat} {x y : V} {b : Bool} (h : pNilEq n x y = some b) : nilEq n x.er y.er = some b := by
  unfold pNilEq at h
  split at h
  · split at h <;> first | (cases h; done) | (cases h; rfl)
  · split at h <;> first | (cases h; done) | (cases h; rfl)
  · split at h <;> first | (cases h; done) | (cases h; rfl)
  · cases h
def pEqNil (sort : Nat) (neg : Bool) (x y : POpd) : PRun := fun T S => match pev T x with
  | some u => match pev T y with
    | some v => match pNilEq sort u v with
      | some b => some (.bool (if neg then !b else b), S)
      | none => none
    | none => none
  | none => none
theorem pEqNil_sim {sort : Nat} {neg : Bool} {x y : POpd} : OpSim (pEqNil sort neg x y) (opEqNil sort neg x.toA y.toA) := .pure_ fun T t S s v S' hf he hs hw => by
  unfold pEqNil at hf
  unfold opEqNil
  split at hf
  case h_2 => cases hf
  rename_i a hx
  split at hf
  case h_2 => cases hf
  rename_i b hy
  split at hf
  case h_2 => cases hf
  rename_i c hc
  cases hf
  have := pNilEq_sim hc
  refine ⟨rfl, ?_, wf_bool⟩
  rw [pev_sim he hx]
  simp only
  rw [pev_sim he hy]
  simp only [this]
  cases neg <;> cases c <;> rfl
def pNot (x : POpd) : PRun := fun T S => match pev T x with
  | some (.bool b) => some (.bool (!b), S)
  | _ => none
theorem pNot_sim {x : POpd} : OpSim (pNot x) (opNot x.toA) := .pure_ fun T t S s v S' hf he hs hw => by
  unfold pNot at hf
  unfold opNot
  split at hf
  case h_2 => cases hf
  rename_i a hx
  cases hf
  refine ⟨rfl, ?_, wf_bool⟩
  rw [pev_sim he hx]
  cases a <;> rfl
def pNeg (x : POpd) : PRun := fun T S => match pev T x with
  | some (.int k n) => some (.int k (k.wrap (0 - n)), S)
  | _ => none
theorem pNeg_sim {x : POpd} : OpSim (pNeg x) (opNeg x.toA) := .pure_ fun T t S s v S' hf he hs hw => by
  unfold pNeg at hf
  unfold opNeg
  split at hf
  case h_2 => cases hf
  rename_i k n hx
  cases hf
  refine ⟨rfl, ?_, wf_int⟩
  rw [pev_sim he hx]
  simp only [V.er, mkInt_eq, wrapF_eq]
def pConv (k : IntKind) (x : POpd) : PRun := fun T S => match pev T x with
  | some (.int _ n) => some (.int k (k.wrap n), S)
  | _ => none
theorem pConv_sim {k : IntKind} {x : POpd} : OpSim (pConv k x) (opConv k x.toA) := .pure_ fun T t S s v S' hf he hs hw => by
  unfold pConv at hf
  unfold opConv
  split at hf
  case h_2 => cases hf
  rename_i k n hx
  cases hf
  refine ⟨rfl, ?_, wf_int⟩
  rw [pev_sim he hx]
  simp only [V.er, mkInt_eq, wrapF_eq]
def pConvStr (x : POpd) : PRun := fun T S => match pev T x with
  | some (.str l) => some (.str l, S)
  | _ => none
theorem pConvStr_sim {x : POpd} : OpSim (pConvStr x) (opConvStr x.toA) := .pure_ fun T t S s v S' hf he hs hw => by
  unfold pConvStr at hf
  unfold opConvStr
  split at hf
  case h_2 => cases hf
  rename_i l hx
  cases hf
  exact ⟨rfl, by rw [pev_sim he hx]; rfl, wf_str⟩
def pExtract (x : POpd) (i : Nat) : PRun := fun T S => match pev T x with
  | some (.tup l) => match l[i]? with
    | some v => some (v, S)
    | none => none
  | _ => none
theorem pExtract_sim {x : POpd} {i : Nat} (ho : x.ok) : OpSim (pExtract x i) (opExtract x.toA i) := .pure_ fun T t S s v S' hf he hs hw => by
  unfold pExtract at hf
  unfold opExtract
  split at hf
  case h_2 => cases hf
  rename_i l hx
  split at hf
  case h_2 => cases hf
  rename_i u hu
  cases hf
  refine ⟨rfl, ?_, (pev_wf hw ho hx).of_tup _ (List.mem_of_getElem? hu)⟩
  rw [pev_sim he hx]
  simp only [V.er, V.ers_eq, List.getElem?_map, hu, Option.map_some]
def pMkfn (f : Nat) (caps : List POpd) : PRun := fun T S => match pevs T caps with
  | some l => some (.fn f l, S)
  | none => none
theorem pMkfn_sim {f : Nat} {caps : List POpd} (ho : okL caps) : OpSim (pMkfn f caps) (opMkfn f (caps.map POpd.toA)) := .pure_ fun T t S s v S' hf he hs hw => by
  unfold pMkfn at hf
  unfold opMkfn
  split at hf
  case h_2 => cases hf
  rename_i l hl
  cases hf
  obtain ⟨h1, h2⟩ := pevs_sim he hw ho hl
  exact ⟨rfl, by rw [h1]; simp only [V.er, V.ers_eq], .fn h2⟩
def pField1 (off : Nat) (x : POpd) : PRun := fun T S => match pev T x with
  | some (.agg l) => match l[off]? with
    | some v => some (v, S)
    | none => none
  | _ => none
theorem pField1_sim {off : Nat} {x : POpd} (ho : x.ok) : OpSim (pField1 off x) (opField1 off x.toA) := .pure_ fun T t S s v S' hf he hs hw => by
  unfold pField1 at hf
  unfold opField1
  split at hf
  case h_2 => cases hf
  rename_i l hx
  split at hf
  case h_2 => cases hf
  rename_i u hu
  cases hf
  refine ⟨rfl, ?_, (pev_wf hw ho hx).of_agg _ (List.mem_of_getElem? hu)⟩
  rw [pev_sim he hx]
  simp only [V.er, V.ers_eq, List.getElem?_map, hu, Option.map_some]
def pFieldN (off n : Nat) (x : POpd) : PRun := fun T S => match pev T x with
  | some (.agg l) => if off + n ≤ l.length then some (.agg ((l.drop off).take n), S) else none
  | _ => none
theorem pFieldN_sim {off n : Nat} {x : POpd} (ho : x.ok) : OpSim (pFieldN off n x) (opFieldN off n x.toA) := .pure_ fun T t S s v S' hf he hs hw => by
  unfold pFieldN at hf
  unfold opFieldN
  split at hf
  case h_2 => cases hf
  rename_i l hx
  split at hf
  case isFalse => cases hf
  rename_i hl
  cases hf
  refine ⟨rfl, ?_, .agg fun u hu => (pev_wf hw ho hx).of_agg _ (List.mem_of_mem_drop (List.mem_of_mem_take hu))⟩
  rw [pev_sim he hx]
  have hb : Nat.ble (Nat.add off n) (l.map V.er).length = true := Nat.ble_eq_true_of_le (by rw [List.length_map]; exact hl)
  simp only [V.er, V.ers_eq, hb, List.map_take, List.map_drop]
def pLenS (x : POpd) : PRun := fun T S => match pev T x with
  | some (.row _ _ len _ _ _) => some (.int .i64 len, S)
  | some .nilrow => some (.int .i64 0, S)
  | _ => none
theorem pLenS_sim {x : POpd} : OpSim (pLenS x) (opLenS x.toA) := .pure_ fun T t S s v S' hf he hs hw => by
  unfold pLenS at hf
  unfold opLenS
  split at hf
  case h_3 => cases hf
  all_goals
    rename_i hx
    cases hf
    exact ⟨rfl, by rw [pev_sim he hx]; rfl, wf_int⟩
def pLenStr (x : POpd) : PRun := fun T S => match pev T x with
  | some (.str l) => some (.int .i64 l.length, S)
  | _ => none
theorem pLenStr_sim {x : POpd} : OpSim (pLenStr x) (opLenStr x.toA) := .pure_ fun T t S s v S' hf he hs hw => by
  unfold pLenStr at hf
  unfold opLenStr
  split at hf
  case h_2 => cases hf
  rename_i l hx
  cases hf
  exact ⟨rfl, by rw [pev_sim he hx]; rfl, wf_int⟩
def pMin (x y : POpd) : PRun := fun T S => match pev T x with
  | some (.int k a) => match pev T y with
    | some (.int j b) => if k = j then some (.int k (if b < a then b else a), S) else none
    | _ => none
  | _ => none
theorem pMin_sim {x y : POpd} : OpSim (pMin x y) (opMin x.toA y.toA) := .pure_ fun T t S s v S' hf he hs hw => by
  unfold pMin at hf
  unfold opMin
  split at hf
  case h_2 => cases hf
  rename_i k a hx
  split at hf
  case h_2 => cases hf
  rename_i j b hy
  split at hf
  case isFalse => cases hf
  rename_i hk; subst hk
  cases hf
  refine ⟨rfl, ?_, wf_int⟩
  rw [pev_sim he hx]
  simp only [V.er]
  rw [pev_sim he hy]
  simp only [V.er, kbeq_eq.2 rfl, ltI_eq]
  by_cases h : b < a
  · simp only [h, decide_true, if_true]
  · simp only [h, decide_false, if_false]
def pMax (x y : POpd) : PRun := fun T S => match pev T x with
  | some (.int k a) => match pev T y with
    | some (.int j b) => if k = j then some (.int k (if a < b then b else a), S) else none
    | _ => none
  | _ => none
theorem pMax_sim {x y : POpd} : OpSim (pMax x y) (opMax x.toA y.toA) := .pure_ fun T t S s v S' hf he hs hw => by
  unfold pMax at hf
  unfold opMax
  split at hf
  case h_2 => cases hf
  rename_i k a hx
  split at hf
  case h_2 => cases hf
  rename_i j b hy
  split at hf
  case isFalse => cases hf
  rename_i hk; subst hk
  cases hf
  refine ⟨rfl, ?_, wf_int⟩
  rw [pev_sim he hx]
  simp only [V.er]
  rw [pev_sim he hy]
  simp only [V.er, kbeq_eq.2 rfl, ltI_eq]
  by_cases h : a < b
  · simp only [h, decide_true, if_true]
  · simp only [h, decide_false, if_false]
end Go.Abs
