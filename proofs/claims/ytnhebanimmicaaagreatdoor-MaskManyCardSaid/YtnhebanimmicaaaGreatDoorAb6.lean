/- The abstract machine's operations, and how they are made of the model's. -/
import Derived.Test.YtnhebanimmicaaaGreatDoorAb5
import Derived.Laws.Strings
namespace Go.Abs

/-- A function's slots: those that outlive a region (m: which; t: what they hold), and ahead of them what the region at hand has bound, the last first. -/
inductive Env where
  | base (m : Nat) (t : T AV)
  | bind (k : Nat) (v : AV) (e : Env)
noncomputable def bitOf (m k : Nat) : Bool := Nat.beq (Nat.land (Nat.shiftRight m k) 1) 1
noncomputable def Env.get (e : Env) (k : Nat) : Option AV :=
  Env.rec (motive := fun _ => Option AV) (fun m t => Bool.rec none (t.get (Pos.of k)) (bitOf m k)) (fun j v _ r => Bool.rec r (some v) (Nat.beq j k)) e
theorem Env.get_base (m : Nat) (t : T AV) (k : Nat) : (Env.base m t).get k = if bitOf m k = true then t.get (Pos.of k) else none := by
  show (Bool.rec none (t.get (Pos.of k)) (bitOf m k) : Option AV) = _
  cases bitOf m k <;> rfl
theorem Env.get_bind (j : Nat) (v : AV) (e : Env) (k : Nat) : (Env.bind j v e).get k = if j = k then some v else e.get k := by
  show (Bool.rec (e.get k) (some v) (Nat.beq j k) : Option AV) = _
  by_cases h : j = k
  · subst h; rw [Nat.beq_refl, if_pos rfl]
  · rw [if_neg h]
    have : Nat.beq j k = false := by
      cases hb : Nat.beq j k with
      | false => rfl
      | true => exact absurd (Nat.eq_of_beq_eq_true hb) h
    rw [this]
/-- The empty one. -/
noncomputable def Env.nil : Env := .base 0 .leaf
theorem Env.get_nil (k : Nat) : Env.nil.get k = none := by
  show (Env.base 0 .leaf).get k = none
  rw [Env.get_base, T.get_leaf]; split <;> rfl
noncomputable def frcT (t : T AV) (f : T AV → Env) : Env := T.rec (motive := fun _ => Env) (f .leaf) (fun a b c _ _ => f (.node a b c)) t
theorem frcT_eq (t : T AV) (f : T AV → Env) : frcT t f = f t := by cases t <;> rfl
/-- A region's end: what outlives it is laid down. -/
noncomputable def Env.flush (e : Env) : Env :=
  Env.rec (motive := fun _ => Env) (fun m t => .base m t) (fun k v _ r => Env.rec (motive := fun _ => Env)
    (fun m t => Bool.rec (.base m t) (frcT (t.put (some v) (Pos.of k)) (.base m)) (bitOf m k)) (fun _ _ e _ => e) r) e
theorem Env.flush_spec : ∀ e : Env, ∃ m t, e.flush = .base m t ∧ ∀ k u, (Env.base m t).get k = some u → e.get k = some u
  | .base m t => ⟨m, t, rfl, fun _ _ h => h⟩
  | .bind k v e => by
    obtain ⟨m, t, h1, h2⟩ := Env.flush_spec e
    have e1 : (Env.bind k v e).flush = Env.rec (motive := fun _ => Env)
      (fun m t => Bool.rec (.base m t) (frcT (t.put (some v) (Pos.of k)) (.base m)) (bitOf m k)) (fun _ _ e _ => e) e.flush := rfl
    rw [h1] at e1
    have e2 : (Env.bind k v e).flush = (Bool.rec (.base m t) (frcT (t.put (some v) (Pos.of k)) (.base m)) (bitOf m k) : Env) := e1
    cases hb : bitOf m k with
    | true =>
      rw [hb] at e2
      refine ⟨m, t.put (some v) (Pos.of k), e2.trans (frcT_eq _ _), fun j u hj => ?_⟩
      rw [Env.get_base] at hj
      rw [Env.get_bind]
      split at hj
      · rename_i hbj
        rw [T.get_put] at hj
        split at hj
        · rename_i e; rw [if_pos (Pos.of_inj e).symm]; exact hj
        · rename_i hne
          rw [if_neg (fun e => hne (by rw [e]))]
          exact h2 j u (by rw [Env.get_base, if_pos hbj]; exact hj)
      · cases hj
    | false =>
      rw [hb] at e2
      refine ⟨m, t, e2, fun j u hj => ?_⟩
      have hbj : bitOf m j = true := by
        rw [Env.get_base] at hj
        split at hj
        · assumption
        · cases hj
      rw [Env.get_bind, if_neg (fun e => by rw [e, hbj] at hb; cases hb)]
      exact h2 j u hj
theorem Env.flush_get {e : Env} {k : Nat} {u : AV} (h : e.flush.get k = some u) : e.get k = some u := by
  obtain ⟨m, t, h1, h2⟩ := Env.flush_spec e
  rw [h1] at h
  exact h2 k u h

inductive Opd where
  | tmp (p : Nat)
  | const (v : AV)

/-! ### operands -/
noncomputable def ev (t : Env) (x : Opd) : Option AV := Opd.rec (motive := fun _ => Option AV) (fun p => t.get p) (fun v => some v) x
noncomputable def evs (t : Env) (l : List Opd) : Option (List AV) :=
  List.rec (some []) (fun x _ r => match ev t x with
    | none => none
    | some v => match r with
      | none => none
      | some vs => some (v :: vs)) l
theorem evs_nil (t : Env) : evs t [] = some [] := rfl
theorem evs_cons (t : Env) (x : Opd) (l : List Opd) : evs t (x :: l) = match ev t x with
    | none => none
    | some v => match evs t l with
      | none => none
      | some vs => some (v :: vs) := rfl

/-! ### numbers, written out -/
noncomputable def litN (n : Nat) : Nat := match n with
  | 0 => 0
  | m + 1 => Nat.succ m
theorem litN_eq (n : Nat) : litN n = n := by cases n <;> rfl
noncomputable def mkInt (k : IntKind) (n : Int) : AV :=
  match n with
  | .ofNat m => match m with
    | 0 => .int k (.ofNat 0)
    | m + 1 => .int k (.ofNat (Nat.succ m))
  | .negSucc m => match m with
    | 0 => .int k (.negSucc 0)
    | m + 1 => .int k (.negSucc (Nat.succ m))
theorem mkInt_eq (k : IntKind) (n : Int) : mkInt k n = .int k n := by
  rcases n with (_ | m) | (_ | m) <;> rfl
noncomputable def mkStr (len bits : Nat) : AV :=
  match len with
  | 0 => .str 0 0
  | l + 1 => match bits with
    | 0 => .str (Nat.succ l) 0
    | b + 1 => .str (Nat.succ l) (Nat.succ b)
theorem mkStr_eq (len bits : Nat) (h : len = 0 → bits = 0) : mkStr len bits = .str len bits := by
  cases len with
  | zero => rw [h rfl]; rfl
  | succ l => cases bits <;> rfl

def kcode : IntKind → Nat
  | .i8 => 0 | .i16 => 1 | .i32 => 2 | .i64 => 3 | .u8 => 4 | .u16 => 5 | .u32 => 6 | .u64 => 7
noncomputable def kbeq (a b : IntKind) : Bool := Nat.beq (kcode a) (kcode b)
theorem kbeq_eq {a b : IntKind} : kbeq a b = true ↔ a = b := by cases a <;> cases b <;> decide

noncomputable def wrapF (k : IntKind) (n : Int) : Int :=
  match k with
  | .i64 => match n with
    | .ofNat m => match Nat.blt m 9223372036854775808 with
      | true => .ofNat m
      | false => IntKind.i64.wrap (.ofNat m)
    | .negSucc m => match Nat.blt m 9223372036854775808 with
      | true => .negSucc m
      | false => IntKind.i64.wrap (.negSucc m)
  | k => k.wrap n
theorem wrap_i64 {n : Int} (h1 : -9223372036854775808 ≤ n) (h2 : n < 9223372036854775808) : IntKind.i64.wrap n = n := by
  simp only [IntKind.wrap, IntKind.bits, IntKind.signed]
  simp
  omega
theorem wrapF_eq (k : IntKind) (n : Int) : wrapF k n = k.wrap n := by
  cases k <;> try rfl
  unfold wrapF
  cases n with
  | ofNat m =>
    simp only
    split
    · rename_i h
      have h' : m < 9223372036854775808 := by simpa [Nat.blt_eq] using h
      exact (wrap_i64 (by simp only [Int.ofNat_eq_natCast]; omega) (by simp only [Int.ofNat_eq_natCast]; omega)).symm
    · rfl
  | negSucc m =>
    simp only
    split
    · rename_i h
      have h' : m < 9223372036854775808 := by simpa [Nat.blt_eq] using h
      exact (wrap_i64 (by omega) (by omega)).symm
    · rfl

noncomputable def ltI (a b : Int) : Bool :=
  match a with
  | .ofNat m => match b with
    | .ofNat n => Nat.blt m n
    | .negSucc _ => false
  | .negSucc m => match b with
    | .ofNat _ => true
    | .negSucc n => Nat.blt n m
theorem ltI_eq (a b : Int) : ltI a b = decide (a < b) := by
  cases a <;> cases b <;> simp only [ltI, Int.ofNat_eq_natCast]
  · rw [Bool.eq_iff_iff, Nat.blt_eq]; simp
  · symm; rw [decide_eq_false_iff_not]; omega
  · symm; rw [decide_eq_true_iff]; omega
  · rw [Bool.eq_iff_iff, Nat.blt_eq, decide_eq_true_iff]; omega
noncomputable def eqI (a b : Int) : Bool :=
  match a with
  | .ofNat m => match b with
    | .ofNat n => Nat.beq m n
    | .negSucc _ => false
  | .negSucc m => match b with
    | .ofNat _ => false
    | .negSucc n => Nat.beq m n
theorem eqI_eq (a b : Int) : eqI a b = (a == b) := by
  cases a <;> cases b <;> simp only [eqI, Int.ofNat_eq_natCast]
  · rw [Bool.eq_iff_iff, Nat.beq_eq, beq_iff_eq]; omega
  · symm; rw [beq_eq_false_iff_ne]; omega
  · symm; rw [beq_eq_false_iff_ne]; omega
  · rw [Bool.eq_iff_iff, Nat.beq_eq, beq_iff_eq]; omega

noncomputable def mkBool (b : Bool) : AV := match b with
  | true => .bool true
  | false => .bool false
theorem mkBool_eq (b : Bool) : mkBool b = .bool b := by cases b <;> rfl

noncomputable def bits2 (f : ∀ n, BitVec n → BitVec n → BitVec n) (k : IntKind) (a b : Int) : AV :=
  mkInt k (k.wrap (f k.bits (BitVec.ofInt k.bits a) (BitVec.ofInt k.bits b)).toNat)

noncomputable def intBin (op : BinOp) (k : IntKind) (a : Int) (k' : IntKind) (b : Int) : Option AV :=
  match op with
  | .shl => match b with
    | .ofNat n => some (mkInt k (wrapF k (a * 2 ^ (min n k.bits))))
    | .negSucc _ => none
  | .shr => match b with
    | .ofNat n => some (mkInt k (a.fdiv (2 ^ (min n k.bits))))
    | .negSucc _ => none
  | .add => match kbeq k k' with | true => some (mkInt k (wrapF k (a + b))) | false => none
  | .sub => match kbeq k k' with | true => some (mkInt k (wrapF k (a - b))) | false => none
  | .mul => match kbeq k k' with | true => some (mkInt k (wrapF k (a * b))) | false => none
  | .quo => match kbeq k k' with | true => (match eqI b 0 with | true => none | false => some (mkInt k (wrapF k (a.tdiv b)))) | false => none
  | .rem => match kbeq k k' with | true => (match eqI b 0 with | true => none | false => some (mkInt k (a.tmod b))) | false => none
  | .and => match kbeq k k' with | true => some (bits2 (fun _ => BitVec.and) k a b) | false => none
  | .or => match kbeq k k' with | true => some (bits2 (fun _ => BitVec.or) k a b) | false => none
  | .xor => match kbeq k k' with | true => some (bits2 (fun _ => BitVec.xor) k a b) | false => none
  | .andNot => match kbeq k k' with | true => some (bits2 (fun _ x y => x &&& ~~~y) k a b) | false => none
  | .eql => match kbeq k k' with | true => some (mkBool (eqI a b)) | false => none
  | .neq => match kbeq k k' with | true => some (mkBool (!(eqI a b))) | false => none
  | .lss => match kbeq k k' with | true => some (mkBool (ltI a b)) | false => none
  | .leq => match kbeq k k' with | true => some (mkBool (!(ltI b a))) | false => none
  | .gtr => match kbeq k k' with | true => some (mkBool (ltI b a)) | false => none
  | .geq => match kbeq k k' with | true => some (mkBool (!(ltI a b))) | false => none

theorem intBin_ok {op : BinOp} {k k' : IntKind} {a b : Int} {v : AV} (h : intBin op k a k' b = some v) (t : TypeId) (μ : Mu) :
    ∃ v', binOp op t (.int k a) (.int k' b) = pure v' ∧ VRel μ v v' := by
  have nn : ∀ n : Nat, ¬ ((Int.ofNat n) < 0) := fun n => by simp only [Int.ofNat_eq_natCast]; omega
  by_cases hk : k = k'
  · subst hk
    have hkk : kbeq k k = true := kbeq_eq.2 rfl
    unfold intBin at h
    cases op <;> simp only [binOp, hkk, ne_eq, not_true_eq_false, if_false] at h ⊢
    case shl => cases b with
      | ofNat n => cases h; rw [mkInt_eq, wrapF_eq]; exact ⟨_, by simp only [Op.shift, if_neg (nn n)]; rfl, .int _ _⟩
      | negSucc n => cases h
    case shr => cases b with
      | ofNat n => cases h; rw [mkInt_eq]; exact ⟨_, by simp only [Op.shift, if_neg (nn n)]; rfl, .int _ _⟩
      | negSucc n => cases h
    case quo =>
      split at h
      · cases h
      · rename_i h0
        rw [eqI_eq, beq_eq_false_iff_ne] at h0
        cases h; rw [mkInt_eq, wrapF_eq]
        exact ⟨_, by simp only [Op.intDiv, if_neg h0], .int _ _⟩
    case rem =>
      split at h
      · cases h
      · rename_i h0
        rw [eqI_eq, beq_eq_false_iff_ne] at h0
        cases h; rw [mkInt_eq]
        exact ⟨_, by simp only [Op.intDiv, if_neg h0], .int _ _⟩
    all_goals
      cases h
      try simp only [mkInt_eq, wrapF_eq, mkBool_eq, bits2, eqI_eq, ltI_eq]
    all_goals have e1 : decide (a ≤ b) = !decide (b < a) := by rw [← decide_not]; congr 1; simp
    all_goals have e2 : decide (a ≥ b) = !decide (a < b) := by rw [← decide_not]; congr 1; simp
    all_goals first
      | exact ⟨_, rfl, .int _ _⟩
      | exact ⟨_, rfl, .bool _⟩
      | (refine ⟨.bool (decide (a ≤ b)), rfl, ?_⟩; rw [e1]; exact .bool _)
      | (refine ⟨.bool (decide (a ≥ b)), rfl, ?_⟩; rw [e2]; exact .bool _)
  · have hkk : kbeq k k' = false := by rw [← Bool.not_eq_true, kbeq_eq]; exact hk
    unfold intBin at h
    cases op <;> simp only [binOp, hkk] at h ⊢
    case shl => cases b with
      | ofNat n => cases h; rw [mkInt_eq, wrapF_eq]; exact ⟨_, by simp only [Op.shift, if_neg (nn n)]; rfl, .int _ _⟩
      | negSucc n => cases h
    case shr => cases b with
      | ofNat n => cases h; rw [mkInt_eq]; exact ⟨_, by simp only [Op.shift, if_neg (nn n)]; rfl, .int _ _⟩
      | negSucc n => cases h
    all_goals cases h

/-! ### strings -/
noncomputable def strLt (l a l' b : Nat) : Bool :=
  match Nat.ble l l' with
  | true => match Nat.mul a (Nat.pow 256 (Nat.sub l' l)) with
    | pa => or (Nat.blt pa b) (and (Nat.beq pa b) (Nat.blt l l'))
  | false => Nat.blt a (Nat.mul b (Nat.pow 256 (Nat.sub l l')))

theorem strLt_eq : ∀ (x y : List UInt8), strLt x.length (enc x) y.length (enc y) = Op.bytesLess x y := by
  have key : ∀ (x y : List UInt8), (Op.bytesLess x y = true ↔
      enc x * 256 ^ (y.length - x.length) < enc y * 256 ^ (x.length - y.length) ∨ (enc x * 256 ^ (y.length - x.length) = enc y * 256 ^ (x.length - y.length) ∧ x.length < y.length)) := by
    intro x
    induction x with
    | nil =>
      intro y
      cases y with
      | nil => simp [Op.bytesLess, enc]
      | cons b y =>
        simp only [Op.bytesLess, enc_nil, Nat.zero_mul, List.length_nil, Nat.zero_sub, Nat.pow_zero, Nat.mul_one, List.length_cons, true_iff]
        omega
    | cons a x ih =>
      intro y
      cases y with
      | nil =>
        simp only [Op.bytesLess, enc_nil, Nat.zero_mul, List.length_nil, List.length_cons]
        simp
      | cons b y =>
        have ih := ih y
        simp only [Op.bytesLess, List.length_cons, Nat.add_sub_add_right, enc_cons]
        rw [Bool.or_eq_true, Bool.and_eq_true, decide_eq_true_iff, beq_iff_eq, ih, Nat.add_mul, Nat.add_mul]
        -- both numbers have the same number of places
        have hM : 256 ^ x.length * 256 ^ (y.length - x.length) = 256 ^ y.length * 256 ^ (x.length - y.length) := by
          rw [← Nat.pow_add, ← Nat.pow_add]; congr 1; omega
        have h1 : enc x * 256 ^ (y.length - x.length) < 256 ^ x.length * 256 ^ (y.length - x.length) := Nat.mul_lt_mul_of_pos_right (enc_lt x) (Nat.pow_pos (by decide))
        have h2 : enc y * 256 ^ (x.length - y.length) < 256 ^ y.length * 256 ^ (x.length - y.length) := Nat.mul_lt_mul_of_pos_right (enc_lt y) (Nat.pow_pos (by decide))
        rw [Nat.mul_assoc, Nat.mul_assoc, ← hM]
        rw [← hM] at h2
        generalize 256 ^ x.length * 256 ^ (y.length - x.length) = M at *
        generalize enc x * 256 ^ (y.length - x.length) = p at *
        generalize enc y * 256 ^ (x.length - y.length) = q at *
        have hab : a < b ↔ a.toNat < b.toNat := UInt8.lt_iff_toNat_lt
        have heq : a = b ↔ a.toNat = b.toNat := UInt8.toNat_inj.symm
        rw [hab, heq]
        generalize a.toNat = m at *
        generalize b.toNat = n at *
        rcases Nat.lt_trichotomy m n with h | h | h
        · have : m * M + M ≤ n * M := by rw [← Nat.succ_mul]; exact Nat.mul_le_mul_right _ h
          constructor
          · intro _; left; omega
          · intro _; left; exact h
        · subst h
          constructor
          · rintro (h | ⟨_, h⟩)
            · omega
            · rcases h with h | ⟨h, h'⟩
              · left; omega
              · right; exact ⟨by omega, by omega⟩
          · rintro (h | ⟨h, h'⟩)
            · right; exact ⟨rfl, .inl (by omega)⟩
            · right; exact ⟨rfl, .inr ⟨by omega, by omega⟩⟩
        · have : n * M + M ≤ m * M := by rw [← Nat.succ_mul]; exact Nat.mul_le_mul_right _ h
          constructor
          · rintro (h' | ⟨h', _⟩) <;> omega
          · rintro (h' | ⟨h', _⟩) <;> omega
  intro x y
  rw [Bool.eq_iff_iff, key]
  unfold strLt
  split
  · rename_i h
    have h' := Nat.le_of_ble_eq_true h
    rw [show x.length - y.length = 0 by omega, Nat.pow_zero, Nat.mul_one]
    show (Nat.blt (enc x * 256 ^ (y.length - x.length)) (enc y) || (Nat.beq (enc x * 256 ^ (y.length - x.length)) (enc y) && Nat.blt x.length y.length)) = true ↔ _
    rw [Bool.or_eq_true, Bool.and_eq_true, Nat.blt_eq, Nat.beq_eq, Nat.blt_eq]
  · rename_i h
    have h' : ¬ x.length ≤ y.length := fun hh => by rw [Nat.ble_eq_true_of_le hh] at h; cases h
    rw [show y.length - x.length = 0 by omega, Nat.pow_zero, Nat.mul_one]
    show Nat.blt (enc x) (enc y * 256 ^ (x.length - y.length)) = true ↔ _
    rw [Nat.blt_eq]
    constructor
    · intro h; exact .inl h
    · rintro (h | ⟨_, h⟩)
      · exact h
      · omega

noncomputable def strEq (l a l' b : Nat) : Bool := and (Nat.beq l l') (Nat.beq a b)
theorem strEq_eq (x y : List UInt8) : strEq x.length (enc x) y.length (enc y) = (x == y) := by
  rw [Bool.eq_iff_iff]
  unfold strEq
  show (Nat.beq x.length y.length && Nat.beq (enc x) (enc y)) = true ↔ _
  rw [Bool.and_eq_true, Nat.beq_eq, Nat.beq_eq, beq_iff_eq]
  exact ⟨fun h => enc_inj h.1 h.2, fun h => by subst h; exact ⟨rfl, rfl⟩⟩

noncomputable def strBin (op : BinOp) (l a l' b : Nat) : Option AV :=
  match op with
  | .add => match Nat.ble (Nat.add l l') 4611686018427387904 with
    | true => some (mkStr (Nat.add l l') (Nat.add (Nat.mul a (Nat.pow 256 l')) b))
    | false => none
  | .eql => some (mkBool (strEq l a l' b))
  | .neq => some (mkBool (!(strEq l a l' b)))
  | .lss => some (mkBool (strLt l a l' b))
  | .leq => some (mkBool (or (strLt l a l' b) (strEq l a l' b)))
  | .gtr => some (mkBool (!(or (strLt l a l' b) (strEq l a l' b))))
  | .geq => some (mkBool (!(strLt l a l' b)))
  | _ => none

theorem bytes_toList (s : ByteArray) : s.toList = s.data.toList := ByteArray.toList_eq s

end Go.Abs
