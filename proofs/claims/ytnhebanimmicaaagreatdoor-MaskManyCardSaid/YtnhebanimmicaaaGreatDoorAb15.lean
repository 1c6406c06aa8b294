/- What the classes of operations say: they read no memory; they read; they make a row. -/
import Derived.Test.YtnhebanimmicaaaGreatDoorAb14
namespace Go.Abs

def PureRun (r : Run) : Prop := ∀ t s v s', r t s = some (v, s') → s' = s ∧ ∀ s2, r t s2 = some (v, s2)
def QuietRun (r : Run) : Prop := ∀ t s v s', r t s = some (v, s') → s' = s
def AllocRun (r : Run) : Prop := ∀ t s v s', r t s = some (v, s') → ∃ l : List AV, s' = s.new (.cells (rowOf l) l.length none) ∧ ∀ s2 : St, s2.next = s.next → r t s2 = some (v, s2.new (.cells (rowOf l) l.length none))

theorem opFail_pure : PureRun opFail := by intro t s v s' h; cases h
theorem opMove_pure (x : Opd) : PureRun (opMove x) := by
  intro t s v s' h
  unfold opMove at h ⊢
  split at h <;> cases h
  exact ⟨rfl, fun s2 => rfl⟩
theorem opPick_pure (c x y : Opd) : PureRun (opPick c x y) := by
  intro t s v s' h
  unfold opPick at h ⊢
  repeat' split at h
  all_goals first
    | (cases h; done)
    | exact opMove_pure _ t s v s' h
    | (cases h; exact ⟨rfl, fun s2 => rfl⟩)
    | (cases h; exact ⟨rfl, fun s2 => by simp_all⟩)
theorem opNilCheck_pure (x : Opd) : PureRun (opNilCheck x) := by
  intro t s v s' h
  unfold opNilCheck at h ⊢
  repeat' split at h
  all_goals first
    | (cases h; done)
    | exact opMove_pure _ t s v s' h
    | (cases h; exact ⟨rfl, fun s2 => rfl⟩)
    | (cases h; exact ⟨rfl, fun s2 => by simp_all⟩)
theorem opBin_pure (op : BinOp) (x y : Opd) : PureRun (opBin op x y) := by
  intro t s v s' h
  unfold opBin at h ⊢
  repeat' split at h
  all_goals first
    | (cases h; done)
    | exact opMove_pure _ t s v s' h
    | (cases h; exact ⟨rfl, fun s2 => rfl⟩)
    | (cases h; exact ⟨rfl, fun s2 => by simp_all⟩)
theorem opEqB_pure (n : Bool) (x y : Opd) : PureRun (opEqB n x y) := by
  intro t s v s' h
  unfold opEqB at h ⊢
  repeat' split at h
  all_goals first
    | (cases h; done)
    | exact opMove_pure _ t s v s' h
    | (cases h; exact ⟨rfl, fun s2 => rfl⟩)
    | (cases h; exact ⟨rfl, fun s2 => by simp_all⟩)
theorem opEqNil_pure (k : Nat) (n : Bool) (x y : Opd) : PureRun (opEqNil k n x y) := by
  intro t s v s' h
  unfold opEqNil at h ⊢
  repeat' split at h
  all_goals first
    | (cases h; done)
    | exact opMove_pure _ t s v s' h
    | (cases h; exact ⟨rfl, fun s2 => rfl⟩)
    | (cases h; exact ⟨rfl, fun s2 => by simp_all⟩)
theorem opEqSt_pure (n : Bool) (ls : List (Nat × Nat)) (x y : Opd) : PureRun (opEqSt n ls x y) := by
  intro t s v s' h
  unfold opEqSt at h ⊢
  repeat' split at h
  all_goals first
    | (cases h; done)
    | (cases h; exact ⟨rfl, fun s2 => rfl⟩)
    | (cases h; exact ⟨rfl, fun s2 => by simp_all⟩)
theorem opIndexAddrA_pure (n e : Nat) (x y : Opd) : PureRun (opIndexAddrA n e x y) := by
  intro t s v s' h
  unfold opIndexAddrA at h ⊢
  repeat' split at h
  all_goals first
    | (cases h; done)
    | (cases h; exact ⟨rfl, fun s2 => rfl⟩)
    | (cases h; exact ⟨rfl, fun s2 => by simp_all⟩)
theorem opMin_pure (x y : Opd) : PureRun (opMin x y) := by
  intro t s v s' h
  unfold opMin at h ⊢
  repeat' split at h
  all_goals first
    | (cases h; done)
    | (cases h; exact ⟨rfl, fun s2 => rfl⟩)
    | (cases h; exact ⟨rfl, fun s2 => by simp_all⟩)
theorem opMax_pure (x y : Opd) : PureRun (opMax x y) := by
  intro t s v s' h
  unfold opMax at h ⊢
  repeat' split at h
  all_goals first
    | (cases h; done)
    | (cases h; exact ⟨rfl, fun s2 => rfl⟩)
    | (cases h; exact ⟨rfl, fun s2 => by simp_all⟩)
theorem opNot_pure (x : Opd) : PureRun (opNot x) := by
  intro t s v s' h
  unfold opNot at h ⊢
  repeat' split at h
  all_goals first
    | (cases h; done)
    | exact opMove_pure _ t s v s' h
    | (cases h; exact ⟨rfl, fun s2 => rfl⟩)
    | (cases h; exact ⟨rfl, fun s2 => by simp_all⟩)
theorem opNeg_pure (x : Opd) : PureRun (opNeg x) := by
  intro t s v s' h
  unfold opNeg at h ⊢
  repeat' split at h
  all_goals first
    | (cases h; done)
    | exact opMove_pure _ t s v s' h
    | (cases h; exact ⟨rfl, fun s2 => rfl⟩)
    | (cases h; exact ⟨rfl, fun s2 => by simp_all⟩)
theorem opConv_pure (k : IntKind) (x : Opd) : PureRun (opConv k x) := by
  intro t s v s' h
  unfold opConv at h ⊢
  repeat' split at h
  all_goals first
    | (cases h; done)
    | exact opMove_pure _ t s v s' h
    | (cases h; exact ⟨rfl, fun s2 => rfl⟩)
    | (cases h; exact ⟨rfl, fun s2 => by simp_all⟩)
theorem opConvStr_pure (x : Opd) : PureRun (opConvStr x) := by
  intro t s v s' h
  unfold opConvStr at h ⊢
  repeat' split at h
  all_goals first
    | (cases h; done)
    | exact opMove_pure _ t s v s' h
    | (cases h; exact ⟨rfl, fun s2 => rfl⟩)
    | (cases h; exact ⟨rfl, fun s2 => by simp_all⟩)
theorem opExtract_pure (x : Opd) (i : Nat) : PureRun (opExtract x i) := by
  intro t s v s' h
  unfold opExtract at h ⊢
  repeat' split at h
  all_goals first
    | (cases h; done)
    | exact opMove_pure _ t s v s' h
    | (cases h; exact ⟨rfl, fun s2 => rfl⟩)
    | (cases h; exact ⟨rfl, fun s2 => by simp_all⟩)
theorem opMkfn_pure (f : Nat) (c : List Opd) : PureRun (opMkfn f c) := by
  intro t s v s' h
  unfold opMkfn at h ⊢
  repeat' split at h
  all_goals first
    | (cases h; done)
    | exact opMove_pure _ t s v s' h
    | (cases h; exact ⟨rfl, fun s2 => rfl⟩)
    | (cases h; exact ⟨rfl, fun s2 => by simp_all⟩)
theorem opIface_pure (ti : Nat) (x : Opd) : PureRun (opIface ti x) := by
  intro t s v s' h
  unfold opIface at h ⊢
  repeat' split at h
  all_goals first
    | (cases h; done)
    | exact opMove_pure _ t s v s' h
    | (cases h; exact ⟨rfl, fun s2 => rfl⟩)
    | (cases h; exact ⟨rfl, fun s2 => by simp_all⟩)
theorem opIndexStr_pure (x i : Opd) : PureRun (opIndexStr x i) := by
  intro t s v s' h
  unfold opIndexStr at h ⊢
  repeat' split at h
  all_goals first
    | (cases h; done)
    | exact opMove_pure _ t s v s' h
    | (cases h; exact ⟨rfl, fun s2 => rfl⟩)
    | (cases h; exact ⟨rfl, fun s2 => by simp_all⟩)
theorem opBuildS_pure (z : List AV) (ps : List (Nat × Nat × Opd)) : PureRun (opBuildS z ps) := by
  intro t s v s' h
  unfold opBuildS at h ⊢
  repeat' split at h
  all_goals first
    | (cases h; done)
    | exact opMove_pure _ t s v s' h
    | (cases h; exact ⟨rfl, fun s2 => rfl⟩)
    | (cases h; exact ⟨rfl, fun s2 => by simp_all⟩)
theorem opFieldAddr_pure (off : Nat) (x : Opd) : PureRun (opFieldAddr off x) := by
  intro t s v s' h
  unfold opFieldAddr at h ⊢
  repeat' split at h
  all_goals first
    | (cases h; done)
    | exact opMove_pure _ t s v s' h
    | (cases h; exact ⟨rfl, fun s2 => rfl⟩)
    | (cases h; exact ⟨rfl, fun s2 => by simp_all⟩)
theorem opIndexAddr_pure (es : Nat) (x i : Opd) : PureRun (opIndexAddr es x i) := by
  intro t s v s' h
  unfold opIndexAddr at h ⊢
  repeat' split at h
  all_goals first
    | (cases h; done)
    | exact opMove_pure _ t s v s' h
    | (cases h; exact ⟨rfl, fun s2 => rfl⟩)
    | (cases h; exact ⟨rfl, fun s2 => by simp_all⟩)
theorem opField1_pure (off : Nat) (x : Opd) : PureRun (opField1 off x) := by
  intro t s v s' h
  unfold opField1 at h ⊢
  repeat' split at h
  all_goals first
    | (cases h; done)
    | exact opMove_pure _ t s v s' h
    | (cases h; exact ⟨rfl, fun s2 => rfl⟩)
    | (cases h; exact ⟨rfl, fun s2 => by simp_all⟩)
theorem opFieldN_pure (off n : Nat) (x : Opd) : PureRun (opFieldN off n x) := by
  intro t s v s' h
  unfold opFieldN at h ⊢
  repeat' split at h
  all_goals first
    | (cases h; done)
    | exact opMove_pure _ t s v s' h
    | (cases h; exact ⟨rfl, fun s2 => rfl⟩)
    | (cases h; exact ⟨rfl, fun s2 => by simp_all⟩)
theorem opLenS_pure (x : Opd) : PureRun (opLenS x) := by
  intro t s v s' h
  unfold opLenS at h ⊢
  repeat' split at h
  all_goals first
    | (cases h; done)
    | exact opMove_pure _ t s v s' h
    | (cases h; exact ⟨rfl, fun s2 => rfl⟩)
    | (cases h; exact ⟨rfl, fun s2 => by simp_all⟩)
theorem opLenStr_pure (x : Opd) : PureRun (opLenStr x) := by
  intro t s v s' h
  unfold opLenStr at h ⊢
  repeat' split at h
  all_goals first
    | (cases h; done)
    | exact opMove_pure _ t s v s' h
    | (cases h; exact ⟨rfl, fun s2 => rfl⟩)
    | (cases h; exact ⟨rfl, fun s2 => by simp_all⟩)
theorem opCap_pure (x : Opd) : PureRun (opCap x) := by
  intro t s v s' h
  unfold opCap at h ⊢
  repeat' split at h
  all_goals first
    | (cases h; done)
    | exact opMove_pure _ t s v s' h
    | (cases h; exact ⟨rfl, fun s2 => rfl⟩)
    | (cases h; exact ⟨rfl, fun s2 => by simp_all⟩)
theorem opSliceS_pure (es : Nat) (x : Opd) (lo hi mx : Option Opd) : PureRun (opSliceS es x lo hi mx) := by
  intro t s v s' h
  unfold opSliceS at h ⊢
  repeat' split at h
  all_goals first
    | (cases h; done)
    | exact opMove_pure _ t s v s' h
    | (cases h; exact ⟨rfl, fun s2 => rfl⟩)
    | (cases h; exact ⟨rfl, fun s2 => by simp_all⟩)
theorem opSliceStr_pure (x : Opd) (lo hi : Option Opd) : PureRun (opSliceStr x lo hi) := by
  intro t s v s' h
  unfold opSliceStr at h ⊢
  repeat' split at h
  all_goals first
    | (cases h; done)
    | exact opMove_pure _ t s v s' h
    | (cases h; exact ⟨rfl, fun s2 => rfl⟩)
    | (cases h; exact ⟨rfl, fun s2 => by simp_all⟩)

theorem opLoad1_quiet (x : Opd) : QuietRun (opLoad1 x) := by
  intro t s v s' h
  unfold opLoad1 at h
  repeat' split at h
  all_goals cases h
  rfl
theorem opLoadN_quiet (n : Nat) (x : Opd) : QuietRun (opLoadN n x) := by
  intro t s v s' h
  unfold opLoadN at h
  repeat' split at h
  all_goals cases h
  rfl
theorem opToStr_quiet (x : Opd) : QuietRun (opToStr x) := by
  intro t s v s' h
  unfold opToStr at h
  repeat' split at h
  all_goals cases h
  all_goals rfl
theorem opLookup_quiet (d : TypeDesc) (z : AV) (x k : Opd) (ok : Bool) : QuietRun (opLookup d z x k ok) := by
  intro t s v s' h
  unfold opLookup at h
  split at h
  · cases h
  split at h
  · cases h
  split at h
  · cases h
  rename_i r _
  cases ok <;> cases r <;> cases h <;> rfl

theorem opAlloc_alloc (z : List AV) : AllocRun (opAlloc z) := by
  intro t s v s' h
  cases h
  exact ⟨z, rfl, fun s2 e => by unfold opAlloc; rw [e]⟩
theorem opBox_alloc (x : Opd) : AllocRun (opBox x) := by
  intro t s v s' h
  unfold opBox at h ⊢
  repeat' split at h
  all_goals first
    | (cases h; done)
    | (cases h; exact ⟨_, rfl, fun s2 e => by simp_all⟩)
theorem opBuildSlice_alloc (es len : Nat) (z : List AV) (ps : List (Nat × Nat × Opd)) : AllocRun (opBuildSlice es len z ps) := by
  intro t s v s' h
  unfold opBuildSlice at h ⊢
  split at h
  · rename_i l hl; cases h; exact ⟨_, rfl, fun s2 e => by simp [e]⟩
  · cases h

theorem mk1_pure {f : Opd → Run} {x : Operand} {r : Run} (hf : ∀ y, PureRun (f y)) (h : mk1 f x = some r) : PureRun r := by obtain ⟨y, _, rfl⟩ := mk1_ok h; exact hf y
theorem mk2_pure {f : Opd → Opd → Run} {x y : Operand} {r : Run} (hf : ∀ a b, PureRun (f a b)) (h : mk2 f x y = some r) : PureRun r := by obtain ⟨a, b, _, _, rfl⟩ := mk2_ok h; exact hf a b

theorem opBuild_pure (z : List AV) (ps : List (Nat × Nat × Opd)) : PureRun (opBuild z ps) := by
  intro t s v s' h
  unfold opBuild at h ⊢
  split at h
  · rename_i l hl; cases h; exact ⟨rfl, fun s2 => rfl⟩
  · cases h
theorem buildR_pure (z : List AV) (ps : List (Nat × Nat × Opd)) : PureRun (buildR z ps) := by
  unfold buildR
  split
  · exact opBuildS_pure _ _
  · exact opBuild_pure _ _

theorem cop_pure {P : Program} {op : Op} {r : Run} (hc : clsOf P op = .p) (h : cop P op = some r) : PureRun r := by
  cases op with
  | move x => exact mk1_pure opMove_pure h
  | assign x => exact mk1_pure opMove_pure h
  | pick c x y =>
    simp only [cop] at h
    split at h
    · exact mk2_pure (opPick_pure _) h
    · cases h
  | build t ps =>
    simp only [cop, cBuild] at h
    repeat' split at h
    all_goals cases h
    all_goals exact buildR_pure _ _
  | nilCheck x => exact mk1_pure opNilCheck_pure h
  | binOp op tx x y ty =>
    simp only [cop, cBin] at h
    split at h
    · exact mk2_pure (opBin_pure _) h
    · exact mk2_pure (opBin_pure _) h
    · split at h
      · exact mk2_pure (opEqB_pure _) h
      · exact mk2_pure (opEqB_pure _) h
      · cases h
    · split at h
      · split at h
        · exact mk2_pure (opEqNil_pure _ _) h
        · exact mk2_pure (opEqNil_pure _ _) h
        · cases h
      · split at h
        · cases h
        split at h
        · cases h
        split at h
        · exact mk2_pure (opEqSt_pure _ _) h
        · exact mk2_pure (opEqSt_pure _ _) h
        · cases h
    · cases h
  | unOp u t x =>
    cases u <;> simp only [cop] at h
    case not => exact mk1_pure opNot_pure h
    case neg => exact mk1_pure opNeg_pure h
    all_goals cases h
  | convert src dst x =>
    simp only [cop, cConv] at h
    simp only [clsOf] at hc
    split at h
    · cases h
    rename_i ds hs
    rw [hs] at hc
    split at h
    · exact mk1_pure (opConv_pure _) h
    · split at h
      · exact mk1_pure opConvStr_pure h
      · cases hc
      · cases h
    · cases h
  | makeInterface t x =>
    simp only [cop] at h
    split at h
    · cases h
    · exact mk1_pure (opIface_pure _) h
    · cases h
  | makeFunc fn first caps =>
    cases fn <;> simp only [cop] at h
    case func f =>
      repeat' split at h
      all_goals cases h
      exact opMkfn_pure _ _
    all_goals cases h
  | slice t x lo hi mx =>
    simp only [cop, cSlice] at h
    repeat' split at h
    all_goals cases h
    · exact opSliceStr_pure _ _ _
    · exact opSliceS_pure _ _ _ _ _
  | fieldAddr t x fi =>
    simp only [cop, cFieldAddr] at h
    split at h
    · split at h
      · split at h
        · split at h
          · cases h
          · exact mk1_pure (opFieldAddr_pure _) h
        · cases h
      · cases h
    · cases h
  | field t x fi =>
    simp only [cop, cField] at h
    split at h
    · split at h
      · split at h
        · split at h
          · exact mk1_pure (opField1_pure _) h
          · split at h
            · exact mk1_pure (opFieldN_pure _ _) h
            · cases h
        · cases h
      · cases h
    · cases h
  | indexAddr t x i =>
    simp only [cop] at h
    split at h
    · split at h
      · exact mk2_pure (opIndexAddr_pure _) h
      · cases h
    · split at h
      · exact mk2_pure (opIndexAddrA_pure _ _) h
      · cases h
    · cases h
  | index t x i =>
    simp only [cop] at h
    split at h
    · exact mk2_pure opIndexStr_pure h
    · cases h
  | extract x i => exact mk1_pure (fun y => opExtract_pure y i) h
  | call c =>
    obtain ⟨callee, args, ts⟩ := c
    cases callee <;> simp only [cop] at h
    case builtin b =>
      simp only [cBuiltin] at h
      cases b <;> simp only at h <;> first
        | (cases h; done)
        | (simp only [clsOf] at hc; cases hc; done)
        | skip
      · split at h
        · split at h
          · exact mk1_pure opCap_pure h
          · cases h
        · cases h
      · split at h
        · split at h
          · exact mk1_pure opLenStr_pure h
          · exact mk1_pure opLenS_pure h
          · cases h
        · cases h
      · split at h
        · exact mk2_pure opMax_pure h
        · cases h
      · split at h
        · exact mk2_pure opMin_pure h
        · cases h
    all_goals cases h
  | _ => simp only [clsOf] at hc; cases hc

theorem cop_quiet {P : Program} {op : Op} {r : Run} (hc : clsOf P op = .q) (h : cop P op = some r) : QuietRun r := by
  cases op with
  | load t x =>
    simp only [cop, cLoad] at h
    split at h
    · cases h
    · split at h
      · obtain ⟨y, _, rfl⟩ := mk1_ok h; exact opLoad1_quiet y
      · split at h
        · obtain ⟨y, _, rfl⟩ := mk1_ok h; exact opLoadN_quiet _ y
        · cases h
  | lookup t x y ok =>
    simp only [cop, cLookup] at h
    repeat' split at h
    all_goals first
      | (cases h; done)
      | (obtain ⟨a, b, _, _, rfl⟩ := mk2_ok h; exact opLookup_quiet _ _ _ _ _)
  | convert src dst x =>
    simp only [cop, cConv] at h
    repeat' split at h
    all_goals first
      | (cases h; done)
      | (obtain ⟨y, _, rfl⟩ := mk1_ok h; first | exact opToStr_quiet y | exact fun t s v s' h => (opConvStr_pure y t s v s' h).1 | exact fun t s v s' h => (opConv_pure _ y t s v s' h).1)
  | call c =>
    obtain ⟨callee, args, ts⟩ := c
    cases callee <;> simp only [clsOf] at hc
    case builtin b => cases b <;> simp only at hc <;> cases hc
    all_goals cases hc
  | _ => simp only [clsOf] at hc; cases hc

theorem cop_alloc {P : Program} {op : Op} {r : Run} (hc : clsOf P op = .a) (h : cop P op = some r) : AllocRun r := by
  cases op with
  | alloc t =>
    simp only [cop] at h
    split at h
    · cases h; exact opAlloc_alloc _
    · cases h
  | box t x => obtain ⟨y, _, rfl⟩ := mk1_ok h; exact opBox_alloc y
  | buildSlice t len ps =>
    simp only [cop, cBuildSlice] at h
    repeat' split at h
    all_goals first
      | (cases h; done)
      | (cases h; exact opBuildSlice_alloc _ _ _ _)
  | convert src dst x =>
    simp only [clsOf] at hc
    split at hc <;> cases hc
  | call c =>
    obtain ⟨callee, args, ts⟩ := c
    cases callee <;> simp only [clsOf] at hc
    case builtin b => cases b <;> simp only at hc <;> cases hc
    all_goals cases hc
  | _ => simp only [clsOf] at hc; cases hc

end Go.Abs
