/- The model follows the machine: code and calls. -/
import Derived.Test.YtnhebanimmicaaaGreatDoorAb21
import Derived.Below
namespace Go.Abs
open Go.Lib Go.RowKit

/-- The model follows code. -/
def CodeOk (P : Program) (ex : ACode → Env → St → Option (AExit × Env × St)) : Prop :=
  ∀ (c : Code) (c' : ACode) (N : Nat) (t : Env) (s : St) (e : AExit) (t' : Env) (s' : St) (μ : Mu) (w : World) (a : Act) (Q : Exit → Act → World → Prop),
    ccode P N c = some c' → ex c' t s = some (e, t', s') → TRel μ N t a.tmps → R μ s w → FreeUp μ s.next →
    (∀ a' w' μ', TRel μ' N t' a'.tmps → R μ' s' w' → Ext μ s w μ' s' w' → a'.defers = a.defers → Q (exitOf e) a' w') → c.wp P Q a w

def RoundsOk (P : Program) (n : Nat) (ex : ACode → Env → St → Option (AExit × Env × St)) : Prop :=
  ∀ (c : Code) (c' : ACode) (N : Nat) (t : Env) (s : St) (e : AExit) (t' : Env) (s' : St) (μ : Mu) (w : World) (a : Act) (Q : Exit → Act → World → Prop),
    ccode P N c = some c' → ex (.loop c') t s = some (e, t', s') → TRel μ N t a.tmps → R μ s w → FreeUp μ s.next →
    (∀ a' w' μ', TRel μ' N t' a'.tmps → R μ' s' w' → Ext μ s w μ' s' w' → a'.defers = a.defers → Q (exitOf e) a' w') → Code.rounds P c Q n a w

theorem names_go {P : Program} (h : namesOk P = true) {f : FuncId} {fn : Func} (hf : P.funcs[f]? = some fn) :
    (fn.name == "runtime.NumGoroutine") = false ∧ ((or (fn.name == "internal/bytealg.abigen_runtime_cmpstring") (or (fn.name == "internal/bytealg.CountString") (fn.name == "internal/bytealg.IndexByteString"))) = true → fn.origin = "") := by
  have hm : fn ∈ P.funcs.toList := by
    rw [Array.mem_toList_iff]
    exact Array.mem_of_getElem? hf
  have := List.all_eq_true.1 h fn hm
  rw [Bool.and_eq_true, Bool.not_eq_true', Bool.or_eq_true, Bool.not_eq_true'] at this
  refine ⟨this.1, fun e => ?_⟩
  rcases this.2 with h | h
  · rw [e] at h; cases h
  · simpa using h

theorem findNext_cmp {fn : Func} (hn : fn.name = "internal/bytealg.abigen_runtime_cmpstring") (ho : fn.origin = "") : Extern.findNext fn = none := by
  have e1 : Extern.allNextRows.lookup "internal/bytealg.abigen_runtime_cmpstring" = none := by decide +kernel
  have e2 : Extern.allNextRows.lookup "" = none := by decide +kernel
  unfold Extern.findNext
  simp only [hn, ho, e1, e2]
  rfl
theorem find_cmp {fn : Func} (hn : fn.name = "internal/bytealg.abigen_runtime_cmpstring") : Extern.find fn = some Extern.BytealgCompare.compare := by
  have e1 : Extern.allGenericRows.lookup "internal/bytealg.abigen_runtime_cmpstring" = none := by rfl
  have e2 : Extern.allTypedRows.lookup "internal/bytealg.abigen_runtime_cmpstring" = none := by rfl
  have e3 : Extern.allRows.lookup "internal/bytealg.abigen_runtime_cmpstring" = some Extern.BytealgCompare.compare := by rfl
  unfold Extern.find
  simp only [hn, e1, e2, e3]
  rfl
theorem findNext_cnt {fn : Func} (hn : fn.name = "internal/bytealg.CountString") (ho : fn.origin = "") : Extern.findNext fn = none := by
  have e1 : Extern.allNextRows.lookup "internal/bytealg.CountString" = none := by decide +kernel
  have e2 : Extern.allNextRows.lookup "" = none := by decide +kernel
  unfold Extern.findNext
  simp only [hn, ho, e1, e2]
  rfl
theorem find_cnt {fn : Func} (hn : fn.name = "internal/bytealg.CountString") : Extern.find fn = some Extern.BytealgCount.count := by
  have e1 : Extern.allGenericRows.lookup "internal/bytealg.CountString" = none := by rfl
  have e2 : Extern.allTypedRows.lookup "internal/bytealg.CountString" = none := by rfl
  have e3 : Extern.allRows.lookup "internal/bytealg.CountString" = some Extern.BytealgCount.count := by rfl
  unfold Extern.find
  simp only [hn, e1, e2, e3]
  rfl
theorem findNext_idx {fn : Func} (hn : fn.name = "internal/bytealg.IndexByteString") (ho : fn.origin = "") : Extern.findNext fn = none := by
  have e1 : Extern.allNextRows.lookup "internal/bytealg.IndexByteString" = none := by decide +kernel
  have e2 : Extern.allNextRows.lookup "" = none := by decide +kernel
  unfold Extern.findNext
  simp only [hn, ho, e1, e2]
  rfl
theorem find_idx {fn : Func} (hn : fn.name = "internal/bytealg.IndexByteString") : Extern.find fn = some Extern.BytealgIndexByte.indexByte := by
  have e1 : Extern.allGenericRows.lookup "internal/bytealg.IndexByteString" = none := by rfl
  have e2 : Extern.allTypedRows.lookup "internal/bytealg.IndexByteString" = none := by rfl
  have e3 : Extern.allRows.lookup "internal/bytealg.IndexByteString" = some Extern.BytealgIndexByte.indexByte := by rfl
  unfold Extern.find
  simp only [hn, e1, e2, e3]
  rfl

theorem snoc_rec {motive : List UInt8 → Prop} (h0 : motive []) (h1 : ∀ l b, motive l → motive (l ++ [b])) (l : List UInt8) : motive l := by
  have : ∀ m : List UInt8, motive m.reverse := fun m => by
    induction m with
    | nil => exact h0
    | cons b m ih => rw [List.reverse_cons]; exact h1 _ _ ih
  have h := this l.reverse
  rwa [List.reverse_reverse] at h
theorem enc_snoc (l : List UInt8) (b : UInt8) : enc (l ++ [b]) % 256 = b.toNat ∧ enc (l ++ [b]) / 256 = enc l := by
  have := b.toNat_lt
  rw [enc_append, enc_cons, enc_nil]
  simp only [List.length_cons, List.length_nil, Nat.pow_zero, Nat.mul_one, Nat.zero_add, Nat.pow_one, Nat.add_zero]
  omega
theorem byte_beq (b : UInt8) {c : Nat} (hc : c < 256) : Nat.beq b.toNat c = (b == c.toUInt8) := by
  rw [Bool.eq_iff_iff, Nat.beq_eq, beq_iff_eq]
  constructor
  · intro h; subst h; simp
  · intro h; subst h; simp [Nat.mod_eq_of_lt hc]
theorem cntB_eq {c : Nat} (hc : c < 256) : ∀ l : List UInt8, cntB l.length (enc l) c = countByte l c.toUInt8 := by
  refine snoc_rec rfl fun l b ih => ?_
  have e1 : ∀ n a, cntB (n + 1) a c = match Nat.beq (Nat.mod a 256) c with
    | true => Nat.succ (cntB n (litN (Nat.div a 256)) c)
    | false => cntB n (litN (Nat.div a 256)) c := fun _ _ => rfl
  obtain ⟨h1, h2⟩ := enc_snoc l b
  have h1' : Nat.mod (enc (l ++ [b])) 256 = b.toNat := h1
  have h2' : Nat.div (enc (l ++ [b])) 256 = enc l := h2
  rw [List.length_append, List.length_cons, List.length_nil, e1, h1', h2', litN_eq, byte_beq b hc, ih]
  unfold countByte
  rw [List.count_append, List.count_cons, List.count_nil]
  cases b == c.toUInt8 <;> simp
theorem indexByte_snoc (c : UInt8) (b : UInt8) : ∀ l : List UInt8, indexByte (l ++ [b]) c = if indexByte l c = -1 then (if b == c then (l.length : Int) else -1) else indexByte l c
  | [] => by simp [indexByte]
  | x :: l => by
    rw [List.cons_append, indexByte, indexByte_snoc c b l]
    rw [indexByte]
    have := indexByte_ge l c
    by_cases hx : (x == c) = true
    · simp [hx]
    · simp only [hx, Bool.false_eq_true, if_false]
      by_cases hl : indexByte l c = -1
      · by_cases hb : (b == c) = true
        · simp [hl, hb]
        · simp [hl, hb]
      · have h3 : ¬ (indexByte l c + 1 = -1) := by omega
        simp [hl, h3]
theorem idxB_eq {c : Nat} (hc : c < 256) : ∀ l : List UInt8, indexByte l c.toUInt8 = (match idxB l.length (enc l) c with
    | some i => (i : Int)
    | none => -1) := by
  refine snoc_rec rfl fun l b ih => ?_
  have e1 : ∀ n a, idxB (n + 1) a c = match idxB n (litN (Nat.div a 256)) c with
    | some i => some i
    | none => match Nat.beq (Nat.mod a 256) c with
      | true => some n
      | false => none := fun _ _ => rfl
  obtain ⟨h1, h2⟩ := enc_snoc l b
  have h1' : Nat.mod (enc (l ++ [b])) 256 = b.toNat := h1
  have h2' : Nat.div (enc (l ++ [b])) 256 = enc l := h2
  rw [List.length_append, List.length_cons, List.length_nil, e1, h1', h2', litN_eq, byte_beq b hc, indexByte_snoc, ih]
  cases idxB l.length (enc l) c with
  | some i =>
    have : ¬ ((i : Int) = -1) := by omega
    simp [this]
  | none => cases b == c.toUInt8 <;> simp

theorem run_ext {P : Program} {f : FuncId} {fn : Func} {e : Array Value → Sem Value} {args : Array Value} {w w' : World} {v : Value} (hf : P.funcs[f]? = some fn) (hg : (fn.name == "runtime.NumGoroutine") = false) (hb : fn.body = none)
    (h1 : Extern.findNext fn = none) (h2 : Extern.find fn = some e) (he : (e args).run P w = .ok v w') : (callFunc f args).run P w = .ok (.value v) w' := by
  unfold callFunc
  simp only [Sem.run_bind, run_program, Result.andThen_ok, hf, hg, hb, Option.isNone_none, if_true, run_mark, h1, h2, he, Bool.false_eq_true, if_false]
  rfl
theorem two_args {μ : Mu} {a b : AV} {args' : Array Value} (h : VRels μ [a, b] args'.toList) : ∃ x y, args' = #[x, y] ∧ VRel μ a x ∧ VRel μ b y := by
  obtain ⟨_ | ⟨x', _ | ⟨y', _ | ⟨z', t'⟩⟩⟩⟩ := args'
  · cases h
  · rcases h with _ | ⟨_, ht⟩; cases ht
  · cases h with | cons h1 ht =>
    cases ht with | cons h2 _ => exact ⟨_, _, rfl, h1, h2⟩
  · rcases h with _ | ⟨_, _ | ⟨_, ht⟩⟩; cases ht

theorem toInt_cmp (x y : List UInt8) : compareBytes x y = if Op.bytesLess x y then -1 else if x == y then 0 else 1 := by
  induction x generalizing y with
  | nil => cases y <;> rfl
  | cons a x ih =>
    cases y with
    | nil => rfl
    | cons b y =>
      unfold compareBytes Op.bytesLess
      rw [ih]
      by_cases h1 : a < b
      · simp [h1]
      · by_cases h2 : b < a
        · have : a ≠ b := fun e => by subst e; exact h1 h2
          simp [h1, h2, this]
        · have : a = b := UInt8.le_antisymm (UInt8.not_lt.1 h2) (UInt8.not_lt.1 h1)
          subst this
          simp [h1]

/-- The model follows one call. -/
def CallAt (P : Program) (f : Nat) (args : List AV) (s : St) (v : AV) (s' : St) : Prop :=
  ∀ (μ : Mu) (w : World) (args' : Array Value) (o : Oper) (a : Act) (K : Act → World → Prop) (Q : Exit → Act → World → Prop), VRels μ args args'.toList → R μ s w → FreeUp μ s.next →
    (∀ μ' v' w', VRel μ' v v' → R μ' s' w' → Ext μ s w μ' s' w' → K (a.put o.dst v') w') → o.upon P a K Q ((callFunc f args').run P w)
/-- What is known is so. -/
structure KnownOk (P : Program) (kn : Kn) : Prop where
  vals : ∀ f v, knownOf kn.vals f = some v → (∃ fn c, P.funcs[f]? = some fn ∧ fn.body = some c) ∧
    ∀ w, Calls P f #[] w fun e w' => ∃ v', e = .returned v' ∧ (∀ μ, VRel μ v v') ∧ Below w.heap.size w w'
  memo : ∀ x ∈ kn.memo, CallAt P x.f x.args x.s x.v x.s'
  prims : ∀ f run, primOf kn.prims f = some run → ∀ (args : List AV) (s : St) (v : AV) (s' : St), run args s = some (v, s') → CallAt P f args s v s'
theorem memosOf_mem {f : Nat} {x : Memo} : ∀ {ms : List Memo}, x ∈ memosOf ms f → x ∈ ms ∧ x.f = f
  | [], h => by cases h
  | y :: ms, h => by
    have h' : x ∈ (match Nat.beq y.f f with
      | true => y :: memosOf ms f
      | false => memosOf ms f) := h
    split at h'
    · rename_i e
      rcases List.mem_cons.1 h' with rfl | h'
      · exact ⟨List.mem_cons_self .., Nat.eq_of_beq_eq_true e⟩
      · exact (memosOf_mem h').imp (List.mem_cons_of_mem _) id
    · exact (memosOf_mem h').imp (List.mem_cons_of_mem _) id
theorem look_mem {args : List AV} {s : St} {r : AV × St} : ∀ {ms : List Memo}, look ms args s = some r → ∃ x ∈ ms, x.args = args ∧ x.s = s ∧ (x.v, x.s') = r
  | [], h => by cases h
  | y :: ms, h => by
    have h' : (match (AV.beqs y.args args && St.beq y.s s) with
      | true => some (y.v, y.s')
      | false => look ms args s) = some r := h
    split at h'
    · rename_i e
      rw [Bool.and_eq_true] at e
      cases h'
      exact ⟨y, List.mem_cons_self .., AV.beqs_eq e.1, St.beq_eq e.2, rfl⟩
    · obtain ⟨x, h1, h2⟩ := look_mem h'
      exact ⟨x, List.mem_cons_of_mem _ h1, h2⟩

theorem R.below {μ : Mu} {s : St} {w w' : World} (h : R μ s w) (hb : Below w.heap.size w w') : R μ s w' ∧ Ext μ s w μ s w' :=
  ⟨⟨h.fresh, fun p x hp => by
    obtain ⟨b, d, t, h1, h2⟩ := h.blk p x hp
    exact ⟨b, d, t, h1, h2.mono μ.le_refl (hb.block b h2.lt)⟩, h.apart⟩,
   { le := μ.le_refl, mu := fun _ _ => rfl, next := Nat.le_refl _, size := hb.size, os := hb.os, tape := hb.tape, output := hb.output, keep := fun b hlt _ => hb.block b hlt, own := fun _ _ h => h }⟩
/-- A contract that leaves memory as it is. -/
theorem CallAt.quiet {P : Program} (hn : namesOk P = true) {f : Nat} {fn : Func} {c : Code} (hfn : P.funcs[f]? = some fn) (hb : fn.body = some c) {args : List AV} {s : St} {v : AV}
    (h : ∀ (μ : Mu) (w : World) (args' : Array Value), VRels μ args args'.toList → R μ s w → Calls P f args' w fun e w' => ∃ v', e = .returned v' ∧ VRel μ v v' ∧ Below w.heap.size w w') : CallAt P f args s v s := by
  intro μ w args' o a K Q hargs hR hU hK
  obtain ⟨hg, _⟩ := names_go hn hfn
  have hrun : (callFunc f args').run P w = .ok (.enter f args') w := by
    unfold callFunc
    simp only [Sem.run_bind, run_program, Result.andThen_ok, hfn, hg, hb, Option.isNone_some, Bool.false_eq_true, if_false, Sem.run_pure]
  rw [hrun, Oper.upon_enter]
  refine (h μ w args' hargs hR).mono fun e w' he => ?_
  obtain ⟨v', rfl, hv, hbl⟩ := he
  obtain ⟨h1, h2⟩ := hR.below hbl
  exact hK μ v' w' hv h1 h2

theorem cfn_cases {P : Program} {fn : Func} {x : AFn} (h : cfn P fn = some x) :
    (fn.body = none ∧ ((x = .cmp ∧ fn.name = "internal/bytealg.abigen_runtime_cmpstring") ∨ (x = .cnt ∧ fn.name = "internal/bytealg.CountString") ∨ (x = .idx ∧ fn.name = "internal/bytealg.IndexByteString"))) ∨
    ∃ code c r m, fn.body = some code ∧ ccode P fn.ntmps code = some c ∧ cres P fn.ntmps fn.results.toList = some r ∧ x = .body fn.ntmps m c r := by
  unfold cfn at h
  split at h
  · rename_i hb
    refine .inl ⟨hb, ?_⟩
    split at h
    · rename_i hn; cases h; exact .inl ⟨rfl, by simpa using hn⟩
    · split at h
      · rename_i hn; cases h; exact .inr (.inl ⟨rfl, by simpa using hn⟩)
      · split at h
        · rename_i hn; cases h; exact .inr (.inr ⟨rfl, by simpa using hn⟩)
        · cases h
  · rename_i code hb
    split at h
    · cases h
    rename_i c hc
    split at h
    · cases h
    rename_i r hr
    rw [frcN_eq] at h
    cases h
    exact .inr ⟨code, c, r, _, hb, hc, hr, rfl⟩
theorem progOf_cases {P : Program} {kn : Kn} {f : Nat} {x : AFn} (h : progOf P kn f = some x) : (∃ v, knownOf kn.vals f = some v ∧ x = .known v) ∨ (∃ run, primOf kn.prims f = some run ∧ x = .prim run) ∨
    ∃ fn, P.funcs[f]? = some fn ∧ (cfn P fn = some x ∨ ∃ n m c r, cfn P fn = some (.body n m c r) ∧ x = .memo (memosOf kn.memo f) n m c r) := by
  unfold progOf at h
  split at h
  · rename_i v hv; cases h; exact .inl ⟨v, hv, rfl⟩
  split at h
  · rename_i run hr; cases h; exact .inr (.inl ⟨run, hr, rfl⟩)
  · split at h
    · cases h
    rename_i fn hfn
    refine .inr (.inr ⟨fn, hfn, ?_⟩)
    split at h
    · exact .inl h
    · rename_i y ms hms
      split at h
      · rename_i n m c r hc
        cases h
        exact .inr ⟨n, m, c, r, hc, by rw [hms]⟩
      · cases h

theorem body_ok {P : Program} (hn : namesOk P = true) {ex : ACode → Env → St → Option (AExit × Env × St)} (hex : CodeOk P ex) {f : Nat} {fn : Func} {code : Code} {c : ACode} {m : Nat} {res : List ARes} (hfn : P.funcs[f]? = some fn) (hb : fn.body = some code)
    (hc' : ccode P fn.ntmps code = some c) (hr' : cres P fn.ntmps fn.results.toList = some res) {args : List AV} {s : St} {v : AV} {s' : St} (h : runBody ex m c res args s = some (v, s')) : CallAt P f args s v s' := by
  intro μ w args' o a K Q hargs hR hU hK
  unfold runBody at h
  split at h
  · cases h
  rename_i e t s1 hx
  obtain ⟨hg, _⟩ := names_go hn hfn
  have hrun : (callFunc f args').run P w = .ok (.enter f args') w := by
    unfold callFunc
    simp only [Sem.run_bind, run_program, Result.andThen_ok, hfn, hg, hb, Option.isNone_some, Bool.false_eq_true, if_false, Sem.run_pure]
  rw [hrun, Oper.upon_enter]
  refine calls_of_wp hfn hb (hex code c fn.ntmps _ s e t s1 μ w _ _ hc' hx ⟨?_, fun j u hj => ?_⟩ hR hU fun a' w' μ' ht' hR' hE hd => ?_)
  · simp; omega
  · rw [Env.get_base] at hj
    split at hj
    case isFalse => cases hj
    rw [T.get_fill] at hj
    split at hj
    · rename_i hlt
      obtain ⟨u', q1, q2⟩ := hargs.get j u hj
      refine ⟨u', ?_, q2⟩
      have : j < args'.size := by
        have := hargs.length
        simp at this
        omega
      simp only [Array.getElem?_toList] at q1
      rw [Array.getElem?_append_left this, q1]
    · rw [T.get_leaf] at hj; cases hj
  · have fin : ∀ (vs : List AV), resVals t s1 res = some vs → oneOf vs = v → s1 = s' → a'.defers = [] ∧ ∃ v', (results fn a'.tmps).run P w' = .ok v' w' ∧ K (a.put o.dst v') w' := fun vs hvs hv hs => by
      subst hs
      obtain ⟨v', g1, g2⟩ := results_ok ht' hR' hr' hvs
      rw [hv] at g2
      exact ⟨hd, v', g1, hK _ _ _ g2 hR' hE⟩
    cases e with
    | exit id => cases h
    | normal =>
      simp only at h
      split at h
      · cases h
      rename_i vs hvs
      split at h
      · cases h; exact fin _ hvs rfl rfl
      · rename_i hne
        cases h
        exact fin _ hvs (by unfold oneOf; split <;> first | rfl | exact absurd rfl (hne _)) rfl
    | ret =>
      simp only at h
      split at h
      · cases h
      rename_i vs hvs
      split at h
      · cases h; exact fin _ hvs rfl rfl
      · rename_i hne
        cases h
        exact fin _ hvs (by unfold oneOf; split <;> first | rfl | exact absurd rfl (hne _)) rfl

theorem callFn_ok {P : Program} {kn : Kn} (hk : KnownOk P kn) (hn : namesOk P = true) {ex : ACode → Env → St → Option (AExit × Env × St)} (hex : CodeOk P ex) : CallOk P (callFn (progOf P kn) ex) := by
  intro f args s v s' μ w args' o a K Q h hargs hR hU hK
  unfold callFn at h
  cases hp : progOf P kn f with
  | none => rw [hp] at h; cases h
  | some x =>
    rw [hp] at h
    rcases progOf_cases hp with ⟨v0, hkv, rfl⟩ | ⟨run, hrn, rfl⟩ | ⟨fn, hfn, hx⟩
    · dsimp only at h
      split at h
      case h_2 => cases h
      cases h
      obtain ⟨⟨fn, c, hfn, hb⟩, hcalls⟩ := hk.vals f _ hkv
      obtain ⟨_ | ⟨_, _⟩⟩ := args'
      case cons => cases hargs
      obtain ⟨hg, _⟩ := names_go hn hfn
      have hrun : (callFunc f #[]).run P w = .ok (.enter f #[]) w := by
        unfold callFunc
        simp only [Sem.run_bind, run_program, Result.andThen_ok, hfn, hg, hb, Option.isNone_some, Bool.false_eq_true, if_false, Sem.run_pure]
      show o.upon P a K Q ((callFunc f #[]).run P w)
      rw [hrun, Oper.upon_enter]
      refine (hcalls w).mono fun e w' he => ?_
      obtain ⟨v', rfl, hv, hbl⟩ := he
      obtain ⟨h1, h2⟩ := hR.below hbl
      exact hK μ v' w' (hv μ) h1 h2
    · exact hk.prims f _ hrn args s v s' h μ w args' o a K Q hargs hR hU hK
    · obtain ⟨hg, hor⟩ := names_go hn hfn
      rcases hx with hx | ⟨n, m, c, r, hx, rfl⟩
      · rcases cfn_cases hx with ⟨hb, ⟨rfl, hname'⟩ | ⟨rfl, hname'⟩ | ⟨rfl, hname'⟩⟩ | ⟨code, c, r, m, hb, hc, hr, rfl⟩
        · dsimp only at h
          split at h
          case h_2 => cases h
          obtain ⟨x', y', rfl, h1, h2⟩ := two_args hargs
          cases h1 with | str sx _ _ hl1 hb1 =>
          cases h2 with | str sy _ _ hl2 hb2 =>
          rw [run_ext hfn hg hb (findNext_cmp hname' (hor (by rw [hname']; rfl))) (find_cmp hname') (Go.Lib.run_compareString sx sy w), Oper.upon_value]
          subst hl1 hb1 hl2 hb2
          have hlt : strLt sx.size (enc sx.data.toList) sy.size (enc sy.data.toList) = Op.bytesLess sx.data.toList sy.data.toList := strLt_eq _ _
          have heq : strEq sx.size (enc sx.data.toList) sy.size (enc sy.data.toList) = (sx.data.toList == sy.data.toList) := strEq_eq _ _
          rw [hlt, heq] at h
          rw [toInt_cmp]
          split at h
          · rename_i hb; cases h; rw [hb]; exact hK μ _ _ (.int _ _) hR (.refl _ _ _)
          · rename_i hb
            rw [hb]
            split at h
            · rename_i hb2; cases h; rw [hb2]; exact hK μ _ _ (.int _ _) hR (.refl _ _ _)
            · rename_i hb2; cases h; rw [hb2]; exact hK μ _ _ (.int _ _) hR (.refl _ _ _)
        · dsimp only at h
          split at h
          case h_2 => cases h
          split at h
          case h_2 => cases h
          rename_i hk
          obtain rfl := kbeq_eq.1 hk
          split at h
          case h_2 => cases h
          rename_i c
          split at h
          case h_2 => cases h
          rename_i hc
          have hc' : c < 256 := by rw [Nat.blt_eq] at hc; exact hc
          cases h
          obtain ⟨x', y', rfl, h1, h2⟩ := two_args hargs
          cases h1 with | str sx _ _ hl1 hb1 =>
          cases h2
          rw [run_ext hfn hg hb (findNext_cnt hname' (hor (by rw [hname']; simp))) (find_cnt hname') (Go.Lib.run_countString sx _ w), Oper.upon_value]
          subst hl1 hb1
          have e1 : (Int.ofNat c).toNat.toUInt8 = c.toUInt8 := rfl
          have e2 := cntB_eq hc' sx.data.toList
          simp only [Array.length_toList] at e2
          rw [e1, ← e2, litN_eq] at *
          exact hK μ _ _ (.int _ _) hR (.refl _ _ _)
        · dsimp only at h
          split at h
          case h_2 => cases h
          split at h
          case h_2 => cases h
          rename_i hk
          obtain rfl := kbeq_eq.1 hk
          split at h
          case h_2 => cases h
          rename_i c
          split at h
          case h_2 => cases h
          rename_i hc
          have hc' : c < 256 := by rw [Nat.blt_eq] at hc; exact hc
          obtain ⟨x', y', rfl, h1, h2⟩ := two_args hargs
          cases h1 with | str sx _ _ hl1 hb1 =>
          cases h2
          rw [run_ext hfn hg hb (findNext_idx hname' (hor (by rw [hname']; simp))) (find_idx hname') (Go.Lib.run_indexByteString sx _ w), Oper.upon_value]
          subst hl1 hb1
          have e1 : (Int.ofNat c).toNat.toUInt8 = c.toUInt8 := rfl
          have e2 := idxB_eq hc' sx.data.toList
          simp only [Array.length_toList] at e2
          have e3 : sx.data.size = sx.size := rfl
          rw [e1, e2]
          split at h
          · rename_i i hi
            cases h
            rw [e3, hi, litN_eq] at *
            exact hK μ _ _ (.int _ _) hR (.refl _ _ _)
          · rename_i hi
            cases h
            rw [e3, hi]
            exact hK μ _ _ (.int _ _) hR (.refl _ _ _)
        · exact body_ok hn hex hfn hb hc hr h μ w args' o a K Q hargs hR hU hK
      · rcases cfn_cases hx with ⟨_, ⟨h1, _⟩ | ⟨h1, _⟩ | ⟨h1, _⟩⟩ | ⟨code, c', r', m', hb, hc, hr, h1⟩
        · cases h1
        · cases h1
        · cases h1
        · cases h1
          dsimp only at h
          split at h
          · rename_i q hq
            cases h
            obtain ⟨y, h1, h2, h3, h4⟩ := look_mem hq
            obtain ⟨h5, h6⟩ := memosOf_mem h1
            cases h4
            have := hk.memo y h5
            rw [h6, h2, h3] at this
            exact this μ w args' o a K Q hargs hR hU hK
          · exact body_ok hn hex hfn hb hc hr h μ w args' o a K Q hargs hR hU hK

theorem opFail_dead {call : CallF} {t : Env} {s : St} : execOps call [.op none none opFail] t s = none := rfl

theorem exec_ok {P : Program} {kn : Kn} (hk : KnownOk P kn) (hm : P.follows .mixedOrders = true) (hn : namesOk P = true) : ∀ fuel, CodeOk P (exec (progOf P kn) fuel) ∧ RoundsOk P fuel (exec (progOf P kn) fuel) := by
  intro fuel
  induction fuel with
  | zero => exact ⟨fun c c' N t s e t' s' μ w a Q hc h => (by cases h), fun c c' N t s e t' s' μ w a Q hc h => (by cases h)⟩
  | succ fuel ih =>
    obtain ⟨ih, ihr⟩ := ih
    have hcall := callFn_ok hk hn ih
    have rounds : RoundsOk P (fuel + 1) (exec (progOf P kn) (fuel + 1)) := by
      intro c c' N t s e t' s' μ w a Q hc h ht hR hU hK
      have h' : (match exec (progOf P kn) fuel c' t s with
        | none => none
        | some (e, t', s') => match e with
          | .normal => exec (progOf P kn) fuel (.loop c') t' s'
          | .exit i => some (.exit i, t', s')
          | .ret => some (.ret, t', s')) = some (e, t', s') := h
      rw [rounds_succ]
      split at h'
      · cases h'
      rename_i e1 t1 s1 hx
      refine ih c c' N t s e1 t1 s1 μ w a _ hc hx ht hR hU fun a1 w1 μ1 ht1 hR1 hE1 hd1 => ?_
      cases e1 with
      | normal => exact ihr c c' N t1 s1 e t' s' μ1 w1 a1 Q hc h' ht1 hR1 (hU.ext hE1) fun a2 w2 μ2 q1 q2 q3 q4 => hK a2 w2 μ2 q1 q2 (hE1.trans q3) (q4.trans hd1)
      | exit i => cases h'; exact hK a1 w1 μ1 ht1 hR1 hE1 hd1
      | ret => cases h'; exact hK a1 w1 μ1 ht1 hR1 hE1 hd1
    refine ⟨?_, rounds⟩
    intro c c' N t s e t' s' μ w a Q hc h ht hR hU hK
    have dead : exec (progOf P kn) (fuel + 1) codeFail t s = none := rfl
    unfold ccode at hc
    split at hc
    · cases hc; cases h; exact wp_skip (hK a w μ ht hR (.refl _ _ _) rfl)
    · split at hc
      · split at hc
        case h_2 => cases hc
        rename_i l hl
        cases hc
        have h' : (match execOps (callFn (progOf P kn) (exec (progOf P kn) fuel)) l t s with
          | some (t', s') => retE AExit.normal t'.flush s'
          | none => none) = some (e, t', s') := h
        split at h'
        case h_2 => cases h'
        rename_i t1 s1 hx
        rw [retE_eq] at h'
        cases h'
        refine wp_region ?_
        rw [List.range_eq_range', ← Array.length_toList]
        exact ops_ok hcall (i := 0) hl (fun j => by simp) hx ht hR hU fun a' w' μ' h1 h2 h3 h4 => hK a' w' μ' h1.flush h2 h3 h4
      · split at hc
        · rename_i d hd
          cases hc
          have hd0 := hd
          unfold cdraw at hd
          simp only at hd
          split at hd
          · cases hd
          split at hd
          case h_2 => cases hd
          cases hd
          have h' : (match execDraw (callFn (progOf P kn) (exec (progOf P kn) fuel)) s.next _ t ⟨s.heap, s.next.plus _⟩ ⟨s.heap, s.next.plus _⟩ [] with
            | some (t', s') => retE AExit.normal t'.flush s'
            | none => none) = some (e, t', s') := h
          split at h'
          case h_2 => cases h'
          rename_i t1 s1 hx
          rw [retE_eq] at h'
          cases h'
          exact draw_ok hm hcall hd0 hx ht hR hU fun a' w' μ' h1 h2 h3 h4 => hK a' w' μ' h1.flush h2 h3 h4
        · cases hc
          rw [dead] at h; cases h
    · split at hc
      · cases hc
      rename_i a' ha'
      split at hc
      case h_2 => cases hc
      rename_i b' hb'
      cases hc
      have h' : (match exec (progOf P kn) fuel a' t s with
        | none => none
        | some (e, t', s') => match e with
          | .normal => exec (progOf P kn) fuel b' t' s'
          | .exit i => some (.exit i, t', s')
          | .ret => some (.ret, t', s')) = some (e, t', s') := h
      refine wp_seq ?_
      split at h'
      · cases h'
      rename_i e1 t1 s1 hx
      refine ih _ a' N t s e1 t1 s1 μ w a _ ha' hx ht hR hU fun a1 w1 μ1 ht1 hR1 hE1 hd1 => ?_
      cases e1 with
      | normal => exact ih _ b' N t1 s1 e t' s' μ1 w1 a1 Q hb' h' ht1 hR1 (hU.ext hE1) fun a2 w2 μ2 q1 q2 q3 q4 => hK a2 w2 μ2 q1 q2 (hE1.trans q3) (q4.trans hd1)
      | exit i => cases h'; exact hK a1 w1 μ1 ht1 hR1 hE1 hd1
      | ret => cases h'; exact hK a1 w1 μ1 ht1 hR1 hE1 hd1
    · split at hc
      · cases hc
      rename_i x' hx'
      split at hc
      · cases hc
      rename_i a' ha'
      split at hc
      case h_2 => cases hc
      rename_i b' hb'
      cases hc
      have h' : (match ev t x' with
        | some (.bool v) => match v with
          | true => exec (progOf P kn) fuel a' t s
          | false => exec (progOf P kn) fuel b' t s
        | _ => none) = some (e, t', s') := h
      split at h'
      case h_2 => cases h'
      rename_i v hv
      have hb := ev_ok ht hx' hv
      generalize hev : a.eval _ = cv at hb
      cases hb
      refine wp_cond hev ?_
      cases v with
      | true => exact ih _ a' N t s e t' s' μ w a Q ha' h' ht hR hU hK
      | false => exact ih _ b' N t s e t' s' μ w a Q hb' h' ht hR hU hK
    · split at hc
      case h_2 => cases hc
      rename_i id0 _ _ a' ha'
      cases hc
      have h' : (match exec (progOf P kn) fuel a' t s with
        | none => none
        | some (e, t', s') => match e with
          | .normal => some (.normal, t', s')
          | .exit i => match Nat.beq i id0 with
            | true => some (.normal, t', s')
            | false => some (.exit i, t', s')
          | .ret => some (.ret, t', s')) = some (e, t', s') := h
      refine wp_block ?_
      split at h'
      · cases h'
      rename_i e1 t1 s1 hx
      refine ih _ a' N t s e1 t1 s1 μ w a _ ha' hx ht hR hU fun a1 w1 μ1 ht1 hR1 hE1 hd1 => ?_
      cases e1 with
      | normal => cases h'; exact hK a1 w1 μ1 ht1 hR1 hE1 hd1
      | exit i =>
        simp only at h'
        split at h'
        · rename_i hi
          cases h'
          have : i = id0 := Nat.eq_of_beq_eq_true hi
          show (if i = id0 then _ else _)
          rw [if_pos this]
          exact hK a1 w1 μ1 ht1 hR1 hE1 hd1
        · rename_i hi
          cases h'
          have : i ≠ id0 := fun e => by rw [e, Nat.beq_refl] at hi; cases hi
          show (if i = id0 then _ else _)
          rw [if_neg this]
          exact hK a1 w1 μ1 ht1 hR1 hE1 hd1
      | ret => cases h'; exact hK a1 w1 μ1 ht1 hR1 hE1 hd1
    · split at hc
      case h_2 => cases hc
      rename_i a' ha'
      cases hc
      exact wp_loop_rounds (fuel + 1) (rounds _ a' N t s e t' s' μ w a Q ha' h ht hR hU hK)
    · cases hc; cases h; exact wp_exit (hK a w μ ht hR (.refl _ _ _) rfl)
    · cases hc; cases h; exact wp_ret (hK a w μ ht hR (.refl _ _ _) rfl)
    · cases hc
      rw [dead] at h; cases h

end Go.Abs
