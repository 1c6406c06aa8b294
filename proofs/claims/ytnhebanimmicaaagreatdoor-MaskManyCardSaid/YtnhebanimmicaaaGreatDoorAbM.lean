/- What a call has come to, laid down in a text of its own; memory that is not needed is left out. -/
import Derived.Test.YtnhebanimmicaaaGreatDoorAb24
import Derived.Lib.Join
namespace Go.Abs
open Go.RowKit

noncomputable def optSub {α : Type} (eq : α → α → Bool) (a b : Option α) : Bool := match a with
  | none => true
  | some x => (match b with
    | none => false
    | some y => eq x y)
/-- What stands in the first tree stands in the second. -/
noncomputable def T.subB {α : Type} (eq : α → α → Bool) (t : T α) : T α → Bool :=
  T.rec (motive := fun _ => T α → Bool) (fun _ => true)
    (fun _ v _ il ir u => T.rec (motive := fun _ => Bool) false (fun l' v' r' _ _ => and (optSub eq v v') (and (il l') (ir r'))) u) t
theorem optSub_eq {α : Type} {eq : α → α → Bool} (he : ∀ a b, eq a b = true → a = b) {a b : Option α} (h : optSub eq a b = true) {x : α} (hx : a = some x) : b = some x := by
  subst hx
  unfold optSub at h
  cases b with
  | none => cases h
  | some y => rw [he x y h]
theorem T.subB_eq {α : Type} {eq : α → α → Bool} (he : ∀ a b, eq a b = true → a = b) : ∀ {t u : T α}, T.subB eq t u = true → ∀ p x, t.get p = some x → u.get p = some x
  | .leaf, _, _, p, x, hx => by rw [T.get_leaf] at hx; cases hx
  | .node _ _ _, .leaf, h, _, _, _ => by cases h
  | .node l v r, .node l' v' r', h, p, x, hx => by
    have h' : (optSub eq v v' && (T.subB eq l l' && T.subB eq r r')) = true := h
    rw [Bool.and_eq_true, Bool.and_eq_true] at h'
    cases p with
    | h => exact optSub_eq he h'.1 hx
    | o p => exact T.subB_eq he h'.2.1 p x hx
    | i p => exact T.subB_eq he h'.2.2 p x hx

theorem R.thin {μ : Mu} {s s' : St} {w : World} (h : R μ s w) (hn : s'.next = s.next) (hs : ∀ p x, s'.heap.get p = some x → s.heap.get p = some x) : R μ s' w :=
  ⟨(fun p hp => by
    cases hg : s'.heap.get p with
    | none => rfl
    | some x => have := hs p x hg; rw [h.fresh p (by rw [← hn]; exact hp)] at this; cases this),
   fun p x hp => h.blk p x (hs p x hp),
   fun p q x y b d t d' t' hp hq => h.apart p q x y b d t d' t' (hs p x hp) (hs q y hq)⟩
theorem Ext.thin {μ μ' : Mu} {s s1 s' : St} {w w' : World} (h : Ext μ s w μ' s1 w') (hn : s'.next = s1.next) (hs : ∀ p x, s'.heap.get p = some x → s1.heap.get p = some x) : Ext μ s w μ' s' w' :=
  { le := h.le, mu := fun p hp => h.mu p (by rw [← hn]; exact hp), next := by rw [hn]; exact h.next, size := h.size, os := h.os, tape := h.tape, output := h.output, keep := h.keep,
    own := fun b hb hn p x d t hp => h.own b hb hn p x d t (hs p x hp) }

/-- A call came to a value; of the memory behind it so much is said. -/
noncomputable def came (r : Option (AV × St)) (v : AV) (s' : St) : Bool := match r with
  | none => false
  | some (v1, s1) => and (AV.beq v1 v) (and (Pos.beq s1.next s'.next) (T.subB Blk.beq s'.heap s1.heap))
theorem known_came {P : Program} {kn : Kn} (hk : KnownOk P kn) (hm : P.follows .mixedOrders = true) (hn : namesOk P = true) {fuel : Nat} (x : Memo)
    (h : came (callFn (progOf P kn) (execQ (progOf P kn) fuel) x.f x.args x.s) x.v x.s' = true) : KnownOk P ⟨kn.vals, x :: kn.memo, kn.prims⟩ := by
  refine ⟨hk.vals, fun y hy => ?_, hk.prims⟩
  rcases List.mem_cons.1 hy with rfl | hy
  case inr => exact hk.memo y hy
  rw [execQ_eq] at h
  unfold came at h
  split at h
  · cases h
  rename_i v1 s1 hc
  rw [Bool.and_eq_true, Bool.and_eq_true] at h
  obtain ⟨h1, h2, h3⟩ := h
  have e1 := AV.beq_eq h1
  have e2 := Pos.beq_eq.1 h2
  have e3 := T.subB_eq (fun a b h => Blk.beq_eq h) h3
  intro μ w args' o a K Q hargs hR hU hK
  refine callFn_ok hk hn (exec_ok hk hm hn fuel).1 _ _ _ _ _ μ w args' o a K Q hc hargs hR hU fun μ' v' w' hv hR' hE => ?_
  exact hK μ' v' w' (e1 ▸ hv) (hR'.thin e2.symm e3) (hE.thin e2.symm e3)

/-! ### strings.Join -/
/-- Texts with another one between; none where it is too long. -/
noncomputable def joinA (ls bs : Nat) (l : List AV) : Option (Nat × Nat) := List.rec (some (0, 0)) (fun v t r => match v with
  | .str m a => match t with
    | [] => some (m, a)
    | _ :: _ => match r with
      | none => none
      | some (n, b) => some (litN (Nat.add (Nat.add m ls) n), litN (Nat.add (Nat.mul (litN (Nat.add (Nat.mul a (Nat.pow 256 ls)) bs)) (Nat.pow 256 n)) b))
  | _ => none) l
noncomputable def joinV (r : Option (Nat × Nat)) : Option AV := match r with
  | none => none
  | some (n, a) => match Nat.ble n 70368744177664 with
    | true => some (.str n a)
    | false => none
noncomputable def runJoin0 (args : List AV) (s : St) : Option AV := match args with
  | [x, y] => match y with
    | .str ls bs => match x with
      | .nilslice => some (.str 0 0)
      | .slice b o len _ es => match and (Nat.beq es 1) (Nat.ble len 70368744177664) with
        | false => none
        | true => match s.readN b o len with
          | none => none
          | some l => joinV (joinA ls bs l)
      | _ => none
    | _ => none
  | _ => none
noncomputable def runJoin (args : List AV) (s : St) : Option (AV × St) := match runJoin0 args s with
  | none => none
  | some v => some (v, s)
/-- What strings.Join's contract says. -/
def JoinOk (P : Program) (f : Nat) : Prop :=
  (∀ (a : Option Addr) (c : Nat) (sep : ByteArray) (w : World), Calls P f #[.slice a 0 c, .string sep] w fun e w' => e = .returned (.string ⟨#[]⟩) ∧ w' = w) ∧
  ∀ (bk o c : Nat) (xs : List ByteArray) (sep : ByteArray) (w : World), (∀ (j : Nat) x, xs[j]? = some x → w.cell? ⟨bk, o + j, none⟩ = some (.string x)) → bk < w.heap.size → xs.length ≤ 140737488355328 → xs.length ≤ c →
    (Go.Lib.join (xs.map (·.data.toList)) sep.data.toList).length ≤ 140737488355328 →
    Calls P f #[.slice (some ⟨bk, o, none⟩) xs.length c, .string sep] w fun e w' => e = .returned (.string ⟨(Go.Lib.join (xs.map (·.data.toList)) sep.data.toList).toArray⟩) ∧ Below w.heap.size w w'

theorem join_two (x y : List UInt8) (r : List (List UInt8)) (sep : List UInt8) : Go.Lib.join (x :: y :: r) sep = x ++ sep ++ Go.Lib.join (y :: r) sep := by
  rw [Go.Lib.join_cons, Go.Lib.join_cons]
  simp [Go.Lib.joinTail]
theorem joinA_cons (ls bs : Nat) (v : AV) (t : List AV) : joinA ls bs (v :: t) = (match v with
  | .str m a => match t with
    | [] => some (m, a)
    | _ :: _ => match joinA ls bs t with
      | none => none
      | some (n, b) => some (litN (Nat.add (Nat.add m ls) n), litN (Nat.add (Nat.mul (litN (Nat.add (Nat.mul a (Nat.pow 256 ls)) bs)) (Nat.pow 256 n)) b))
  | _ => none) := rfl
theorem joinA_ok {μ : Mu} (sep : ByteArray) : ∀ {l : List AV} {l' : List Value}, VRels μ l l' → ∀ {n a : Nat}, joinA sep.size (enc sep.data.toList) l = some (n, a) →
    ∃ xs : List ByteArray, l' = xs.map Value.string ∧ n = (Go.Lib.join (xs.map (·.data.toList)) sep.data.toList).length ∧ a = enc (Go.Lib.join (xs.map (·.data.toList)) sep.data.toList)
  | _, _, .nil, n, a, h => by cases h; exact ⟨[], rfl, rfl, rfl⟩
  | _, _, .cons (v := v) (v' := v') (l := t) (l' := t') hv ht, n, a, h => by
    rw [joinA_cons] at h
    split at h
    case h_2 => cases h
    rename_i m b
    cases hv with | str x _ _ hl hb =>
    split at h
    · cases h
      cases ht
      refine ⟨[x], rfl, ?_, ?_⟩
      · simp [Go.Lib.join_one, hl]
      · simp [Go.Lib.join_one, hb]
    · rename_i u r
      split at h
      · cases h
      rename_i n1 b1 h1
      cases h
      obtain ⟨xs, e1, e2, e3⟩ := joinA_ok sep ht h1
      cases xs with
      | nil => subst e1; cases ht
      | cons y xs =>
        refine ⟨x :: y :: xs, by rw [e1]; rfl, ?_, ?_⟩
        · rw [litN_eq, List.map_cons, List.map_cons, join_two, List.length_append, List.length_append]
          rw [List.map_cons] at e2
          rw [← e2, ← hl]
          simp
        · rw [litN_eq, litN_eq, List.map_cons, List.map_cons, join_two, enc_append, enc_append]
          rw [List.map_cons] at e2 e3
          rw [← e2, ← e3, ← hb]
          simp
theorem joinV_ok {r : Option (Nat × Nat)} {v : AV} (h : joinV r = some v) : ∃ n a, r = some (n, a) ∧ n ≤ 70368744177664 ∧ v = .str n a := by
  unfold joinV at h
  split at h
  · cases h
  rename_i n a
  split at h
  · rename_i hle; cases h; exact ⟨n, a, rfl, Nat.le_of_ble_eq_true hle, rfl⟩
  · cases h
theorem str_of_list {μ : Mu} (l : List UInt8) : VRel μ (.str l.length (enc l)) (.string ⟨l.toArray⟩) := .str _ _ _ (by simp [ByteArray.size]) (by simp)

theorem runJoin0_ok {P : Program} {f : Nat} (hj : JoinOk P f) {args : List AV} {s : St} {v : AV} {μ : Mu} {w : World} {args' : Array Value} (h : runJoin0 args s = some v) (hargs : VRels μ args args'.toList) (hR : R μ s w) :
    Calls P f args' w fun e w' => ∃ v', e = .returned v' ∧ VRel μ v v' ∧ Below w.heap.size w w' := by
  unfold runJoin0 at h
  split at h
  case h_2 => cases h
  rename_i x y
  obtain ⟨x', y', rfl, hx, hy⟩ := two_args hargs
  split at h
  case h_2 => cases h
  rename_i ls bs
  cases hy with | str sep _ _ hl hb =>
  subst hl hb
  have none_ : ∀ (a : Option Addr) (c : Nat), Calls P f #[.slice a 0 c, .string sep] w fun e w' => ∃ v', e = .returned v' ∧ VRel μ (.str 0 0) v' ∧ Below w.heap.size w w' := fun a c =>
    (hj.1 a c sep w).mono fun e w' ⟨he, hw⟩ => ⟨_, he, str_of_list [], hw ▸ Below.refl _ _⟩
  split at h
  · cases h
    cases hx
    exact none_ _ _
  · rename_i b o len cap es
    split at h
    · cases h
    rename_i hc
    rw [Bool.and_eq_true] at hc
    have hlen := Nat.le_of_ble_eq_true hc.2
    split at h
    · cases h
    rename_i l hrd
    obtain ⟨n, a, hja, hn, rfl⟩ := joinV_ok h
    cases len with
    | zero =>
      have : l = [] := by unfold St.readN at hrd; cases hrd; rfl
      subst this
      cases hja
      cases hx with
      | slice => exact none_ _ _
      | sliceE => exact none_ _ _
    | succ k =>
      cases hx with
      | slice b o len cap es c d e cap' hm hcc hll htt =>
      have hrd' : s.read b o (k + 1) = some l := hrd
      obtain ⟨l', q1, q2, q3, q4⟩ := read_ok hR hm hrd'
      obtain ⟨xs, e1, e2, e3⟩ := joinA_ok sep q1 hja
      have hxl : xs.length = k + 1 := by rw [← q2, e1]; simp
      have hcell : ∀ (j : Nat) x, xs[j]? = some x → w.cell? ⟨c, d + o + j, none⟩ = some (.string x) := fun j x hx => q3 j _ (by rw [e1]; simp [hx])
      have h0 : w.cell? ⟨c, d + o + 0, none⟩ = some (.string (xs[0]'(by omega))) := hcell 0 _ (by simp)
      have hbk : c < w.heap.size := World.block_lt_of_cell? w _ h0
      have := hj.2 c (d + o) cap' xs sep w hcell hbk (by omega) (by omega) (by rw [← e2]; omega)
      rw [hxl] at this
      refine this.mono fun e w' ⟨he, hw⟩ => ⟨_, he, ?_, hw⟩
      rw [e2, e3]
      exact str_of_list _
  · cases h
theorem runJoin_ok {P : Program} (hn : namesOk P = true) {f : Nat} {fn : Func} {c : Code} (hfn : P.funcs[f]? = some fn) (hb : fn.body = some c) (hj : JoinOk P f) {args : List AV} {s : St} {v : AV} {s' : St} (h : runJoin args s = some (v, s')) : CallAt P f args s v s' := by
  unfold runJoin at h
  split at h
  · cases h
  rename_i u hu
  cases h
  exact CallAt.quiet hn hfn hb fun μ w args' h1 h2 => runJoin0_ok hj hu h1 h2
end Go.Abs
