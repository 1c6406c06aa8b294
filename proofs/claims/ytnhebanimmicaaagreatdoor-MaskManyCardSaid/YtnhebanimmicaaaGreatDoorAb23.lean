/- What the machine says, the model does. -/
import Derived.Test.YtnhebanimmicaaaGreatDoorAbQ
import Derived.ProofKit
import Derived.OpenShut
namespace Go.Abs
open Go.RowKit

theorem calls_of_callFn {P : Program} {kn : Kn} (hk : KnownOk P kn) (hm : P.follows .mixedOrders = true) (hn : namesOk P = true) {fuel f : Nat} {args : List AV} {v : AV} {s' : St}
    (h : callFn (progOf P kn) (exec (progOf P kn) fuel) f args ⟨.leaf, .h⟩ = some (v, s')) {fn : Func} {c : Code} (hf : P.funcs[f]? = some fn) (hb : fn.body = some c)
    {args' : Array Value} (hargs : ∀ μ, VRels μ args args'.toList) (w : World) : Calls P f args' w fun e w' => ∃ v' μ, e = .returned v' ∧ VRel μ v v' ∧ Below w.heap.size w w' := by
  have hU : FreeUp (fun _ => none) Pos.h := fun _ _ => rfl
  obtain ⟨hg, _⟩ := names_go hn hf
  have hrun : (callFunc f args').run P w = .ok (.enter f args') w := by
    unfold callFunc
    simp only [Sem.run_bind, run_program, Result.andThen_ok, hf, hg, hb, Option.isNone_some, Bool.false_eq_true, if_false, Sem.run_pure]
  have := callFn_ok hk hn (exec_ok hk hm hn fuel).1 f args ⟨.leaf, .h⟩ v s' (fun _ => none) w args' ({ (default : Oper) with dst := some 0 }) ⟨#[undef], []⟩
    (fun a' w' => ∃ μ, VRel μ v (a'.tmps.getD 0 undef) ∧ Below w.heap.size w w') (fun _ _ _ => False) h (hargs _) (R.leaf _ _ _) hU fun μ' v' w' hv hR hE =>
      ⟨μ', by simpa [Act.put] using hv, hE.os, hE.tape, hE.output, hE.size, fun k hk => hE.keep k hk fun q x d t hq => by
        rw [show (St.mk .leaf Pos.h).heap.get q = none from T.get_leaf q] at hq; cases hq⟩
  rw [hrun, Oper.upon_enter] at this
  refine this.mono fun e w' he => ?_
  cases e with
  | returned v' =>
    obtain ⟨μ, h1, h2⟩ := he
    exact ⟨v', μ, rfl, by simpa [Act.put] using h1, h2⟩
  | panicked chain => cases he
  | outgrown =>
    obtain ⟨_, _, h⟩ := he
    cases h

theorem calls_true {P : Program} {kn : Kn} (hk : KnownOk P kn) (hm : P.follows .mixedOrders = true) (hn : namesOk P = true) {fuel f : Nat} {args : List AV}
    (h : saysTrue P kn fuel f args = true) {fn : Func} {c : Code} (hf : P.funcs[f]? = some fn) (hb : fn.body = some c)
    {args' : Array Value} (hargs : ∀ μ, VRels μ args args'.toList) (w : World) : Calls P f args' w fun e w' => e = .returned (.bool true) ∧ Below w.heap.size w w' := by
  unfold saysTrue at h
  split at h
  case h_2 => cases h
  rename_i b s' hc
  refine (calls_of_callFn hk hm hn hc hf hb hargs w).mono fun e w' he => ?_
  obtain ⟨v', μ, rfl, hv, hbl⟩ := he
  cases hv
  subst h
  exact ⟨rfl, hbl⟩

theorem known_nil (P : Program) : KnownOk P ⟨[], [], []⟩ := ⟨fun f v h => (by cases h), fun x h => (by cases h), fun f v h => (by cases h)⟩
/-- What is true of a call without arguments is known from then on. -/
theorem known_cons {P : Program} {kn : Kn} (hk : KnownOk P kn) (hm : P.follows .mixedOrders = true) (hn : namesOk P = true) {fuel f : Nat}
    (h : saysTrue P kn fuel f [] = true) {fn : Func} {c : Code} (hf : P.funcs[f]? = some fn) (hb : fn.body = some c) : KnownOk P ⟨(f, .bool true) :: kn.vals, kn.memo, kn.prims⟩ := by
  refine ⟨fun g v hg => ?_, hk.memo, hk.prims⟩
  have hg' : (match Nat.beq f g with
    | true => some (AV.bool true)
    | false => knownOf kn.vals g) = some v := hg
  split at hg'
  · rename_i e
    obtain rfl := Nat.eq_of_beq_eq_true e
    cases hg'
    exact ⟨⟨fn, c, hf, hb⟩, fun w => (calls_true hk hm hn h hf hb (args' := #[]) (fun _ => .nil) w).mono fun e w' he => ⟨_, he.1, fun μ => .bool true, he.2⟩⟩
  · exact hk.vals g v hg'
/-- Only the values are kept. -/
theorem known_vals {P : Program} {kn : Kn} (hk : KnownOk P kn) : KnownOk P ⟨kn.vals, [], kn.prims⟩ := ⟨hk.vals, fun x h => (by cases h), hk.prims⟩
/-- What a call has come to is known from then on. -/
theorem known_memo {P : Program} {kn : Kn} (hk : KnownOk P kn) (hm : P.follows .mixedOrders = true) (hn : namesOk P = true) {fuel : Nat} {x : Memo}
    (h : callFn (progOf P kn) (exec (progOf P kn) fuel) x.f x.args x.s = some (x.v, x.s')) : KnownOk P ⟨kn.vals, x :: kn.memo, kn.prims⟩ :=
  ⟨hk.vals, fun y hy => by
    rcases List.mem_cons.1 hy with rfl | hy
    · exact fun μ w args' o a K Q hargs hR hU hK => callFn_ok hk hn (exec_ok hk hm hn fuel).1 _ _ _ _ _ μ w args' o a K Q h hargs hR hU hK
    · exact hk.memo y hy, hk.prims⟩

end Go.Abs
