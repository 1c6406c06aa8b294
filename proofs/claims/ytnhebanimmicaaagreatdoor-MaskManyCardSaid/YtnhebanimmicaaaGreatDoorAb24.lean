/- Laws whose arguments are whole numbers: from what the machine says to the statement's own words. -/
import Derived.Test.YtnhebanimmicaaaGreatDoorAb23
namespace Go.Abs
open Go.ChangeShapes Go.WideShapes Go.ChangeAt Go.RowKit

theorem andI_range (a : Int) (m : Nat) (hm : m < 9223372036854775808) : 0 ≤ andI a (m : Int) ∧ andI a (m : Int) ≤ (m : Int) := by
  have h : ((BitVec.ofInt 64 a) &&& (BitVec.ofInt 64 (m : Int))).toNat ≤ m := by
    rw [BitVec.toNat_and]
    refine Nat.le_trans Nat.and_le_right ?_
    rw [BitVec.ofInt_natCast, BitVec.toNat_ofNat]
    exact Nat.mod_le _ _
  unfold andI IntKind.wrap
  generalize ((BitVec.ofInt 64 a) &&& (BitVec.ofInt 64 (m : Int))).toNat = r at h
  simp only [IntKind.bits, IntKind.signed]
  have e : ((r : Int) % (2 ^ 64 : Int)) = r := by omega
  simp only [e]
  split
  · rename_i hs
    simp only [Bool.true_and, decide_eq_true_eq] at hs
    omega
  · omega

/-- Of a whole number, so many cases. -/
theorem sym_cases (a : Int) (m : Nat) (hm : m < 9223372036854775808) (md : Nat) (hmd : 0 < md) : ∃ j : Nat, j < md ∧ ∀ μ, VRel μ (.sym (m : Int) (md : Int) (j : Int)) (.int .i64 a) := by
  obtain ⟨h1, h2⟩ := andI_range a m hm
  refine ⟨((andI a (m : Int)).tmod (md : Int)).toNat, ?_, fun μ => .sym _ _ _ _ ?_⟩
  · have := Int.tmod_lt_of_pos (andI a (m : Int)) (show (0 : Int) < md by omega)
    have := Int.tmod_nonneg (md : Int) h1
    omega
  · have := Int.tmod_nonneg (md : Int) h1
    omega

/-- A call that comes to true at each case. -/
theorem calls_cases {P : Program} {kn : Kn} (hk : KnownOk P kn) (hm : P.follows .mixedOrders = true) (hn : namesOk P = true) {fuel f m md : Nat} (hmm : m < 9223372036854775808) (hmd : 0 < md)
    (h : ∀ j : Nat, j < md → saysTrue P kn fuel f [.sym (m : Int) (md : Int) (j : Int)] = true) {fn : Func} {c : Code} (hf : P.funcs[f]? = some fn) (hb : fn.body = some c)
    (a : Int) (w : World) : Calls P f #[.int .i64 a] w fun e w' => e = .returned (.bool true) ∧ Below w.heap.size w w' := by
  obtain ⟨j, h1, h2⟩ := sym_cases a m hmm md hmd
  exact calls_true hk hm hn (h j h1) hf hb (args' := #[.int .i64 a]) (fun μ => .cons (h2 μ) .nil) w

variable {H : Type} {enc : TypeId × Value → H} {P : Program}
/-- The statement's own words behind a call that holds no place of the caller's. -/
theorem post_of_below {f : Func} {s : ChangeSpec} {apart fresh handsOn again : Bool} {W W' : World} {args : Array Value} {v : Value} {ds gs : List (DataW H)}
    (hW : DataW.Whole enc P f.params.toList s.vars apart W args.toList ds gs [])
    (hres : ∀ (b : Nat) (sp : Nat → Bool) (hd : Bool), DataW.TrodAll enc P W' b sp hd f.resultTypes.toList (v.resultList f.resultTypes.size) (s.fn H (ds ++ gs)).results [])
    (hargs : ∀ sp : Nat → Bool, DataW.TrodAll enc P W' 0 sp true f.params.toList args.toList (s.fn H (ds ++ gs)).args [])
    (hvars : ∀ sp : Nat → Bool, DataW.TrodVars enc P W' sp s.vars (s.fn H (ds ++ gs)).vars [])
    (hk : W.keptBut W' (fun _ => False))
    (hok : ∀ (j : Nat) (t : TypeId) (r : Value), f.resultTypes[j]? = some t → (v.resultList f.resultTypes.size)[j]? = some r → Value.okWide P W' .any 0 t r) :
    s.post enc P f apart fresh handsOn again W args v W' := by
  refine ⟨ds, gs, [], [], [], [], hW, hres _ _ _, hargs _, hvars _, World.keptBut_mono (fun p hp => hp.elim) hk, fun _ => ?_⟩
  refine ⟨hok, _, _, ([] ++ []) ++ [], ⟨[] ++ [], [], trodAll_append (hargs _) (hres _ _ _), hvars _, rfl, ?_, ?_⟩, ?_⟩
  · intro b off hp; cases hp
  · intro _; exact List.nodup_nil
  · intro p hp _; cases hp

end Go.Abs
