/- 'MaskErrors' answers true whatever the whole number it is given: no conditions. -/
import Derived.Test.YtnhebanimmicaaaGreatDoorMaskErrors1
import Derived.Test.YtnhebanimmicaaaGreatDoorMaskErrors2
import Derived.Test.YtnhebanimmicaaaGreatDoorMaskErrors3
import Derived.Test.YtnhebanimmicaaaGreatDoorMaskErrors4
import Derived.Test.YtnhebanimmicaaaGreatDoorMaskErrors5
import Derived.Test.YtnhebanimmicaaaGreatDoorMaskErrors6
import Derived.Test.YtnhebanimmicaaaGreatDoorRows
import Derived.WalkKit
import Derived.ProofKit
import Derived.OpenShut
import Derived.Test.YtnhebanimmicaaaGreatDoorCards
import Derived.Test.YtnhebanimmicaaaGreatDoorTie
import Derived.Lib.LaidIn
import Derived.Deep.DeepHandedRow
import Derived.Deep.DeepWitnessRowRef
import Derived.SizedLaws
import Derived.SevenTiedAt
namespace Go.Proofs.YtnhebanimmicaaaGreatDoor.maskErrors
open Go.Abs Go.ChangeShapes Go.WideShapes Go.ChangeAt Go.RowKit Go.Lib

theorem own : ownKnob Tryz.prog.godebug = none := by kernel_rfl

/-- Each case, by the machine. -/
theorem says (j : Nat) (hj : j < 21) : saysTrue Tryz.prog [(8, .bool true)] 100000 6 [.sym ((255 : Nat) : Int) ((21 : Nat) : Int) (j : Int)] = true := by
  rcases Nat.lt_or_ge j 4 with h1 | h1
  · have := List.all_eq_true.1 maskErrorsSays1 (j - 0) (List.mem_range.2 (by omega))
    rwa [show 0 + (j - 0) = j by omega] at this
  rcases Nat.lt_or_ge j 8 with h2 | h2
  · have := List.all_eq_true.1 maskErrorsSays2 (j - 4) (List.mem_range.2 (by omega))
    rwa [show 4 + (j - 4) = j by omega] at this
  rcases Nat.lt_or_ge j 12 with h3 | h3
  · have := List.all_eq_true.1 maskErrorsSays3 (j - 8) (List.mem_range.2 (by omega))
    rwa [show 8 + (j - 8) = j by omega] at this
  rcases Nat.lt_or_ge j 16 with h4 | h4
  · have := List.all_eq_true.1 maskErrorsSays4 (j - 12) (List.mem_range.2 (by omega))
    rwa [show 12 + (j - 12) = j by omega] at this
  rcases Nat.lt_or_ge j 19 with h5 | h5
  · have := List.all_eq_true.1 maskErrorsSays5 (j - 16) (List.mem_range.2 (by omega))
    rwa [show 16 + (j - 16) = j by omega] at this
  · have := List.all_eq_true.1 maskErrorsSays6 (j - 19) (List.mem_range.2 (by omega))
    rwa [show 19 + (j - 19) = j by omega] at this

theorem walk (a0 : Int) (w : World) : Calls Tryz.prog 6 #[.int .i64 a0] w fun e w' => e = .returned (.bool true) ∧ Below w.heap.size w w' :=
  calls_cases known_awake mixed names (by decide) (by decide) says Tryz.func6 rfl a0 w

/-! ### the witness: the settled world, the two tables as they are laid -/
/-- A table's cells. -/
def flatD : Nat → DataW Unit → List Value
  | 0, _ => []
  | n + 1, .agg l => l.flatMap (flatD n)
  | _ + 1, .lit (.int k z) => [.int k z]
  | _ + 1, _ => []
noncomputable def laidWorld (os : Os) : World :=
  let w0 := World.holding Tryz.prog os ⟨#[], #[], []⟩
  let put (h : Array Obj) (g : Nat) (cs : Array Value) : Array Obj := h.modify g fun
    | .cells _ t frozen => .cells cs t frozen
    | o => o
  let h1 := put w0.heap 1 (flatD 4 Rows.laid_unicode_utf8_first).toArray
  let h2 := put h1 2 (flatD 4 (Rows.laid_unicode_utf8_acceptRanges (H := Unit))).toArray
  { w0 with heap := h2 }
theorem laid_met (os : Os) (args : Array Value) : laidMet Tryz.prog Rows.maskErrorsRow.laid ((laidWorld os).forCall (fun _ _ => 0) ⟨#[], args, []⟩).memory :=
  (LaidIn.of_run (l := Rows.maskErrorsRow.laid) [1, 2] 8 (by kernel_rfl) (by kernel_rfl) (by kernel_rfl) (by kernel_rfl)).met
theorem witness_row (os : Os) {H : Type} (enc : TypeId × Value → H) :
    (OpenSpec.ofChange Rows.maskErrorsSpec).preRow enc Tryz.prog Tryz.f6 Rows.maskErrorsRow.domain false Rows.maskErrorsRow.laid ((laidWorld os).forCall (fun _ _ => 0) ⟨#[], #[.int .i64 0], []⟩).memory #[.int .i64 0] := by
  have hw : (DataW.whole enc Tryz.prog ((laidWorld os).forCall (fun _ _ => 0) ⟨#[], #[.int .i64 0], []⟩).memory Tryz.f6.params.toList (OpenSpec.ofChange Rows.maskErrorsSpec).vars false ((#[.int .i64 0] : Array Value)).toList 8).map (fun x => (x.1, x.2.1)) =
      some ([.lit (.int .i64 0)], []) := by kernel_rfl
  obtain ⟨⟨x1, x2, x3⟩, hx, hx1⟩ := Option.map_eq_some_iff.1 hw
  simp only [Prod.mk.injEq] at hx1
  obtain ⟨rfl, rfl⟩ := hx1
  exact OpenSpec.preRow_of_cond 8 hx (by kernel_rfl) (fun k hk => by cases hk) (by kernel_rfl) (laid_met os _)

set_option maxRecDepth 100000 in
theorem lifted (os : Os) (started : os.Started) (H : Type) (enc : TypeId × Value → H) (F : Stop.Interp) :
    ReturnsInHanded {} Tryz.checked os 6 .any ((OpenSpec.ofChange Rows.maskErrorsSpec).preRow enc Tryz.prog Tryz.f6 Rows.maskErrorsRow.domain false Rows.maskErrorsRow.laid) (((OpenSpec.ofChange Rows.maskErrorsSpec).at F).post enc Tryz.prog Tryz.f6 false true false false) := by
  refine returnsInHanded_of_row (C := Tryz.checked) (s := (OpenSpec.ofChange Rows.maskErrorsSpec)) own started (by kernel_rfl) Tryz.func6
    (witness_row_atRef (enc := enc) (C := Tryz.checked) false (laidWorld os) #[.int .i64 0] rfl (by kernel_rfl) (by kernel_rfl) (by kernel_rfl) (witness_row os enc)) ?_
  intro W base args ds gs before hval0 hW _ _ _ _ _ _
  have hval : ∀ (j : Nat) t v, Tryz.f6.params[j]? = some t → args[j]? = some v → Value.okWide Tryz.prog W .any base t v := hval0
  have hW' := hW
  obtain ⟨p, q, hA0, hV, rfl, hfz, hnd⟩ := hW
  have hA : DataW.TrodAll enc Tryz.prog W 0 (fun _ => true) true Tryz.f6.params.toList args.toList ds p := hA0
  rw [Tryz.params6] at hA hval
  obtain ⟨v0, vs0, d0, ds0, p0, q0, hargs, rfl, rfl, h0, r0⟩ := trodAll_cons hA
  obtain ⟨rfl, rfl, rfl⟩ := trodAll_nil r0
  obtain rfl : args = #[v0] := by cases args; simp_all
  obtain ⟨rfl, rfl⟩ := trodVars_none hV
  obtain ⟨a0, rfl, rfl, rfl, w0⟩ := open_int Tryz.underlying3 (hval 0 3 v0 rfl rfl) h0
  clear hA0 hval0
  simp only [List.append_nil] at hW'
  refine (walk a0 W).mono fun e W' ⟨he, hg⟩ => ?_
  subst he
  exact ⟨_, rfl, post_of_below hW' (fun _ _ _ => (trodAll_cons_mk (shut_bool Tryz.underlying4 _) trodAll_mk0)) (fun sp => (trodAll_cons_mk (shut_int Tryz.underlying3 w0) trodAll_mk0)) (fun _ => rfl)
    (hg.frame _) (ok_one (by kernel_rfl) rfl (okWide_bool_mk Tryz.underlying4 _))⟩

theorem over : Rows.MaskErrorsSaid :=
  OpenClaim.holds_of_cond 6 Tryz.f6 rfl rfl rfl rfl rfl rfl rfl ⟨rfl, rfl, rfl, rfl, rfl⟩ rfl rfl rfl rfl rfl (by kernel_rfl) Tryz.func6 (by kernel_rfl)
    (of_decide_eq_true (by kernel_rfl)) (by unfold Func.isWrapper; first | (rw [if_pos (by decide +kernel)]; kernel_rfl) | (rw [if_neg (by decide +kernel)]; exact ⟨rfl, rfl⟩))
    (fun os started H enc _ F0 => by rw [OpenClaim.pre_eq_preRow]; exact lifted os started H enc F0)

/-- The tied card: the tie is given. -/
theorem proved : Rows.MaskErrorsCardSaid :=
  Claim7.holds_tied_plain_at .later [] [.data, .pinned] true (true, "4e2a76446b3aee0210e3cb67f9d4bf7c481e15cf2deee2c4d562c9c6aea18c5a") false
    over (fun _ h => by cases h) (by kernel_rfl) (fun _ h => by cases h) maskErrors_row_tie rfl ⟨rfl, rfl⟩ (by kernel_rfl) rfl
    (fun f fn hf hfn => by
      obtain rfl : f = 6 := Option.some.inj ((show Tryz.prog.funcNamed Rows.maskErrorsRow.func = some 6 by kernel_rfl).symm.trans hf) |>.symm
      obtain rfl : fn = Tryz.f6 := (Option.some.inj (Tryz.func6.symm.trans hfn)).symm
      exact ⟨by kernel_rfl, fun j t ht => by
        rw [Tryz.params6] at ht
        have hm : t ∈ [3] := by simpa using Array.mem_of_getElem? ht
        have hall : ([3].all fun u => !Tryz.prog.wantsStandIn u) = true := by kernel_rfl
        exact (show Tryz.prog.wantsStandIn t = false by simpa using List.all_eq_true.1 hall t hm)⟩)
    (by kernel_rfl)
#print axioms proved
end Go.Proofs.YtnhebanimmicaaaGreatDoor.maskErrors
