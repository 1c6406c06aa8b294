/- 'MaskMany' answers true whatever it is given: no conditions. -/
import Derived.Test.YtnhebanimmicaaaGreatDoorMaskMany1
import Derived.Test.YtnhebanimmicaaaGreatDoorMaskMany2
import Derived.Test.YtnhebanimmicaaaGreatDoorMaskMany3
import Derived.Test.YtnhebanimmicaaaGreatDoorMaskMany4
import Derived.Test.YtnhebanimmicaaaGreatDoorRows
import Derived.WalkKit
import Derived.ProofKit
import Derived.OpenShut
import Derived.Test.YtnhebanimmicaaaGreatDoorCards
import Derived.Test.YtnhebanimmicaaaGreatDoorTie
import Derived.Lib.LaidIn
import Derived.Deep.DeepHandedRow
import Derived.Deep.DeepWitnessRowRef
import Derived.SizedLaws
import Derived.SevenTiedAt
namespace Go.Proofs.YtnhebanimmicaaaGreatDoor.maskMany
open Go.Abs Go.ChangeShapes Go.WideShapes Go.ChangeAt Go.RowKit Go.Lib

theorem own : ownKnob Tryz.prog.godebug = none := by kernel_rfl

/-- Of a whole number its lowest four bits. -/
theorem low_bits (a : Int) : ∃ j : Nat, j < 16 ∧ ∀ μ, VRel μ (.sym ((15 : Nat) : Int) ((0 : Nat) : Int) (j : Int)) (.int .i64 a) := by
  obtain ⟨h1, h2⟩ := andI_range a 15 (by decide)
  have h2' : andI a ((15 : Nat) : Int) ≤ 15 := h2
  refine ⟨(andI a ((15 : Nat) : Int)).toNat, by omega, fun μ => .sym _ _ _ _ ?_⟩
  show (andI a ((15 : Nat) : Int)).tmod 0 = _
  rw [Int.tmod_zero]; omega
/-- Each case, by the machine. -/
theorem says (j : Nat) (hj : j < 16) (a b : Bool) : saysQ Tryz.prog knB 1000000000 3 [.sym ((15 : Nat) : Int) ((0 : Nat) : Int) (j : Int), .bool a, .bool b] = true := by
  match j, hj with
  | 0, _ =>
    cases a
    · cases b
      · exact many0ff
      · exact many0ft
    · cases b
      · exact many0tf
      · exact many0tt
  | 1, _ =>
    cases a
    · cases b
      · exact many1ff
      · exact many1ft
    · cases b
      · exact many1tf
      · exact many1tt
  | 2, _ =>
    cases a
    · cases b
      · exact many2ff
      · exact many2ft
    · cases b
      · exact many2tf
      · exact many2tt
  | 3, _ =>
    cases a
    · cases b
      · exact many3ff
      · exact many3ft
    · cases b
      · exact many3tf
      · exact many3tt
  | 4, _ =>
    cases a
    · cases b
      · exact many4ff
      · exact many4ft
    · cases b
      · exact many4tf
      · exact many4tt
  | 5, _ =>
    cases a
    · cases b
      · exact many5ff
      · exact many5ft
    · cases b
      · exact many5tf
      · exact many5tt
  | 6, _ =>
    cases a
    · cases b
      · exact many6ff
      · exact many6ft
    · cases b
      · exact many6tf
      · exact many6tt
  | 7, _ =>
    cases a
    · cases b
      · exact many7ff
      · exact many7ft
    · cases b
      · exact many7tf
      · exact many7tt
  | 8, _ =>
    cases a
    · cases b
      · exact many8ff
      · exact many8ft
    · cases b
      · exact many8tf
      · exact many8tt
  | 9, _ =>
    cases a
    · cases b
      · exact many9ff
      · exact many9ft
    · cases b
      · exact many9tf
      · exact many9tt
  | 10, _ =>
    cases a
    · cases b
      · exact many10ff
      · exact many10ft
    · cases b
      · exact many10tf
      · exact many10tt
  | 11, _ =>
    cases a
    · cases b
      · exact many11ff
      · exact many11ft
    · cases b
      · exact many11tf
      · exact many11tt
  | 12, _ =>
    cases a
    · cases b
      · exact many12ff
      · exact many12ft
    · cases b
      · exact many12tf
      · exact many12tt
  | 13, _ =>
    cases a
    · cases b
      · exact many13ff
      · exact many13ft
    · cases b
      · exact many13tf
      · exact many13tt
  | 14, _ =>
    cases a
    · cases b
      · exact many14ff
      · exact many14ft
    · cases b
      · exact many14tf
      · exact many14tt
  | 15, _ =>
    cases a
    · cases b
      · exact many15ff
      · exact many15ft
    · cases b
      · exact many15tf
      · exact many15tt
  | n + 16, h => exact absurd h (by omega)
theorem walk (a0 : Int) (a1 : Bool) (a2 : Bool) (w : World) :
    Calls Tryz.prog 3 #[.int .i64 a0, .bool a1, .bool a2] w fun e w' => e = .returned (.bool true) ∧ Below w.heap.size w w' := by
  obtain ⟨j, hj, h⟩ := low_bits a0
  exact calls_true knB_ok mixed names ((saysQ_eq ..).symm.trans (says j hj a1 a2)) Tryz.func3 rfl (args' := #[.int .i64 a0, .bool a1, .bool a2]) (fun μ => .cons (h μ) (.cons (.bool _) (.cons (.bool _) .nil))) w

/-! ### the witness: the settled world, the two tables as they are laid -/
/-- A table's cells. -/
def flatD : Nat → DataW Unit → List Value
  | 0, _ => []
  | n + 1, .agg l => l.flatMap (flatD n)
  | _ + 1, .lit (.int k z) => [.int k z]
  | _ + 1, _ => []
noncomputable def laidWorld (os : Os) : World :=
  let w0 := World.holding Tryz.prog os ⟨#[], #[], []⟩
  let put (h : Array Obj) (g : Nat) (cs : Array Value) : Array Obj := h.modify g fun
    | .cells _ t frozen => .cells cs t frozen
    | o => o
  let h1 := put w0.heap 1 (flatD 4 Rows.laid_unicode_utf8_first).toArray
  let h2 := put h1 2 (flatD 4 (Rows.laid_unicode_utf8_acceptRanges (H := Unit))).toArray
  { w0 with heap := h2 }
theorem laid_met (os : Os) (args : Array Value) : laidMet Tryz.prog Rows.maskManyRow.laid ((laidWorld os).forCall (fun _ _ => 0) ⟨#[], args, []⟩).memory :=
  (LaidIn.of_run (l := Rows.maskManyRow.laid) [1, 2] 8 (by kernel_rfl) (by kernel_rfl) (by kernel_rfl) (by kernel_rfl)).met
theorem witness_row (os : Os) {H : Type} (enc : TypeId × Value → H) :
    (OpenSpec.ofChange Rows.maskManySpec).preRow enc Tryz.prog Tryz.f3 Rows.maskManyRow.domain false Rows.maskManyRow.laid ((laidWorld os).forCall (fun _ _ => 0) ⟨#[], #[.int .i64 0, .bool false, .bool false], []⟩).memory #[.int .i64 0, .bool false, .bool false] := by
  have hw : (DataW.whole enc Tryz.prog ((laidWorld os).forCall (fun _ _ => 0) ⟨#[], #[.int .i64 0, .bool false, .bool false], []⟩).memory Tryz.f3.params.toList (OpenSpec.ofChange Rows.maskManySpec).vars false ((#[.int .i64 0, .bool false, .bool false] : Array Value)).toList 8).map (fun x => (x.1, x.2.1)) =
      some ([.lit (.int .i64 0), .lit (.bool false), .lit (.bool false)], []) := by kernel_rfl
  obtain ⟨⟨x1, x2, x3⟩, hx, hx1⟩ := Option.map_eq_some_iff.1 hw
  simp only [Prod.mk.injEq] at hx1
  obtain ⟨rfl, rfl⟩ := hx1
  exact OpenSpec.preRow_of_cond 8 hx (by kernel_rfl) (fun k hk => by cases hk) (by kernel_rfl) (laid_met os _)

set_option maxRecDepth 100000 in
theorem lifted (os : Os) (started : os.Started) (H : Type) (enc : TypeId × Value → H) (F : Stop.Interp) :
    ReturnsInHanded {} Tryz.checked os 3 .any ((OpenSpec.ofChange Rows.maskManySpec).preRow enc Tryz.prog Tryz.f3 Rows.maskManyRow.domain false Rows.maskManyRow.laid) (((OpenSpec.ofChange Rows.maskManySpec).at F).post enc Tryz.prog Tryz.f3 false true false false) := by
  refine returnsInHanded_of_row (C := Tryz.checked) (s := (OpenSpec.ofChange Rows.maskManySpec)) own started (by kernel_rfl) Tryz.func3
    (witness_row_atRef (enc := enc) (C := Tryz.checked) false (laidWorld os) #[.int .i64 0, .bool false, .bool false] rfl (by kernel_rfl) (by kernel_rfl) (by kernel_rfl) (witness_row os enc)) ?_
  intro W base args ds gs before hval0 hW _ _ _ _ _ _
  have hval : ∀ (j : Nat) t v, Tryz.f3.params[j]? = some t → args[j]? = some v → Value.okWide Tryz.prog W .any base t v := hval0
  have hW' := hW
  obtain ⟨p, q, hA0, hV, rfl, hfz, hnd⟩ := hW
  have hA : DataW.TrodAll enc Tryz.prog W 0 (fun _ => true) true Tryz.f3.params.toList args.toList ds p := hA0
  rw [Tryz.params3] at hA hval
  obtain ⟨v0, vs0, d0, ds0, p0, q0, hargs, rfl, rfl, h0, r0⟩ := trodAll_cons hA
  obtain ⟨v1, vs1, d1, ds1, p1, q1, rfl, rfl, rfl, h1, r1⟩ := trodAll_cons r0
  obtain ⟨v2, vs2, d2, ds2, p2, q2, rfl, rfl, rfl, h2, r2⟩ := trodAll_cons r1
  obtain ⟨rfl, rfl, rfl⟩ := trodAll_nil r2
  obtain rfl : args = #[v0, v1, v2] := by cases args; simp_all
  obtain ⟨rfl, rfl⟩ := trodVars_none hV
  obtain ⟨a0, rfl, rfl, rfl, w0⟩ := open_int Tryz.underlying3 (hval 0 3 v0 rfl rfl) h0
  obtain ⟨a1, rfl, rfl, rfl⟩ := open_bool Tryz.underlying4 (hval 1 4 v1 rfl rfl) h1
  obtain ⟨a2, rfl, rfl, rfl⟩ := open_bool Tryz.underlying4 (hval 2 4 v2 rfl rfl) h2
  clear hA0 hval0
  simp only [List.append_nil] at hW'
  refine (walk a0 a1 a2 W).mono fun e W' ⟨he, hg⟩ => ?_
  subst he
  exact ⟨_, rfl, post_of_below hW' (fun _ _ _ => (trodAll_cons_mk (shut_bool Tryz.underlying4 _) trodAll_mk0)) (fun sp => (trodAll_cons_mk (shut_int Tryz.underlying3 w0) (trodAll_cons_mk (shut_bool Tryz.underlying4 _) (trodAll_cons_mk (shut_bool Tryz.underlying4 _) trodAll_mk0)))) (fun _ => rfl)
    (hg.frame _) (ok_one (by kernel_rfl) rfl (okWide_bool_mk Tryz.underlying4 _))⟩

theorem over : Rows.MaskManySaid :=
  OpenClaim.holds_of_cond 3 Tryz.f3 rfl rfl rfl rfl rfl rfl rfl ⟨rfl, rfl, rfl, rfl, rfl⟩ rfl rfl rfl rfl rfl (by kernel_rfl) Tryz.func3 (by kernel_rfl)
    (of_decide_eq_true (by kernel_rfl)) (by unfold Func.isWrapper; first | (rw [if_pos (by decide +kernel)]; kernel_rfl) | (rw [if_neg (by decide +kernel)]; exact ⟨rfl, rfl⟩))
    (fun os started H enc _ F0 => by rw [OpenClaim.pre_eq_preRow]; exact lifted os started H enc F0)

/-- The tied card: the tie is given. -/
theorem proved : Rows.MaskManyCardSaid :=
  Claim7.holds_tied_plain_at .later [] [.data, .pinned] true (true, "4e2a76446b3aee0210e3cb67f9d4bf7c481e15cf2deee2c4d562c9c6aea18c5a") false
    over (fun _ h => by cases h) (by kernel_rfl) (fun _ h => by cases h) maskMany_row_tie rfl ⟨rfl, rfl⟩ (by kernel_rfl) rfl
    (fun f fn hf hfn => by
      obtain rfl : f = 3 := Option.some.inj ((show Tryz.prog.funcNamed Rows.maskManyRow.func = some 3 by kernel_rfl).symm.trans hf) |>.symm
      obtain rfl : fn = Tryz.f3 := (Option.some.inj (Tryz.func3.symm.trans hfn)).symm
      exact ⟨by kernel_rfl, fun j t ht => by
        rw [Tryz.params3] at ht
        have hm : t ∈ [3, 4, 4] := by simpa using Array.mem_of_getElem? ht
        have hall : ([3, 4, 4].all fun u => !Tryz.prog.wantsStandIn u) = true := by kernel_rfl
        exact (show Tryz.prog.wantsStandIn t = false by simpa using List.all_eq_true.1 hall t hm)⟩)
    (by kernel_rfl)
#print axioms proved
end Go.Proofs.YtnhebanimmicaaaGreatDoor.maskMany
