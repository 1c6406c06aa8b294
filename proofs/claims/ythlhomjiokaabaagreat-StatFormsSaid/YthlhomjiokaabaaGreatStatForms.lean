/- 'StatForms' answers true whatever the whole number it is given: no conditions. -/
import Derived.Test.YthlhomjiokaabaaGreatStatForms1
import Derived.Test.YthlhomjiokaabaaGreatStatForms2
import Derived.Test.YthlhomjiokaabaaGreatStatForms3
import Derived.Test.YthlhomjiokaabaaGreatStatForms4
import Derived.Test.YthlhomjiokaabaaGreatStatForms5
import Derived.Test.YthlhomjiokaabaaGreatStatForms6
import Derived.Test.YthlhomjiokaabaaGreatRows
import Derived.WalkKit
import Derived.ProofKit
import Derived.OpenShut
namespace Go.Proofs.YthlhomjiokaabaaGreat.statForms
open Go.Abs Go.ChangeShapes Go.WideShapes Go.ChangeAt Go.RowKit

theorem own : ownKnob Tryz.prog.godebug = none := by kernel_rfl

/-- Each case, by the machine. -/
theorem says (j : Nat) (hj : j < 23) : saysTrue Tryz.prog [(7, .bool true)] 100000 4 [.sym ((255 : Nat) : Int) ((23 : Nat) : Int) (j : Int)] = true := by
  rcases Nat.lt_or_ge j 8 with h1 | h1
  · have := List.all_eq_true.1 forms1 (j - 0) (List.mem_range.2 (by omega))
    rwa [show 0 + (j - 0) = j by omega] at this
  rcases Nat.lt_or_ge j 16 with h2 | h2
  · have := List.all_eq_true.1 forms2 (j - 8) (List.mem_range.2 (by omega))
    rwa [show 8 + (j - 8) = j by omega] at this
  rcases Nat.lt_or_ge j 18 with h3 | h3
  · have := List.all_eq_true.1 forms3 (j - 16) (List.mem_range.2 (by omega))
    rwa [show 16 + (j - 16) = j by omega] at this
  rcases Nat.lt_or_ge j 20 with h4 | h4
  · have := List.all_eq_true.1 forms4 (j - 18) (List.mem_range.2 (by omega))
    rwa [show 18 + (j - 18) = j by omega] at this
  rcases Nat.lt_or_ge j 22 with h5 | h5
  · have := List.all_eq_true.1 forms5 (j - 20) (List.mem_range.2 (by omega))
    rwa [show 20 + (j - 20) = j by omega] at this
  · have := List.all_eq_true.1 forms6 (j - 22) (List.mem_range.2 (by omega))
    rwa [show 22 + (j - 22) = j by omega] at this

theorem walk (a0 : Int) (w : World) : Calls Tryz.prog 4 #[.int .i64 a0] w fun e w' => e = .returned (.bool true) ∧ Below w.heap.size w w' :=
  calls_cases known_awake mixed names (by decide) (by decide) says Tryz.func4 rfl a0 w

/-! ### THE ROW's STEP: WRITTEN OUT: LEAVE IT -/
set_option maxRecDepth 100000 in
theorem lifted (os : Os) (started : os.Started) (H : Type) (enc : TypeId × Value → H) :
    ReturnsInHanded {} Tryz.checked os 4 .any (Rows.statFormsSpec.pre6 enc Tryz.prog Tryz.f4 Rows.statFormsRow.domain false) (Rows.statFormsSpec.post enc Tryz.prog Tryz.f4 false true false false) := by
  refine returnsInHanded_of_change (C := Tryz.checked) own started (by kernel_rfl) Tryz.func4
    (ChangeSpec.witness6 (enc := enc) (C := Tryz.checked) false ⟨#[], #[.int .i64 0], []⟩ 8 (by kernel_rfl) (by kernel_rfl) (by kernel_rfl) (by kernel_rfl)) ?_
  intro W base args ds gs before hval0 hW hcnd _
  have hval : ∀ (j : Nat) t v, Tryz.f4.params[j]? = some t → args[j]? = some v → Value.okWide Tryz.prog W .any base t v := hval0
  have hW' := hW
  obtain ⟨p, q, hA0, hV, rfl, hfz, hnd⟩ := hW
  have hA : DataW.TrodAll enc Tryz.prog W 0 (fun _ => true) true Tryz.f4.params.toList args.toList ds p := hA0
  rw [Tryz.params4] at hA hval
  obtain ⟨v0, vs0, d0, ds0, p0, q0, hargs, rfl, rfl, h0, r0⟩ := trodAll_cons hA
  obtain ⟨rfl, rfl, rfl⟩ := trodAll_nil r0
  obtain rfl : args = #[v0] := by cases args; simp_all
  obtain ⟨rfl, rfl⟩ := trodVars_none hV
  obtain ⟨a0, rfl, rfl, rfl, w0⟩ := open_int Tryz.underlying3 (hval 0 3 v0 rfl rfl) h0
  clear hA0 hval0
  simp only [List.append_nil] at hW'
  refine (walk a0 W).mono fun e W' ⟨he, hg⟩ => ?_
  subst he
  exact ⟨_, rfl, post_of_below hW' (fun _ _ _ => (trodAll_cons_mk (shut_bool Tryz.underlying4 _) trodAll_mk0)) (fun sp => (trodAll_cons_mk (shut_int Tryz.underlying3 w0) trodAll_mk0)) (fun _ => rfl)
    (hg.frame _) (ok_one (by kernel_rfl) rfl (okWide_bool_mk Tryz.underlying4 _))⟩

theorem over : Rows.statFormsRow.holds Tryz.pinned (OpenSpec.ofChange Rows.statFormsSpec) :=
  OpenClaim.holds_of_wide 4 Tryz.f4 rfl rfl rfl rfl rfl rfl rfl ⟨rfl, rfl, rfl, rfl, rfl⟩ rfl rfl rfl rfl rfl (by kernel_rfl) Tryz.func4 (by kernel_rfl)
    (of_decide_eq_true (by kernel_rfl)) (by unfold Func.isWrapper; first | (rw [if_pos (by decide +kernel)]; kernel_rfl) | (rw [if_neg (by decide +kernel)]; exact ⟨rfl, rfl⟩))
    (fun os started H enc _ => lifted os started H enc)

/-- ████ THE STATEMENT ████ -/
theorem proved : Rows.StatFormsSaid :=
  over
#print axioms proved
end Go.Proofs.YthlhomjiokaabaaGreat.statForms
