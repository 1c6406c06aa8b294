/- The comparison of two entries, for the machine: what is known of it; no conditions. -/
import Derived.Test.YtnhebanimmicaaaGreatDoorCmp
import Derived.Test.YtnhebanimmicaaaGreatDoorAbM
namespace Go.Proofs.YtnhebanimmicaaaGreatDoor
open Go.Abs Go.RowKit

noncomputable def cmpB (a b : Bool) (k : Int) : Int := match a with
  | true => match b with
    | true => k
    | false => .ofNat 1
  | false => match b with
    | true => .negSucc 0
    | false => k
noncomputable def cmpK (a b : Int) (k : Int) : Int := match ltI a b with
  | true => .negSucc 0
  | false => match ltI b a with
    | true => .ofNat 1
    | false => k
noncomputable def cmpT (l a m b : Nat) : Int := match strLt l a m b with
  | true => .negSucc 0
  | false => match strEq l a m b with
    | true => .ofNat 0
    | false => .ofNat 1
noncomputable def runE (args : List AV) (s : St) : Option (AV × St) := match args with
  | [.agg [.int .i64 k1, .bool d1, .str l1 e1, .int .i64 _], .agg [.int .i64 k2, .bool d2, .str l2 e2, .int .i64 _]] => some (mkInt .i64 (cmpB d1 d2 (cmpK k1 k2 (cmpT l1 e1 l2 e2))), s)
  | _ => none
theorem cmpA_eq (k1 k2 : Int) (d1 d2 : Bool) (s1 s2 : List UInt8) : cmpB d1 d2 (cmpK k1 k2 (cmpT s1.length (enc s1) s2.length (enc s2))) = cmpE k1 d1 s1 k2 d2 s2 := by
  have heq : strEq s1.length (enc s1) s2.length (enc s2) = decide (s1 = s2) := by rw [strEq_eq, Bool.eq_iff_iff]; simp
  have hT : cmpT s1.length (enc s1) s2.length (enc s2) = cmpS s1 s2 := by
    unfold cmpT cmpS
    rw [strLt_eq, heq]
    cases Op.bytesLess s1 s2 with
    | true => rfl
    | false =>
      by_cases h : s1 = s2
      · rw [decide_eq_true h, if_pos h]; rfl
      · rw [decide_eq_false h, if_neg h]; rfl
  have hK : ∀ z, cmpK k1 k2 z = if cmpI k1 k2 = 0 then z else cmpI k1 k2 := fun z => by
    unfold cmpK cmpI
    rw [ltI_eq, ltI_eq]
    by_cases h1 : k1 < k2
    · rw [decide_eq_true h1, if_pos h1]; rfl
    · rw [decide_eq_false h1, if_neg h1]
      by_cases h2 : k2 < k1
      · rw [decide_eq_true h2, if_pos h2]; rfl
      · rw [decide_eq_false h2, if_neg h2]; rfl
  rw [hK, hT]
  unfold cmpE or3
  cases d1 <;> cases d2 <;> simp [cmpB, cmpI]

set_option maxRecDepth 100000 in
/-- What is known of the comparison is so. -/
theorem runE_ok {args : List AV} {s : St} {v : AV} {s' : St} (h : runE args s = some (v, s')) : CallAt Tryz.prog 19 args s v s' := by
  unfold runE at h
  split at h
  case h_2 => cases h
  rename_i k1 d1 l1 e1 n1 k2 d2 l2 e2 n2
  cases h
  refine CallAt.quiet names Tryz.func19 rfl fun μ w args' hA _ => ?_
  obtain ⟨l, hl⟩ : ∃ l, args'.toList = l := ⟨_, rfl⟩
  rw [hl] at hA
  cases hA with | cons h1 t1 =>
  cases t1 with | cons h2 t2 =>
  cases t2
  cases h1 with | agg _ vs1 g1 o1 =>
  cases h2 with | agg _ vs2 g2 o2 =>
  obtain ⟨x1, hx1⟩ : ∃ x, vs1.toList = x := ⟨_, rfl⟩
  obtain ⟨x2, hx2⟩ : ∃ x, vs2.toList = x := ⟨_, rfl⟩
  have g1' := g1
  have g2' := g2
  rw [hx1] at g1'
  rw [hx2] at g2'
  cases g1' with | cons a1 b1 =>
  cases b1 with | cons a2 b2 =>
  cases b2 with | cons a3 b3 =>
  cases b3 with | cons a4 b4 =>
  cases b4
  cases g2' with | cons a5 b5 =>
  cases b5 with | cons a6 b6 =>
  cases b6 with | cons a7 b7 =>
  cases b7 with | cons a8 b8 =>
  cases b8
  cases a1; cases a2; cases a3 with | str s1 _ _ hs1 he1 =>
  cases a4; cases a5; cases a6; cases a7 with | str s2 _ _ hs2 he2 =>
  cases a8
  have f1 : s1.data.toList.length = l1 := by rw [← hs1]; exact Array.length_toList
  have f2 : s2.data.toList.length = l2 := by rw [← hs2]; exact Array.length_toList
  obtain ⟨S, n, hc⟩ := c19 k1 n1 k2 n2 d1 d2 s1.data.toList s2.data.toList
  have hargs : ∀ μ', VRels μ' (([V.agg [.int .i64 k1, .bool d1, .str s1.data.toList, .int .i64 n1], V.agg [.int .i64 k2, .bool d2, .str s2.data.toList, .int .i64 n2]] : List V).map V.er) args'.toList := fun μ' => by
    rw [hl]
    have q1 : VRels μ' [.int .i64 k1, .bool d1, .str s1.data.toList.length (enc s1.data.toList), .int .i64 n1] vs1.toList := by
      rw [hx1]; exact .cons (.int _ _) (.cons (.bool _) (.cons (.str _ _ _ (by rw [f1]; exact hs1) rfl) (.cons (.int _ _) .nil)))
    have q2 : VRels μ' [.int .i64 k2, .bool d2, .str s2.data.toList.length (enc s2.data.toList), .int .i64 n2] vs2.toList := by
      rw [hx2]; exact .cons (.int _ _) (.cons (.bool _) (.cons (.str _ _ _ (by rw [f2]; exact hs2) rfl) (.cons (.int _ _) .nil)))
    have := VRels.cons (VRel.agg (μ := μ') _ vs1 q1 o1) (VRels.cons (VRel.agg (μ := μ') _ vs2 q2 o2) .nil)
    simpa [V.er, V.ers] using this
  refine (pm_calls ps_ok mixed names hc (fun u hu => by
    simp only [List.mem_cons, List.not_mem_nil, or_false] at hu
    rcases hu with rfl | rfl <;> rfl) Tryz.func19 rfl hargs w).mono fun e w' he => ?_
  obtain ⟨v', μ', rfl, hv, hb⟩ := he
  refine ⟨v', rfl, ?_, hb⟩
  rw [mkInt_eq, ← he1, ← he2, ← f1, ← f2, cmpA_eq]
  have hv' : VRel μ' (.int .i64 (cmpE k1 d1 s1.data.toList k2 d2 s2.data.toList)) v' := hv
  cases hv'
  exact .int _ _
/-- What is known ahead of all. -/
noncomputable def kn0 : Kn := ⟨[], [], [(19, runE)]⟩
set_option maxRecDepth 100000 in
theorem kn0_ok : KnownOk Tryz.prog kn0 := by
  refine ⟨fun f v h => (by cases h), fun x h => (by cases h), fun f run h => ?_⟩
  have h' : (match Nat.beq 19 f with
    | true => some runE
    | false => none) = some run := h
  split at h'
  · rename_i e
    obtain rfl := Nat.eq_of_beq_eq_true e
    cases h'
    exact fun args s v s' h => runE_ok h
  · cases h'
end Go.Proofs.YtnhebanimmicaaaGreatDoor
