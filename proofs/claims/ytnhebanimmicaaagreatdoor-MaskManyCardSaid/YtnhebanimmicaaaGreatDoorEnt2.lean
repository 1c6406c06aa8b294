/- mask.good, for the machine: what is known of it, of entries without a name and of users of three letters; no conditions. -/
import Derived.Test.YtnhebanimmicaaaGreatDoorGood
import Derived.Test.YtnhebanimmicaaaGreatDoorAw
namespace Go.Proofs.YtnhebanimmicaaaGreatDoor
open Go.Abs Go.RowKit

noncomputable def inAz (n : Nat) : Bool := and (Nat.ble 97 n) (Nat.ble n 122)
noncomputable def inKinds (k : Int) : Bool := or (eqI k 1) (or (eqI k 3) (or (eqI k 5) (eqI k 6)))
noncomputable def isUser (k : Int) (l e : Nat) : Bool := and (Nat.beq l 3) (and (eqI k 2) (and (inAz (Nat.div e 65536)) (and (inAz (Nat.mod (Nat.div e 256) 256)) (inAz (Nat.mod e 256)))))
noncomputable def runG (args : List AV) (s : St) : Option (AV × St) := match args with
  | [.agg [.int .i64 k, .bool _, .str l e, .int .i64 n]] => match and (not (ltI n 0)) (not (ltI 7 n)) with
    | true => match or (and (Nat.beq l 0) (inKinds k)) (isUser k l e) with
      | true => some (.bool true, s)
      | false => none
    | false => none
  | _ => none
theorem inAz_ok {n : Nat} (h : inAz n = true) : 97 ≤ n ∧ n ≤ 122 := by
  unfold inAz at h
  rw [Bool.and_eq_true] at h
  exact ⟨Nat.le_of_ble_eq_true h.1, Nat.le_of_ble_eq_true h.2⟩
/-- What the code comes to there. -/
theorem good_ok {k n : Int} {d : Bool} {t : List UInt8} (hn : and (not (ltI n 0)) (not (ltI 7 n)) = true) (h : or (and (Nat.beq t.length 0) (inKinds k)) (isUser k t.length (enc t)) = true) :
    ∃ S, Cl pp 20 [.agg [.int .i64 k, .bool d, .str t, .int .i64 n]] S0 (.bool true, S) := by
  rw [Bool.and_eq_true, ltI_eq, ltI_eq, Bool.not_eq_true', Bool.not_eq_true', decide_eq_false_iff_not, decide_eq_false_iff_not] at hn
  obtain ⟨h1, h2⟩ := hn
  rw [Bool.or_eq_true] at h
  rcases h with h | h
  · rw [Bool.and_eq_true] at h
    have ht : t = [] := List.eq_nil_of_length_eq_zero (Nat.eq_of_beq_eq_true h.1)
    subst ht
    have hk := h.2
    unfold inKinds at hk
    simp only [eqI_eq, Bool.or_eq_true, beq_iff_eq] at hk
    rcases hk with rfl | rfl | rfl | rfl
    · exact c20k1 n d h1 h2
    · exact c20k3 n d h1 h2
    · exact c20k5 n d h1 h2
    · exact c20k6 n d h1 h2
  · unfold isUser at h
    simp only [Bool.and_eq_true, eqI_eq, beq_iff_eq] at h
    obtain ⟨hl, rfl, hx, hy, hz⟩ := h
    have hl := Nat.eq_of_beq_eq_true hl
    match t, hl with
    | [x, y, z], _ =>
      have e : enc [x, y, z] = (x.toNat * 256 + y.toNat) * 256 + z.toNat := by simp [enc]
      rw [e] at hx hy hz
      have bx := x.toNat_lt
      have by_ := y.toNat_lt
      have bz := z.toNat_lt
      have hx' := inAz_ok hx
      have hy' := inAz_ok hy
      have hz' := inAz_ok hz
      have ex : Nat.div ((x.toNat * 256 + y.toNat) * 256 + z.toNat) 65536 = x.toNat := by
        show ((x.toNat * 256 + y.toNat) * 256 + z.toNat) / 65536 = x.toNat
        omega
      have ey : Nat.mod (Nat.div ((x.toNat * 256 + y.toNat) * 256 + z.toNat) 256) 256 = y.toNat := by
        show ((x.toNat * 256 + y.toNat) * 256 + z.toNat) / 256 % 256 = y.toNat
        omega
      have ez : Nat.mod ((x.toNat * 256 + y.toNat) * 256 + z.toNat) 256 = z.toNat := by
        show ((x.toNat * 256 + y.toNat) * 256 + z.toNat) % 256 = z.toNat
        omega
      rw [ex] at hx'
      rw [ey] at hy'
      rw [ez] at hz'
      exact c20u n d h1 h2 x y z (by omega) (by omega) (by omega) (by omega) (by omega) (by omega)
set_option maxRecDepth 100000 in
theorem runG_ok {args : List AV} {s : St} {v : AV} {s' : St} (h : runG args s = some (v, s')) : CallAt Tryz.prog 20 args s v s' := by
  unfold runG at h
  split at h
  case h_2 => cases h
  rename_i k d l e n
  split at h
  case h_2 => cases h
  rename_i hn
  split at h
  case h_2 => cases h
  rename_i hg
  cases h
  refine CallAt.quiet names Tryz.func20 rfl fun μ w args' hA _ => ?_
  obtain ⟨a, hl⟩ : ∃ a, args'.toList = a := ⟨_, rfl⟩
  rw [hl] at hA
  cases hA with | cons h1 t1 =>
  cases t1
  cases h1 with | agg _ vs1 g1 o1 =>
  obtain ⟨x1, hx1⟩ : ∃ x, vs1.toList = x := ⟨_, rfl⟩
  rw [hx1] at g1
  cases g1 with | cons a1 b1 =>
  cases b1 with | cons a2 b2 =>
  cases b2 with | cons a3 b3 =>
  cases b3 with | cons a4 b4 =>
  cases b4
  cases a1; cases a2; cases a3 with | str s1 _ _ hs1 he1 =>
  cases a4
  have f1 : s1.data.toList.length = l := by rw [← hs1]; exact Array.length_toList
  rw [← he1, ← f1] at hg
  obtain ⟨S, m, hc⟩ := good_ok (d := d) hn hg
  have hargs : ∀ μ', VRels μ' (([V.agg [.int .i64 k, .bool d, .str s1.data.toList, .int .i64 n]] : List V).map V.er) args'.toList := fun μ' => by
    rw [hl]
    have q1 : VRels μ' [.int .i64 k, .bool d, .str s1.data.toList.length (enc s1.data.toList), .int .i64 n] vs1.toList := by
      rw [hx1]; exact .cons (.int _ _) (.cons (.bool _) (.cons (.str _ _ _ (by rw [f1]; exact hs1) rfl) (.cons (.int _ _) .nil)))
    have := VRels.cons (VRel.agg (μ := μ') _ vs1 q1 o1) .nil
    simpa [V.er, V.ers] using this
  refine (pm_calls ps_ok mixed names hc (fun u hu => by
    simp only [List.mem_cons, List.not_mem_nil, or_false] at hu
    subst hu; rfl) Tryz.func20 rfl hargs w).mono fun e w' he => ?_
  obtain ⟨v', μ', rfl, hv, hb⟩ := he
  refine ⟨v', rfl, ?_, hb⟩
  have hv' : VRel μ' (.bool true) v' := hv
  cases hv'
  exact .bool _
/-- What is known ahead of the cases. -/
noncomputable def knB : Kn := ⟨knA.vals, [], [(19, runE), (20, runG)]⟩
set_option maxRecDepth 100000 in
theorem knB_ok : KnownOk Tryz.prog knB := by
  refine ⟨knA_ok.vals, fun x h => (by cases h), fun f run h => ?_⟩
  have h' : (match Nat.beq 19 f with
    | true => some runE
    | false => match Nat.beq 20 f with
      | true => some runG
      | false => none) = some run := h
  split at h'
  · rename_i e
    obtain rfl := Nat.eq_of_beq_eq_true e
    cases h'
    exact fun args s v s' h => runE_ok h
  · split at h'
    · rename_i e
      obtain rfl := Nat.eq_of_beq_eq_true e
      cases h'
      exact fun args s v s' h => runG_ok h
    · cases h'
end Go.Proofs.YtnhebanimmicaaaGreatDoor
