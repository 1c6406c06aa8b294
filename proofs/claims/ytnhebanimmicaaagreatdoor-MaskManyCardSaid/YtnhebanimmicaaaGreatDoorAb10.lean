/- Slicing, appends, clears, nil tests, bytes. -/
import Derived.Test.YtnhebanimmicaaaGreatDoorAb9
namespace Go.Abs

noncomputable def opSliceS (es : Nat) (x : Opd) (lo hi mx : Option Opd) : Run := fun t s => match ev t x with
  | some (.slice b o len cap es') => match Nat.beq es' es with
    | false => none
    | true => match bounds t len (match cap with | some c => c | none => len) lo hi mx with
      | none => none
      | some (l, h, m) => match cap with
        | some c => match m with
          | some m => some (.slice b (litN (Nat.add o (Nat.mul l es))) (litN (Nat.sub h l)) (some (litN (Nat.sub m l))) es, s)
          | none => some (.slice b (litN (Nat.add o (Nat.mul l es))) (litN (Nat.sub h l)) (some (litN (Nat.sub c l))) es, s)
        | none => match m with
          | some m => some (.slice b (litN (Nat.add o (Nat.mul l es))) (litN (Nat.sub h l)) (some (litN (Nat.sub m l))) es, s)
          | none => some (.slice b (litN (Nat.add o (Nat.mul l es))) (litN (Nat.sub h l)) none es, s)
  | some .nilslice => match bounds t 0 0 lo hi mx with
    | none => none
    | some _ => some (.nilslice, s)
  | _ => none

theorem run_slice_op {P : Program} {w : World} {ti e : TypeId} {ie : TypeInfo} (hu : P.underlying ti = some (.slice e)) (hi : P.info? e = some ie) {ad : Option Addr} {len cap : Nat} {lo hi' mx : Option Value} {l h m : Nat}
    (hb : (Instr.sliceBounds true len cap lo hi' mx).run P w = .ok (l, h, m) w) :
    (Instr.sliceAt ti (.slice ad len cap) lo hi' mx).run P w = .ok (.slice (if m = l then ad else ad.map (·.add (l * ie.size))) (h - l) (m - l)) w := by
  simp only [Instr.sliceAt, Instr.slice, Sem.run_bind, run_underlying hu, Result.andThen_ok, hb, sizeOf, typeInfo, run_program, hi, Sem.run_pure]

theorem opSliceS_ok {P : Program} {o : Oper} {ti e : TypeId} {x : Operand} {x' : Opd} {lo hi mx : Option Operand} {lo' hi' mx' : Option Opd} {ie : TypeInfo} {es : Nat} (ho : o.op = .slice ti x lo hi mx) (hu : P.underlying ti = some (.slice e))
    (hie : P.info? e = some ie) (hes : ie.size = es) (hx : copd x = some x') (h1 : copdo lo = some lo') (h2 : copdo hi = some hi') (h3 : copdo mx = some mx') : OpSound P o (opSliceS es x' lo' hi' mx') :=
  .pure_ fun μ N t s w a v s' hf ht hR => by
    unfold opSliceS at hf
    split at hf
    · rename_i b oo len cap es' hv
      split at hf
      case h_1 => cases hf
      rename_i heq
      have hes' := Nat.eq_of_beq_eq_true heq
      subst hes'
      split at hf
      case h_1 => cases hf
      rename_i l h m hb
      have hp := ev_ok ht hx hv
      generalize he : a.eval x = vc at hp
      have fin : ∀ (ad : Addr) (cap' : Nat), vc = .slice (some ad) len cap' → (∀ k, cap = some k → cap' = k) → len ≤ cap' →
          (∀ ca, (∀ k, ca = some k → (m.getD cap') - l = k) → l ≤ h → h ≤ m.getD cap' → m.getD cap' ≤ cap' → VRel μ (.slice b (oo + l * es') (h - l) ca es') (.slice (if m.getD cap' = l then some ad else (some ad).map (·.add (l * es'))) (h - l) (m.getD cap' - l))) →
          s' = s ∧ ∃ v', (execOp a.eval o).run P w = .ok (.value v') w ∧ VRel μ v v' := by
        intro ad cap' hvc hcap hl hrel
        subst hvc
        obtain ⟨q1, q2, q3, q4, q5, q6⟩ := bounds_ok (P := P) (w := w) ht h1 h2 h3 true (cap := cap') (by
          cases cap with
          | none => exact hl
          | some c => rw [hcap c rfl]; exact Nat.le_refl _) (by
          cases cap with
          | none => exact Nat.le_refl _
          | some c => show len ≤ c; rw [← hcap c rfl]; exact hl) hb
        have hrun := run_slice_op (P := P) (w := w) (ad := some ad) hu hie q1
        rw [hes] at hrun
        have hexec : (execOp a.eval o).run P w = .ok (.value (.slice (if m.getD cap' = l then some ad else (some ad).map (·.add (l * es'))) (h - l) (m.getD cap' - l))) w := by
          simp only [execOp, ho, he, Sem.run_bind, hrun, Result.andThen_ok]
          rfl
        cases cap with
        | some c =>
          have hc := hcap c rfl
          subst hc
          cases m with
          | some m0 => cases hf; refine ⟨rfl, _, hexec, ?_⟩; (repeat rw [litN_eq]); exact hrel _ (fun k hk => by cases hk; rfl) q2 q4 q5
          | none => cases hf; refine ⟨rfl, _, hexec, ?_⟩; (repeat rw [litN_eq]); exact hrel _ (fun k hk => by cases hk; rfl) q2 q4 q5
        | none =>
          cases m with
          | some m0 => cases hf; refine ⟨rfl, _, hexec, ?_⟩; (repeat rw [litN_eq]); exact hrel _ (fun k hk => by cases hk; rfl) q2 q4 q5
          | none => cases hf; refine ⟨rfl, _, hexec, ?_⟩; (repeat rw [litN_eq]); exact hrel _ (fun k hk => by cases hk) q2 q4 q5
      cases hp with
      | slice b oo len cap es' cb d e' cap' hm hc hl htt =>
        refine fin ⟨cb, d + oo, none⟩ cap' rfl hc hl (fun ca hca g1 g2 g3 => ?_)
        by_cases hml : m.getD cap' = l
        · rw [if_pos hml]
          have e1 : h - l = 0 := by omega
          have e2 : m.getD cap' - l = 0 := by omega
          rw [e1, e2]
          exact .sliceE _ _ _ _ _ _ (fun k hk => by have := hca k hk; omega)
        · rw [if_neg hml]
          simp only [Option.map_some, Addr.add_mid]
          have hmul : (m.getD cap' - l) * es' + l * es' ≤ cap' * es' := by
            rw [← Nat.add_mul]; exact Nat.mul_le_mul_right _ (by omega)
          have := VRel.slice (μ := μ) b (oo + l * es') (h - l) ca es' cb d e' (m.getD cap' - l) hm hca (by omega) (by omega)
          rw [← Nat.add_assoc] at this
          exact this
      | sliceE b oo cap es cb xx hc =>
        refine fin ⟨cb, xx, none⟩ 0 rfl (fun k hk => (hc k hk).symm) (Nat.le_refl _) (fun ca hca g1 g2 g3 => ?_)
        have e3 : m.getD 0 = l := by omega
        have e1 : h - l = 0 := by omega
        have e2 : m.getD 0 - l = 0 := by omega
        rw [if_pos e3, e1, e2]
        exact .sliceE _ _ _ _ _ _ (fun k hk => by have := hca k hk; omega)
    · rename_i hv
      split at hf
      case h_1 => cases hf
      rename_i r hb
      obtain ⟨l, h, m⟩ := r
      cases hf
      have hp := ev_ok ht hx hv
      generalize he : a.eval x = vc at hp
      cases hp
      obtain ⟨q1, q2, q3, q4, q5, q6⟩ := bounds_ok (P := P) (w := w) ht h1 h2 h3 true (cap := 0) (Nat.le_refl _) (Nat.le_refl _) hb
      have hrun := run_slice_op (P := P) (w := w) (ad := none) hu hie q1
      have e1 : h - l = 0 := by omega
      have e2 : m.getD 0 - l = 0 := by omega
      rw [e1, e2] at hrun
      refine ⟨rfl, .slice none 0 0, ?_, .nilslice⟩
      simp only [execOp, ho, he, Sem.run_bind, hrun, Result.andThen_ok]
      split <;> rfl
    · cases hf

noncomputable def opSliceStr (x : Opd) (lo hi : Option Opd) : Run := fun t s => match ev t x with
  | some (.str len n) => match bounds t len len lo hi none with
    | some (l, h, _) => some (mkStr (Nat.sub h l) (Nat.mod (Nat.div n (Nat.pow 256 (Nat.sub len h))) (Nat.pow 256 (Nat.sub h l))), s)
    | none => none
  | _ => none
theorem opSliceStr_ok {P : Program} {o : Oper} {ti : TypeId} {x : Operand} {x' : Opd} {lo hi : Option Operand} {lo' hi' : Option Opd} (ho : o.op = .slice ti x lo hi none) (hu : P.underlying ti = some .string)
    (hx : copd x = some x') (h1 : copdo lo = some lo') (h2 : copdo hi = some hi') : OpSound P o (opSliceStr x' lo' hi') :=
  .pure_ fun μ N t s w a v s' hf ht hR => by
    unfold opSliceStr at hf
    split at hf
    case h_2 => cases hf
    rename_i len n hv
    split at hf
    case h_2 => cases hf
    rename_i l h m hb
    cases hf
    have hp := ev_ok ht hx hv
    generalize he : a.eval x = vc at hp
    cases hp with | str s1 l1 n1 hl hbt =>
    subst hl hbt
    obtain ⟨q1, q2, q3, _, _, _⟩ := bounds_ok (P := P) (w := w) ht h1 h2 (show copdo none = some none from rfl) false (cap := s1.size) (Nat.le_refl _) (Nat.le_refl _) hb
    refine ⟨rfl, .string (s1.extract l h), ?_, ?_⟩
    · simp only [Option.map_none] at q1
      simp only [execOp, ho, he, Instr.sliceAt, Instr.slice, Sem.run_bind, run_underlying hu, Result.andThen_ok, Option.map_none]
      simp [q1]
    · have hd : (s1.extract l h).data.toList = (s1.data.toList.take h).drop l := by
        simp [ByteArray.data_extract, Array.toList_extract, List.extract]
        rw [List.drop_take]
      have hsz : (s1.extract l h).size = h - l := by
        have h5 : (s1.extract l h).size = (s1.extract l h).data.toList.length := by rw [Array.length_toList]; rfl
        rw [h5, hd]; simp; omega
      have hlen : s1.data.toList.length = s1.size := by simp
      have hh := enc_sub s1.data.toList l h (by rw [hlen]; exact q3)
      rw [hlen] at hh
      have e : Nat.mod (Nat.div (enc s1.data.toList) (Nat.pow 256 (Nat.sub s1.size h))) (Nat.pow 256 (Nat.sub h l)) = enc (s1.extract l h).data.toList := by rw [hd]; exact hh.symm
      rw [e, show Nat.sub h l = (s1.extract l h).size from hsz.symm]
      exact mkStr_rel _ _

/-! ### append -/
noncomputable def opAppend (es by_ : Nat) (x y : Opd) : Run := fun t s => match ev t x with
  | some xv => match ev t y with
    | some .nilslice => s.append es by_ xv [] 0
    | some (.slice b o len _ _) => match len with
      | 0 => s.append es by_ xv [] 0
      | n + 1 => match s.read b o (Nat.mul (Nat.succ n) es) with
        | some l => s.append es by_ xv l (Nat.succ n)
        | none => none
    | _ => none
  | none => none
theorem opAppend_ok {P : Program} {o : Oper} {ti tx e e' : TypeId} {x y : Operand} {x' y' : Opd} {ie : TypeInfo} {z : List AV} {es by_ : Nat} (ho : o.op = .call { callee := .builtin .append, args := #[x, y], argTypes := #[ti, tx] })
    (hu : P.underlying ti = some (.slice e)) (hu' : P.underlying tx = some (.slice e')) (hie : P.info? e = some ie) (hes : ie.size = es) (hz : zcells P e = some z) (hzl : z.length = es) (hby : ie.bytes < by_)
    (hx : copd x = some x') (hy : copd y = some y') : OpSound P o (opAppend es by_ x' y') := by
  intro μ N t s w a v s' hf ht hR hfree
  obtain ⟨i, zv, hi', hzv, hrel⟩ := zcells_ok hz
  rw [hie] at hi'; cases hi'
  have hzs : zv.cells.size = es := by rw [← Array.length_toList, ← (hrel μ).1.length, hzl]
  unfold opAppend at hf
  split at hf
  case h_2 => cases hf
  rename_i xv hv
  have hp := ev_ok ht hx hv
  have key : ∀ (yv : Value) (k : Nat) (news : List Value) (new : List AV), a.eval y = yv → Src P ie.size tx yv k news w → VRels μ new news → s.append es by_ xv new k = some (v, s') →
      ∃ μ' nx w', (execOp a.eval o).run P w = .ok nx w' ∧ ((nx = .skip ∧ v = .tup []) ∨ ∃ v', nx = .value v' ∧ VRel μ' v v') ∧ R μ' s' w' ∧ Ext μ s w μ' s' w' := by
    intro yv k news new hyv hsrc hnew happ
    obtain ⟨μ', v', w', g1, g2, g3, g4⟩ := append_ok (ty := o.type) (AppSrc.of hu hie hzv hsrc) hes hzs hby hR hp hnew happ hfree
    exact ⟨μ', .value v', w', run_builtin (vs := #[a.eval x, yv]) Builtin.append_ ho (fun _ => rfl) (by simp [hyv]) g1, .inr ⟨v', rfl, g2⟩, g3, g4⟩
  split at hf
  · rename_i hv'
    have hp' := ev_ok ht hy hv'
    generalize he' : a.eval y = vc' at hp'
    cases hp'
    exact key _ 0 [] [] he' (Src.ofNil w hu' 0) .nil hf
  · rename_i b oo len cap es' hv'
    have hp' := ev_ok ht hy hv'
    generalize he' : a.eval y = vc' at hp'
    split at hf
    · cases hp' with
      | slice b oo len cap es'' cb d e'' cap' hm hc hl htt => exact key _ 0 [] [] he' (Src.ofSlice w hu' _ 0 cap' [] (by simp) (fun j u hj => by simp at hj) (fun u hu => by cases hu)) .nil hf
      | sliceE b oo cap es'' cb xx hc => exact key _ 0 [] [] he' (Src.ofSlice w hu' _ 0 0 [] (by simp) (fun j u hj => by simp at hj) (fun u hu => by cases hu)) .nil hf
    · rename_i n
      split at hf
      case h_2 => cases hf
      rename_i l hl
      cases hp' with
      | slice b oo len cap es'' cb d e'' cap' hm hc hl' htt =>
        obtain ⟨l', q1, q2, q3, q4⟩ := read_ok hR hm hl
        refine key _ (n + 1) l' l he' (Src.ofSlice w hu' _ (n + 1) cap' l' (by rw [q2, hes]; rfl) (fun j u hj => by rw [Addr.add_mid]; exact q3 j u hj) q4) q1 hf
  · cases hf

noncomputable def opAppendZ (es by_ : Nat) (z : List AV) (x y : Opd) : Run := fun t s => match ev t x with
  | some xv => match ev t y with
    | some (.int k n) => match n with
      | .ofNat n => match and (kbeq k .i64) (Nat.ble (Nat.mul n by_) 70368744177664) with
        | true => s.append es by_ xv (repl n z) n
        | false => none
      | .negSucc _ => none
    | _ => none
  | none => none
theorem opAppendZ_ok {P : Program} {o : Oper} {ti tx e : TypeId} {kk : IntKind} {x y : Operand} {x' y' : Opd} {ie : TypeInfo} {z : List AV} {es by_ : Nat} (ho : o.op = .call { callee := .builtin .append, args := #[x, y], argTypes := #[ti, tx] })
    (hu : P.underlying ti = some (.slice e)) (hu' : P.underlying tx = some (.int kk)) (hie : P.info? e = some ie) (hes : ie.size = es) (hz : zcells P e = some z) (hzl : z.length = es) (hby : ie.bytes < by_)
    (hx : copd x = some x') (hy : copd y = some y') : OpSound P o (opAppendZ es by_ z x' y') := by
  intro μ N t s w a v s' hf ht hR hfree
  obtain ⟨i, zv, hi', hzv, hrel⟩ := zcells_ok hz
  rw [hie] at hi'; cases hi'
  have hzs : zv.cells.size = es := by rw [← Array.length_toList, ← (hrel μ).1.length, hzl]
  unfold opAppendZ at hf
  split at hf
  case h_2 => cases hf
  rename_i xv hv
  have hp := ev_ok ht hx hv
  split at hf
  case h_2 => cases hf
  rename_i k n0 hv'
  split at hf
  case h_2 => cases hf
  rename_i n
  split at hf
  case h_2 => cases hf
  rename_i hc
  rw [Bool.and_eq_true] at hc
  obtain rfl := kbeq_eq.1 hc.1
  have hcb : n * by_ ≤ 70368744177664 := Nat.le_of_ble_eq_true hc.2
  have hcb1 : n * ie.bytes ≤ 70368744177664 := Nat.le_trans (Nat.mul_le_mul_left _ (Nat.le_of_lt hby)) hcb
  have hcb2 : n ≤ 70368744177664 := by have : n * 1 ≤ n * by_ := Nat.mul_le_mul_left _ (by omega); omega
  have hp' := ev_ok ht hy hv'
  generalize he' : a.eval y = vc' at hp'
  cases hp'
  have hsrc := AppSrc.zeros (P := P) (t := ti) (tx := tx) (ty := o.type) (w := w) (k := n) hu hu' hie hzv (by rw [hzs, hes]) (by omega) (by
    have : ((n * ie.bytes : Nat) : Int) ≤ 281474976710656 := by omega
    rwa [Int.natCast_mul] at this) (hrel μ).2
  obtain ⟨μ', v', w', g1, g2, g3, g4⟩ := append_ok hsrc hes hzs hby hR hp (by rw [zeroCells_eq]; exact repl_rel (hrel μ).1 n) hf hfree
  exact ⟨μ', .value v', w', run_builtin (vs := #[a.eval x, .int .i64 (n : Int)]) Builtin.append_ ho (fun _ => rfl) (by simp [he']) g1, .inr ⟨v', rfl, g2⟩, g3, g4⟩

noncomputable def opClear (z : List AV) (x : Opd) : Run := fun t s => match ev t x with
  | some .nilslice => some (.tup [], s)
  | some (.slice b o len _ _) => match len with
    | 0 => some (.tup [], s)
    | n + 1 => match s.store b o (repl (Nat.succ n) z) with
      | some s' => some (.tup [], s')
      | none => none
  | _ => none
theorem opClear_ok {P : Program} {o : Oper} {ti e : TypeId} {x : Operand} {x' : Opd} {z : List AV} (ho : o.op = .call { callee := .builtin .clear, args := #[x], argTypes := #[ti] })
    (hu : P.underlying ti = some (.slice e)) (hz : zcells P e = some z) (hx : copd x = some x') : OpSound P o (opClear z x') := by
  intro μ N t s w a v s' hf ht hR hfree
  obtain ⟨i, zv, hi', hzv, hrel⟩ := zcells_ok hz
  unfold opClear at hf
  split at hf
  · rename_i hv
    have hp := ev_ok ht hx hv
    generalize he : a.eval x = vc at hp
    cases hf; cases hp
    exact ⟨μ, _, w, run_builtin (vs := #[.slice none 0 0]) Builtin.clear_ ho (fun _ => rfl) (by simp [he]) (by simp [Builtin.clear_, run_underlying hu]), .inr ⟨_, rfl, .tup [] #[] .nil⟩, hR, .refl _ _ _⟩
  · rename_i b oo len cap es hv
    have hp := ev_ok ht hx hv
    generalize he : a.eval x = vc at hp
    split at hf
    · cases hf
      cases hp with
      | slice b oo len cap es cb d e' cap' hm hc hl htt =>
        exact ⟨μ, _, w, run_builtin (vs := #[.slice (some ⟨cb, d + oo, none⟩) 0 cap']) Builtin.clear_ ho (fun _ => rfl) (by simp [he]) (by simp [Builtin.clear_, run_underlying hu]), .inr ⟨_, rfl, .tup [] #[] .nil⟩, hR, .refl _ _ _⟩
      | sliceE b oo cap es cb xx hc =>
        exact ⟨μ, _, w, run_builtin (vs := #[.slice (some ⟨cb, xx, none⟩) 0 0]) Builtin.clear_ ho (fun _ => rfl) (by simp [he]) (by simp [Builtin.clear_, run_underlying hu]), .inr ⟨_, rfl, .tup [] #[] .nil⟩, hR, .refl _ _ _⟩
    · rename_i n
      split at hf
      case h_2 => cases hf
      rename_i s1 hs1
      cases hf
      cases hp with
      | slice b oo len cap es cb d e' cap' hm hc hl htt =>
        obtain ⟨w', h1, _, _, h4, h5⟩ := store_ok hR hm (repl_rel (hrel μ).1 (n + 1)) (replV_one (hrel μ).2 (n + 1)) hs1
        have hst := h1 P (d + oo) rfl
        rw [← zeroCells_eq] at hst
        exact ⟨μ, _, w', run_builtin (vs := #[.slice (some ⟨cb, d + oo, none⟩) (n + 1) cap']) Builtin.clear_ ho (fun _ => rfl) (by simp [he]) (by simp [Builtin.clear_, run_underlying hu, zeroValue, typeInfo, hi', hzv, hst]),
          .inr ⟨_, rfl, .tup [] #[] .nil⟩, h4, h5⟩
  · cases hf

end Go.Abs
