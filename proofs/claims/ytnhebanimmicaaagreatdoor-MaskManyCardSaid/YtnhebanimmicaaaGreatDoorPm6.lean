/- Code over values that bear what they lead to, and its run. -/
import Derived.Test.YtnhebanimmicaaaGreatDoorPm5
namespace Go.Abs

inductive POp where
  | move (x : POpd)
  | pick (c x y : POpd)
  | alloc (z : List V)
  | box (x : POpd)
  | build (z : List V) (ps : List (Nat × Nat × POpd))
  | buildSlice (es len : Nat) (z : List V) (ps : List (Nat × Nat × POpd))
  | load1 (x : POpd)
  | loadN (n : Nat) (x : POpd)
  | store (n : Nat) (x y : POpd)
  | nilCheck (x : POpd)
  | bin (op : BinOp) (x y : POpd)
  | eqB (neg : Bool) (x y : POpd)
  | eqNil (sort : Nat) (neg : Bool) (x y : POpd)
  | eqSt (neg : Bool) (ls : List (Nat × Nat)) (x y : POpd)
  | not (x : POpd)
  | neg (x : POpd)
  | conv (k : IntKind) (x : POpd)
  | convStr (x : POpd)
  | toStr (x : POpd)
  | mkfn (f : Nat) (caps : List POpd)
  | mkmap
  | sliceS (es : Nat) (x : POpd) (lo hi : Option POpd)
  | sliceStr (x : POpd) (lo hi : Option POpd)
  | fieldAddr (off : Nat) (x : POpd)
  | indexAddr (es : Nat) (x i : POpd)
  | indexStr (x i : POpd)
  | field1 (off : Nat) (x : POpd)
  | fieldN (off n : Nat) (x : POpd)
  | lookup (d : TypeDesc) (z : V) (x k : POpd) (ok : Bool)
  | mapUpd (d : TypeDesc) (x k y : POpd)
  | extract (x : POpd) (i : Nat)
  | lenS (x : POpd)
  | lenStr (x : POpd)
  | append (es by_ : Nat) (x y : POpd)
  | min (x y : POpd)
  | max (x y : POpd)
  | fail

def POp.run : POp → PRun
  | .move x => pMove x
  | .pick c x y => pPick c x y
  | .alloc z => pAlloc z
  | .box x => pBox x
  | .build z ps => pBuild z ps
  | .buildSlice es len z ps => pBuildSlice es len z ps
  | .load1 x => pLoad1 x
  | .loadN n x => pLoadN n x
  | .store n x y => pStore n x y
  | .nilCheck x => pNilCheck x
  | .bin op x y => pBin op x y
  | .eqB b x y => pEqB b x y
  | .eqNil n b x y => pEqNil n b x y
  | .eqSt b ls x y => pEqSt b ls x y
  | .not x => pNot x
  | .neg x => pNeg x
  | .conv k x => pConv k x
  | .convStr x => pConvStr x
  | .toStr x => pToStr x
  | .mkfn f caps => pMkfn f caps
  | .mkmap => pMkmap
  | .sliceS es x lo hi => pSliceS es x lo hi
  | .sliceStr x lo hi => pSliceStr x lo hi
  | .fieldAddr off x => pFieldAddr off x
  | .indexAddr es x i => pIndexAddr es x i
  | .indexStr x i => pIndexStr x i
  | .field1 off x => pField1 off x
  | .fieldN off n x => pFieldN off n x
  | .lookup d z x k ok => pLookup d z x k ok
  | .mapUpd d x k y => pMapUpd d x k y
  | .extract x i => pExtract x i
  | .lenS x => pLenS x
  | .lenStr x => pLenStr x
  | .append es by_ x y => pAppend es by_ x y
  | .min x y => pMin x y
  | .max x y => pMax x y
  | .fail => fun _ _ => none
noncomputable def POp.runA : POp → Run
  | .move x => opMove x.toA
  | .pick c x y => opPick c.toA x.toA y.toA
  | .alloc z => opAlloc (z.map V.er)
  | .box x => opBox x.toA
  | .build z ps => buildR (z.map V.er) (toAp ps)
  | .buildSlice es len z ps => opBuildSlice es len (z.map V.er) (toAp ps)
  | .load1 x => opLoad1 x.toA
  | .loadN n x => opLoadN n x.toA
  | .store n x y => opStore n x.toA y.toA
  | .nilCheck x => opNilCheck x.toA
  | .bin op x y => opBin op x.toA y.toA
  | .eqB b x y => opEqB b x.toA y.toA
  | .eqNil n b x y => opEqNil n b x.toA y.toA
  | .eqSt b ls x y => opEqSt b ls x.toA y.toA
  | .not x => opNot x.toA
  | .neg x => opNeg x.toA
  | .conv k x => opConv k x.toA
  | .convStr x => opConvStr x.toA
  | .toStr x => opToStr x.toA
  | .mkfn f caps => opMkfn f (caps.map POpd.toA)
  | .mkmap => opMkmap
  | .sliceS es x lo hi => opSliceS es x.toA (toAo lo) (toAo hi) none
  | .sliceStr x lo hi => opSliceStr x.toA (toAo lo) (toAo hi)
  | .fieldAddr off x => opFieldAddr off x.toA
  | .indexAddr es x i => opIndexAddr es x.toA i.toA
  | .indexStr x i => opIndexStr x.toA i.toA
  | .field1 off x => opField1 off x.toA
  | .fieldN off n x => opFieldN off n x.toA
  | .lookup d z x k ok => opLookup d z.er x.toA k.toA ok
  | .mapUpd d x k y => opMapUpd d x.toA k.toA y.toA
  | .extract x i => opExtract x.toA i
  | .lenS x => opLenS x.toA
  | .lenStr x => opLenStr x.toA
  | .append es by_ x y => opAppend es by_ x.toA y.toA
  | .min x y => opMin x.toA y.toA
  | .max x y => opMax x.toA y.toA
  | .fail => opFail
def zok (z : List V) : Prop := ∀ v ∈ z, v.rows = []
/-- Its constants lead to no rows. -/
def POp.ok : POp → Prop
  | .pick _ x y => x.ok ∧ y.ok
  | .alloc z => zok z
  | .build z ps => okP ps ∧ zok z
  | .buildSlice _ _ z ps => okP ps ∧ zok z
  | .store _ _ y => y.ok
  | .mkfn _ caps => okL caps
  | .lookup _ z _ _ _ => z.rows = []
  | .mapUpd _ _ k y => k.ok ∧ y.ok
  | .append _ _ x y => x.ok ∧ y.ok
  | .move x | .box x | .load1 x | .loadN _ x | .nilCheck x | .toStr x | .sliceS _ x _ _ | .fieldAddr _ x | .indexAddr _ x _ | .field1 _ x | .fieldN _ _ x | .extract x _ => x.ok
  | _ => True
theorem POp.sim (o : POp) (h : o.ok) : OpSim o.run o.runA := by
  cases o with
  | move x => exact pMove_sim h
  | pick c x y => exact pPick_sim h.1 h.2
  | alloc z => exact pAlloc_sim h
  | box x => exact pBox_sim h
  | build z ps => exact pBuild_sim h.1 h.2
  | buildSlice es len z ps => exact pBuildSlice_sim h.1 h.2
  | load1 x => exact pLoad1_sim h
  | loadN n x => exact pLoadN_sim h
  | store n x y => exact pStore_sim h
  | nilCheck x => exact pNilCheck_sim h
  | bin op x y => exact pBin_sim
  | eqB neg x y => exact pEqB_sim
  | eqNil sort neg x y => exact pEqNil_sim
  | eqSt neg ls x y => exact pEqSt_sim
  | not x => exact pNot_sim
  | neg x => exact pNeg_sim
  | conv k x => exact pConv_sim
  | convStr x => exact pConvStr_sim
  | toStr x => exact pToStr_sim h
  | mkfn f caps => exact pMkfn_sim h
  | mkmap => exact pMkmap_sim
  | sliceS es x lo hi => exact pSliceS_sim h
  | sliceStr x lo hi => exact pSliceStr_sim
  | fieldAddr off x => exact pFieldAddr_sim h
  | indexAddr es x i => exact pIndexAddr_sim h
  | indexStr x i => exact pIndexStr_sim
  | field1 off x => exact pField1_sim h
  | fieldN off n x => exact pFieldN_sim h
  | lookup d z x k ok => exact pLookup_sim h
  | mapUpd d x k y => exact pMapUpd_sim h.1 h.2
  | extract x i => exact pExtract_sim h
  | lenS x => exact pLenS_sim
  | lenStr x => exact pLenStr_sim
  | append es by_ x y => exact pAppend_sim h.1 h.2
  | min x y => exact pMin_sim
  | max x y => exact pMax_sim
  | fail => intro T t S s v S' hf; cases hf

/-! ### what makes a block, in a memory of which not all is known to be fresh -/
def POp.makes : POp → Bool
  | .alloc _ | .box _ | .buildSlice .. => true
  | _ => false
theorem POp.made {o : POp} (hm : o.makes = true) (ho : o.ok) {T : PEnv} {t : Env} {S : PSt} {s : St} {v : V} {S' : PSt} (hf : o.run T S = some (v, S')) (he : ESim T t) (hs : Sim0 S s) (hw : EWf S T) (hn : S.heap S.next = none) :
    ∃ b x, S' = S.new b ∧ o.runA t s = some (v.er, s.new x) ∧ BSim b x ∧ (∀ u ∈ b.cells, Wf S u) ∧ Wf (S.new b) v := by
  cases o <;> first | (cases hm; done) | skip
  case alloc z =>
    cases hf
    refine ⟨.box z, .cells (rowOf (z.map V.er)) z.length none, rfl, ?_, ⟨_, rfl, holds_rowOf z⟩, fun v hv => .of_none (ho v hv), wf_ptr⟩
    simp only [POp.runA, opAlloc, hs.next, List.length_map]; rfl
  case box x =>
    simp only [POp.run, pBox] at hf
    split at hf
    case h_2 => cases hf
    rename_i u hu
    split at hf
    case isFalse => cases hf
    rename_i hsol
    cases hf
    refine ⟨.box u.cells, .cells (rowOf (u.cells.map V.er)) u.cells.length none, rfl, ?_, ⟨_, rfl, holds_rowOf _⟩, (pev_wf hw ho hu).cells, wf_ptr⟩
    simp only [POp.runA, opBox]
    rw [pev_sim he hu]
    simp only [V.er_solid, hsol, V.er_cells, List.length_map]
    rw [hs.next]; rfl
  case buildSlice es len z ps =>
    simp only [POp.run, pBuildSlice] at hf
    split at hf
    case h_2 => cases hf
    rename_i l hl
    cases hf
    obtain ⟨q1, q2⟩ := pseqp_sim he hw ho.1 (fun v hv => .of_none (ho.2 v (prepl_mem hv))) hl
    refine ⟨.row l none, .cells (rowOf (l.map V.er)) (l.map V.er).length none, rfl, ?_, ⟨_, by rw [List.length_map]; rfl, holds_rowOf l⟩, q2, wf_newRow (List.prefix_refl _)⟩
    simp only [POp.runA, opBuildSlice]
    rw [← prepl_map, q1]
    simp only [V.er, hs.next]
def POp.pure : POp → Bool
  | .alloc _ | .box _ | .buildSlice .. | .store .. | .mkmap | .mapUpd .. | .append .. => false
  | _ => true
/-- It looks at no memory. -/
def POp.isP : POp → Bool
  | .load1 _ | .loadN .. | .lookup .. | .toStr _ | .alloc _ | .box _ | .buildSlice .. | .store .. | .mkmap | .mapUpd .. | .append .. | .fail => false
  | _ => true
theorem POp.pure_ {o : POp} (hp : o.pure = true) {T : PEnv} {S : PSt} {v : V} {S' : PSt} (hf : o.run T S = some (v, S')) : S' = S := by
  cases o <;> first | (cases hp; done) | skip
  case pick c x y =>
    simp only [POp.run, pPick, pMove] at hf
    repeat' split at hf
    all_goals first | (cases hf; done) | (cases hf; rfl)
  all_goals
    simp only [POp.run, pMove, pBuild, pLoad1, pLoadN, pNilCheck, pBin, pEqB, pEqNil, pEqSt, pNot, pNeg, pConv, pConvStr, pToStr, pMkfn, pSliceS, pSliceStr, pFieldAddr, pIndexAddr, pIndexStr, pField1, pFieldN, pLookup, pExtract, pLenS, pLenStr, pMin, pMax] at hf
    repeat' split at hf
    all_goals first | (cases hf; done) | (cases hf; rfl)
end Go.Abs
