/- append, whole. -/
import Derived.Test.YtnhebanimmicaaaGreatDoorAb4
namespace Go.Abs

theorem row_known {μ : Mu} {l : List AV} {l' : List Value} (h : VRels μ l l') (ho : ∀ v ∈ l', v.oneCell' = true) :
    ∀ j v, (rowOf l).get (Pos.of j) = some v → j < l.length ∧ ∃ v', l'[j]? = some v' ∧ VRel μ v v' ∧ v'.oneCell' = true := by
  intro j v hv
  rw [rowOf, T.get_fill] at hv
  split at hv
  · rename_i hlt
    obtain ⟨v', h1, h2⟩ := h.get j v (by simpa using hv)
    exact ⟨by omega, v', h1, h2, ho v' (List.mem_of_getElem? h1)⟩
  · rw [T.get_leaf] at hv; cases hv

section
variable {P : Program} {t tx ty e : TypeId} {i : TypeInfo} {z : Value} {y : Value} {k : Nat} {news : List Value} {w : World} {μ : Mu} {s : St}

/-- Where there is no room. -/
theorem append_grows (hs : AppSrc P t tx ty e i z y k news w) (hzs : z.cells.size = i.size) {by_ : Nat} (hby : i.bytes < by_) (h : R μ s w) (hf : μ s.next = none)
    {base : Option Addr} {len cap : Nat} {olds : List Value} (hold : (Builtin.firstCells i.size len (.slice base len cap)).run P w.drew = .ok olds.toArray w.drew) (hol : olds.length = len * i.size)
    (hg : cap < len + k) (hb : (len + k) * by_ ≤ 70368744177664) {c : T AV} {n : Nat} (m : Option Lk)
    (hc : ∀ j v, c.get (Pos.of j) = some v → j < n ∧ ∃ v', (olds ++ news)[j]? = some v' ∧ VRel μ v v' ∧ v'.oneCell' = true) (hn : n ≤ (olds ++ news).length) :
    ∃ μ' v' w', (Builtin.append_ #[t, tx] ty #[.slice base len cap, y]).run P w = .ok v' w' ∧ VRel μ' (.slice s.next 0 (len + k) none i.size) v' ∧ R μ' (s.new (.cells c n m)) w' ∧ Ext μ s w μ' (s.new (.cells c n m)) w' := by
  have hb1 : (len + k) * i.bytes ≤ 70368744177664 := Nat.le_trans (Nat.mul_le_mul_left _ (Nat.le_of_lt hby)) hb
  have hb2 : len + k ≤ 70368744177664 := by
    have : (len + k) * 1 ≤ (len + k) * by_ := Nat.mul_le_mul_left _ (by omega)
    omega
  have hrun := hs.grow base len cap olds hold hg (by omega) (growslice_fits hg (by omega))
  have hge := grownCap_ge w (len + k) cap e
  generalize hcap : grownCap w (len + k) cap e = nc at hrun hge
  have hsz : ((olds ++ news).toArray ++ Builtin.zeroCells z.cells (nc - (len + k))).size = nc * i.size := by
    rw [Array.size_append, size_zeroCells, hzs]
    simp only [List.size_toArray, List.length_append, hol, hs.newsLen]
    rw [← Nat.add_mul, ← Nat.add_mul]
    congr 1; omega
  have hgo := grow_ok (e := e) (cs := (olds ++ news).toArray ++ Builtin.zeroCells z.cells (nc - (len + k))) (m := m) h hf hc hn (fun j v hj => by
    have hlt : j < (olds ++ news).length := by
      rcases Nat.lt_or_ge j (olds ++ news).length with h' | h'
      · exact h'
      · rw [List.getElem?_eq_none h'] at hj; cases hj
    rw [Array.getElem?_append_left (by simpa using hlt)]
    simpa using hj) (by rw [hsz, List.length_append, hol, hs.newsLen, ← Nat.add_mul]; exact Nat.mul_le_mul_right _ hge)
  refine ⟨_, _, _, hrun, ?_, hgo.1, hgo.2⟩
  have := VRel.slice (μ := μ.set s.next (w.heap.size, 0, ((olds ++ news).toArray ++ Builtin.zeroCells z.cells (nc - (len + k))).size)) s.next 0 (len + k) none i.size _ _ _ nc (Mu.set_same _ _ _)
    (fun _ h => by cases h) hge (by rw [hsz]; omega)
  simpa using this

set_option maxHeartbeats 1000000 in
theorem appendK_ok {cp : Nat} (hs : AppSrc P t tx ty e i z y k news w) (hzs : z.cells.size = i.size) {by_ : Nat} (hby : i.bytes < by_) (h : R μ s w) {s' : St} {b : Pos} {o len : Nat} {v : AV} {x' : Value} (hx : VRel μ (.slice b o len (some cp) i.size) x')
    {new : List AV} (hnew : VRels μ new news) (hle' : (len + k) * by_ ≤ 70368744177664) (hk0 : 0 < k) (ha : s.appendK i.size b o len cp new k = some (v, s')) (hfree : Free μ s.next s'.next) :
    ∃ μ' v' w', (Builtin.append_ #[t, tx] ty #[x', y]).run P w = .ok v' w' ∧ VRel μ' v v' ∧ R μ' s' w' ∧ Ext μ s w μ' s' w' := by
  have hnl := hnew.length
  have hsn : ∀ (x : Blk), (s.new x).next.toNat = s.next.toNat + 1 := fun x => Pos.toNat_succ _
  unfold St.appendK at ha
  split at ha
  · rename_i hroom
    have hroom' : len + k ≤ cp := Nat.le_of_ble_eq_true hroom
    split at ha
    case h_2 => cases ha
    rename_i s1 hst
    cases ha
    cases hx with
    | slice b o len cap es' c d t' cap' hm hc hl ht =>
      have hcp := hc cp rfl
      subst hcp
      obtain ⟨w', h1, h2, h3, h4, h5⟩ := store_ok h hm hnew hs.one hst
      have e1 : d + (o + len * i.size) = d + o + len * i.size := by omega
      have hth : w.there c (d + o + len * i.size) news.length := by rw [← e1]; exact h2
      have hrun := hs.room c (d + o) len cap' hroom' hth
      have h3' : w' = w.setCells c (d + (o + len * i.size)) news := h3
      rw [← e1, ← h3'] at hrun
      exact ⟨μ, _, w', hrun, .slice _ _ _ _ _ _ _ _ _ hm (fun k hk => by cases hk; rfl) hroom' ht, h4, h5⟩
    | sliceE b o cap es' c x hc => have := hc cp rfl; omega
  · rename_i hroom
    have hroom' : ¬ (len + k ≤ cp) := fun hh => by have := Nat.ble_eq_true_of_le hh; rw [show Nat.add len k = len + k from rfl, this] at hroom; cases hroom
    split at ha
    case h_2 => cases ha
    rename_i old hold
    cases ha
    have hf : μ s.next = none := hfree _ (Nat.le_refl _) (by rw [hsn]; omega)
    have key : ∀ (base : Addr) (cap' : Nat), cap' = cp → x' = .slice (some base) len cap' → (∃ olds : List Value, VRels μ old olds ∧ olds.length = len * i.size ∧ (∀ v ∈ olds, v.oneCell' = true) ∧
        (Builtin.firstCells i.size len (.slice (some base) len cap')).run P w.drew = .ok olds.toArray w.drew) →
        ∃ μ' v' w', (Builtin.append_ #[t, tx] ty #[x', y]).run P w = .ok v' w' ∧ VRel μ' (.slice s.next 0 (Nat.add len k) none i.size) v' ∧
          R μ' (s.new (.cells (rowOf (old ++ new)) (old ++ new).length none)) w' ∧ Ext μ s w μ' (s.new (.cells (rowOf (old ++ new)) (old ++ new).length none)) w' := by
      intro base cap' hcap hx' ⟨olds, g1, g2, g3, g4⟩
      subst hx' hcap
      have hone : ∀ v ∈ olds ++ news, v.oneCell' = true := fun v hv => (List.mem_append.1 hv).elim (g3 v) (hs.one v)
      exact append_grows hs hzs hby h hf g4 g2 (by omega) hle' none (row_known (g1.append hnew) hone) (by rw [(g1.append hnew).length]; exact Nat.le_refl _)
    cases hx with
    | slice b o len cap es' c d t' cap' hm hc hl ht =>
      refine key ⟨c, d + o, none⟩ cap' (hc cp rfl) rfl ?_
      unfold St.readN at hold
      split at hold
      · rename_i h0
        cases hold
        have h0' : len * i.size = 0 := h0
        exact ⟨[], .nil, by simp [h0'], by simp, firstCells_of (by simp [h0']) (fun j v hj => by simp at hj)⟩
      · rename_i n0 h0
        have h0' : len * i.size = n0 + 1 := h0
        obtain ⟨l', a1, a2, a3, a4⟩ := read_ok h hm hold
        have a2' : l'.length = len * i.size := by rw [a2, h0']
        exact ⟨l', a1, a2', a4, firstCells_of a2' (fun j v hj => by have := a3 j v hj; simpa using this)⟩
    | sliceE b o cap es' c x hc =>
      refine key ⟨c, x, none⟩ 0 (hc cp rfl).symm rfl ?_
      unfold St.readN at hold
      split at hold
      · cases hold
        exact ⟨[], .nil, by simp, by simp, firstCells_of (by simp) (fun j v hj => by simp at hj)⟩
      · rename_i n0 h0
        have h0' : 0 * i.size = n0 + 1 := h0
        omega

set_option maxHeartbeats 2000000 in
theorem appendU_ok (hs : AppSrc P t tx ty e i z y k news w) (hzs : z.cells.size = i.size) {by_ : Nat} (hby : i.bytes < by_) (h : R μ s w) {s' : St} {b : Pos} {o len : Nat} {v : AV} {x' : Value} (hx : VRel μ (.slice b o len none i.size) x')
    {new : List AV} (hnew : VRels μ new news) (hle' : (len + k) * by_ ≤ 70368744177664) (hk0 : 0 < k) (ha : s.appendU i.size b o len new k = some (v, s')) (hfree : Free μ s.next s'.next) :
    ∃ μ' v' w', (Builtin.append_ #[t, tx] ty #[x', y]).run P w = .ok v' w' ∧ VRel μ' v v' ∧ R μ' s' w' ∧ Ext μ s w μ' s' w' := by
  have hnl := hnew.length
  have hsn : ∀ (x : Blk), (s.new x).next.toNat = s.next.toNat + 1 := fun x => Pos.toNat_succ _
  unfold St.appendU at ha
  split at ha
  case h_2 => cases ha
  rename_i c n m hbk
  split at ha
  · -- the row's own end
    rename_i hcond
    rw [Bool.and_eq_true, Bool.and_eq_true] at hcond
    have ho0 : o = 0 := Nat.eq_of_beq_eq_true hcond.1.1
    have hn0 : len * i.size = n := Nat.eq_of_beq_eq_true hcond.1.2
    have htip := hcond.2
    subst ho0
    cases ha
    have hf : μ s.next = none := hfree _ (Nat.le_refl _) (by show s.next.toNat < (s.next.succ).toNat; rw [Pos.toNat_succ]; omega)
    obtain ⟨cb, d, t', hmb, hbr⟩ := h.blk _ _ hbk
    have hbr0 := hbr
    obtain ⟨hdn, cs, e', hw, hcs, hcell⟩ := hbr
    -- the row is told its family
    have hu := relink_ok h hbk htip
    have growing : ∀ (base : Addr) (cap' : Nat), x' = .slice (some base) len cap' → cap' < len + k → (∃ olds : List Value, olds.length = len * i.size ∧
        (Builtin.firstCells i.size len (.slice (some base) len cap')).run P w.drew = .ok olds.toArray w.drew ∧
        ∀ j v, c.get (Pos.of j) = some v → j < n ∧ ∃ v', olds[j]? = some v' ∧ VRel μ v v' ∧ v'.oneCell' = true) →
        ∃ μ' v' w', (Builtin.append_ #[t, tx] ty #[x', y]).run P w = .ok v' w' ∧ VRel μ' (.slice s.next 0 (Nat.add len k) none i.size) v' ∧
          R μ' ((s.relink b c n (famP b m)).new (.cells (T.fill new n c) (Nat.add n new.length) (some ⟨famP b m, true⟩))) w' ∧
          Ext μ s w μ' ((s.relink b c n (famP b m)).new (.cells (T.fill new n c) (Nat.add n new.length) (some ⟨famP b m, true⟩))) w' := by
      intro base cap' hx' hlt ⟨olds, g1, g2, g3⟩
      subst hx'
      have hk : ∀ j v, (T.fill new n c).get (Pos.of j) = some v → j < n + new.length ∧ ∃ v', (olds ++ news)[j]? = some v' ∧ VRel μ v v' ∧ v'.oneCell' = true := by
        intro j v hj
        rw [T.get_fill] at hj
        split at hj
        · rename_i hin
          obtain ⟨v', q1, q2⟩ := hnew.get _ v hj
          refine ⟨by omega, v', ?_, q2, hs.one v' (List.mem_of_getElem? q1)⟩
          rw [List.getElem?_append_right (by omega), g1, hn0]; exact q1
        · obtain ⟨q0, v', q1, q2, q3⟩ := g3 j v hj
          refine ⟨by omega, v', ?_, q2, q3⟩
          rw [List.getElem?_append_left (by omega)]; exact q1
      have hgr := append_grows hs hzs hby hu.1 (show μ (s.relink b c n (famP b m)).next = none from hf) g2 g1 hlt hle' (some ⟨famP b m, true⟩) hk (by rw [List.length_append, g1, hn0, hnl]; exact Nat.le_refl _)
      obtain ⟨μ', v', w', r1, r2, r3, r4⟩ := hgr
      exact ⟨μ', v', w', r1, r2, r3, hu.2.trans r4⟩
    cases hx with
    | slice b o len cap es' cb' d' t'' cap' hm hc hl ht =>
      rw [hm] at hmb
      cases hmb
      by_cases hroom : len + k ≤ cap'
      · -- there is room
        have hth : w.there cb (d + 0 + len * i.size) news.length := by
          intro j hj
          have hlt : d + 0 + len * i.size + j < cs.size := by
            have := hs.newsLen
            have h1 : (len + k) * i.size ≤ cap' * i.size := Nat.mul_le_mul_right _ hroom
            rw [Nat.add_mul] at h1
            omega
          exact ⟨by simp only [World.cell?, hw]; simp; omega, by simp [World.frozen?, hw]⟩
        have hrun := hs.room cb (d + 0) len cap' hroom hth
        have hst2 := run_storeCells_cells (P := P) cb (d + 0 + len * i.size) news 0 w (fun j hj => by simpa using (hth j hj).1) (fun j hj => by simpa using (hth j hj).2) hs.one
        have hst := run_storeCells_at P cb (d + 0 + len * i.size) e' news 0 cs w hw (by
          have := hs.newsLen
          have h1 : (len + k) * i.size ≤ cap' * i.size := Nat.mul_le_mul_right _ hroom
          rw [Nat.add_mul] at h1
          omega) hs.one
        rw [hst] at hst2
        simp only [Nat.add_zero] at hst2
        injection hst2 with _ hww
        have hsz : d + len * i.size + news.length ≤ cs.size := by
          have := hs.newsLen
          have h1 : (len + k) * i.size ≤ cap' * i.size := Nat.mul_le_mul_right _ hroom
          rw [Nat.add_mul] at h1
          omega
        simp only [Nat.add_zero] at hrun hww
        rw [← hww] at hrun
        have hrow := setRow_heap w cb cs (cs.toList.take (d + len * i.size) ++ news ++ cs.toList.drop (d + len * i.size + news.length)).toArray e' (0, 0) hw
        have hnewsz : (cs.toList.take (d + len * i.size) ++ news ++ cs.toList.drop (d + len * i.size + news.length)).toArray.size = cs.size := by simp; omega
        have hget1 : ∀ j v', cs[d + j]? = some v' → j < n → (cs.toList.take (d + len * i.size) ++ news ++ cs.toList.drop (d + len * i.size + news.length)).toArray[d + j]? = some v' := by
          intro j v' hj hjn
          rw [List.getElem?_toArray, List.append_assoc, List.getElem?_append_left (by simp; omega), List.getElem?_take, if_pos (by omega)]
          simpa using hj
        have hget2 : ∀ (j : Nat) v', news[j]? = some v' → (cs.toList.take (d + len * i.size) ++ news ++ cs.toList.drop (d + len * i.size + news.length)).toArray[d + (n + j)]? = some v' := by
          intro j v' hj
          have hjl : j < news.length := by
            rcases Nat.lt_or_ge j news.length with h' | h'
            · exact h'
            · rw [List.getElem?_eq_none h'] at hj; cases hj
          rw [List.getElem?_toArray, List.getElem?_append_left (by simp; omega), List.getElem?_append_right (by simp; omega)]
          rw [List.length_take, Nat.min_eq_left (by simp; omega), show d + (n + j) - (d + len * i.size) = j by omega]
          exact hj
        have hpl := place_ok (s := s) (w := w) (w' := w.setRow cb (cs.toList.take (d + len * i.size) ++ news ++ cs.toList.drop (d + len * i.size + news.length)).toArray) hu.1 (q := s.next) rfl rfl
          (b := cb) (d := d) (t := cs.size) (y := .cells (T.fill new n c) (Nat.add n new.length) (some ⟨famP b m, true⟩))
          (fun r z1 hr => (St.get_relink hr).elim (fun e => ⟨.cells c n m, by rw [e.1]; exact hbk⟩) (fun e => ⟨_, e.2⟩))
          hf ⟨b, _, d, _, hbk, hm⟩ hbr0.lt (setRow_size _ _ _) rfl rfl rfl (fun k hk => setRow_other _ _ _ hk)
          (fun r z1 d1 t1 hr hmr => by
            rcases St.get_relink hr with ⟨rfl, rfl⟩ | ⟨h1, h3⟩
            · rw [hm] at hmr; cases hmr
              exact ⟨⟨famP r m, .inr (.inl ⟨rfl, rfl, by show d + n ≤ d + (n + new.length); omega⟩)⟩, hdn, _, e', hrow, by rw [hnewsz, hcs], fun j v hj => by
                obtain ⟨q0, v', q1, q2, q3⟩ := hcell j v hj
                exact ⟨q0, v', hget1 j v' q1 q0, q2, q3⟩⟩
            · obtain ⟨k1, k2, c2, n2, rfl⟩ := tip_apart (b := b) htip (h.apart b r _ z1 cb d t' d1 t1 hbk h3 hm hmr (Ne.symm h1))
              have k2' : d1 + n2 ≤ d + n := k2
              refine ⟨⟨famP b m, .inr (.inl ⟨rfl, rfl, by show d1 + n2 ≤ d + (n + new.length); omega⟩)⟩, ?_⟩
              obtain ⟨b3, d3, t3, e1, e2⟩ := h.blk r _ h3
              rw [hmr] at e1; cases e1
              obtain ⟨f1, cs3, e3, f2, f3, f4⟩ := e2
              rw [hw] at f2; cases f2
              refine ⟨f1, _, e', hrow, by rw [hnewsz, f3], fun j v hj => ?_⟩
              obtain ⟨q0, v', q1, q2, q3⟩ := f4 j v hj
              refine ⟨q0, v', ?_, q2, q3⟩
              have hlt : d1 + j < d + len * i.size := by omega
              rw [List.getElem?_toArray, List.append_assoc, List.getElem?_append_left (by simp; omega), List.getElem?_take, if_pos (by omega)]
              simpa using q1)
          ⟨by
            have := hs.newsLen
            show d + (n + new.length) ≤ cs.size
            omega, _, e', hrow, hnewsz, fun j v hj => by
            rw [T.get_fill] at hj
            split at hj
            · rename_i hin
              obtain ⟨v', q1, q2⟩ := hnew.get _ v hj
              refine ⟨by show j < n + new.length; omega, v', ?_, q2, hs.one v' (List.mem_of_getElem? q1)⟩
              have := hget2 (j - n) v' q1
              rwa [show n + (j - n) = j by omega] at this
            · obtain ⟨q0, v', q1, q2, q3⟩ := hcell j v hj
              exact ⟨by show j < n + new.length; omega, v', hget1 j v' q1 q0, q2, q3⟩⟩
        refine ⟨_, _, _, hrun, ?_, hpl.1, hpl.2⟩
        have := VRel.slice (μ := μ.set s.next (cb, d, cs.size)) s.next 0 (len + k) none i.size cb d cs.size cap' (Mu.set_same _ _ _) (fun _ h => by cases h) hroom (by rw [hcs]; exact ht)
        simpa using this
      · refine growing ⟨cb, d + 0, none⟩ cap' rfl (by omega) ⟨(cs.toList.drop d).take (len * i.size), ?_, ?_, ?_⟩
        · simp; omega
        · refine firstCells_of (by simp; omega) (fun j v hj => ?_)
          rw [List.getElem?_take] at hj
          split at hj
          · rw [List.getElem?_drop] at hj
            show World.cell? w _ = _
            simp only [World.cell?, hw]
            simpa using hj
          · cases hj
        · intro j v hj
          obtain ⟨q0, v', q1, q2, q3⟩ := hcell j v hj
          refine ⟨q0, v', ?_, q2, q3⟩
          rw [List.getElem?_take, if_pos (by omega), List.getElem?_drop]
          simpa using q1
    | sliceE b o cap es' cb' x hc =>
      refine growing ⟨cb', x, none⟩ 0 rfl (by omega) ⟨[], by simp, firstCells_of (by simp) (fun j v hj => by simp at hj), fun j v hj => ?_⟩
      obtain ⟨q0, _⟩ := hcell j v hj
      omega
  · -- a part of a row
    split at ha
    case h_2 => cases ha
    rename_i old hold
    cases ha
    have hsn1 : ((s.kill m).del b).next = s.next := St.next_kill s m
    have hf : μ s.next = none := hfree _ (Nat.le_refl _) (by show s.next.toNat < (((s.kill m).del b).next.succ).toNat; rw [Pos.toNat_succ, hsn1]; omega)
    have hR1 : R μ ((s.kill m).del b) w := (h.kill m).del b
    have hE1 : Ext μ s w μ ((s.kill m).del b) w := (Ext.kill μ s w m).trans (Ext.del _ _ _ _)
    obtain ⟨cb, d, t', hmb, hbr⟩ := h.blk _ _ hbk
    have hbr0 := hbr
    obtain ⟨hdn, cs, e', hw, hcs, hcell⟩ := hbr
    obtain ⟨olds, g1, g2, g3, g4⟩ := read_tree hbr0 _ _ _ hold
    have hone : ∀ v ∈ olds ++ news, v.oneCell' = true := fun v hv => (List.mem_append.1 hv).elim (g4 v) (hs.one v)
    have growing : ∀ (base : Addr) (cap' : Nat), x' = .slice (some base) len cap' → cap' < len + k →
        (Builtin.firstCells i.size len (.slice (some base) len cap')).run P w.drew = .ok olds.toArray w.drew →
        ∃ μ' v' w', (Builtin.append_ #[t, tx] ty #[x', y]).run P w = .ok v' w' ∧ VRel μ' (.slice s.next 0 (Nat.add len k) none i.size) v' ∧
          R μ' (((s.kill m).del b).new (.cells (rowOf (old ++ new)) (old ++ new).length none)) w' ∧ Ext μ s w μ' (((s.kill m).del b).new (.cells (rowOf (old ++ new)) (old ++ new).length none)) w' := by
      intro base cap' hx' hlt hfc
      subst hx'
      have hgr := append_grows hs hzs hby hR1 (show μ ((s.kill m).del b).next = none from hsn1 ▸ hf) hfc g2 hlt hle' none (row_known (g1.append hnew) hone) (by rw [(g1.append hnew).length]; exact Nat.le_refl _)
      obtain ⟨μ', v', w', r1, r2, r3, r4⟩ := hgr
      rw [hsn1] at r2
      exact ⟨μ', v', w', r1, r2, r3, hE1.trans r4⟩
    cases hx with
    | slice b o len cap es' cb' d' t'' cap' hm hc hl ht =>
      rw [hm] at hmb
      cases hmb
      by_cases hroom : len + k ≤ cap'
      · have h1 : (len + k) * i.size ≤ cap' * i.size := Nat.mul_le_mul_right _ hroom
        rw [Nat.add_mul] at h1
        have hnw := hs.newsLen
        have hth : w.there cb (d + o + len * i.size) news.length := by
          intro j hj
          have hlt : d + o + len * i.size + j < cs.size := by omega
          exact ⟨by simp only [World.cell?, hw]; simp; omega, by simp [World.frozen?, hw]⟩
        have hrun := hs.room cb (d + o) len cap' hroom hth
        have hst2 := run_storeCells_cells (P := P) cb (d + o + len * i.size) news 0 w (fun j hj => by simpa using (hth j hj).1) (fun j hj => by simpa using (hth j hj).2) hs.one
        have hst := run_storeCells_at P cb (d + o + len * i.size) e' news 0 cs w hw (by omega) hs.one
        rw [hst] at hst2
        simp only [Nat.add_zero] at hst2
        injection hst2 with _ hww
        rw [← hww] at hrun
        have hrow := setRow_heap w cb cs (cs.toList.take (d + o + len * i.size) ++ news ++ cs.toList.drop (d + o + len * i.size + news.length)).toArray e' (0, 0) hw
        have hnewsz : (cs.toList.take (d + o + len * i.size) ++ news ++ cs.toList.drop (d + o + len * i.size + news.length)).toArray.size = cs.size := by simp; omega
        have hpl := place_ok (s := s) (w := w) (w' := w.setRow cb (cs.toList.take (d + o + len * i.size) ++ news ++ cs.toList.drop (d + o + len * i.size + news.length)).toArray) hR1 (q := s.next) hsn1.symm hsn1
          (b := cb) (d := d + o) (t := cs.size) (y := .cells (rowOf (old ++ new)) (old ++ new).length none)
          (fun r z1 hr => ⟨z1, (St.get_kill (St.get_del hr).2).2⟩)
          hf ⟨b, _, d, _, hbk, hm⟩ hbr0.lt (setRow_size _ _ _) rfl rfl rfl (fun k hk => setRow_other _ _ _ hk)
          (fun r z1 d1 t1 hr hmr => by
            have a1 := St.get_del hr
            have a2 := St.get_kill a1.2
            obtain ⟨f, i', j', b1, b2⟩ := (h.apart b r _ z1 cb d t' d1 t1 hbk a2.2 hm hmr (Ne.symm a1.1)).fam
            exact absurd rfl (a2.1 ⟨f, i'⟩ b1 ⟨f, j'⟩ b2))
          ⟨by
            rw [(g1.append hnew).length, List.length_append, g2]
            show d + o + (len * i.size + news.length) ≤ cs.size
            omega, _, e', hrow, hnewsz, fun j v hj => by
            obtain ⟨q0, v', q1, q2, q3⟩ := row_known (g1.append hnew) hone j v hj
            refine ⟨q0, v', ?_, q2, q3⟩
            rw [List.getElem?_append] at q1
            split at q1
            · rename_i hjl
              have hjl' : j < len * i.size := by rw [← show olds.length = len * i.size from g2]; exact hjl
              have := g3 j v' q1
              simp only [World.cell?, hw] at this
              rw [List.getElem?_toArray, List.append_assoc, List.getElem?_append_left (by simp; omega), List.getElem?_take, if_pos (by omega)]
              simpa using this
            · rename_i hjl
              rw [g2] at q1 hjl
              have hjl2 : j - Nat.mul len i.size < news.length := by
                rcases Nat.lt_or_ge (j - Nat.mul len i.size) news.length with h' | h'
                · exact h'
                · rw [List.getElem?_eq_none h'] at q1; cases q1
              have hmul : Nat.mul len i.size = len * i.size := rfl
              rw [hmul] at q1 hjl hjl2
              rw [List.getElem?_toArray, List.getElem?_append_left (by simp; omega), List.getElem?_append_right (by simp; omega)]
              rw [List.length_take, Nat.min_eq_left (by simp; omega), show d + o + j - (d + o + len * i.size) = j - len * i.size by omega]
              exact q1⟩
        refine ⟨_, _, _, hrun, ?_, hpl.1, hpl.2⟩
        have := VRel.slice (μ := μ.set s.next (cb, d + o, cs.size)) s.next 0 (len + k) none i.size cb (d + o) cs.size cap' (Mu.set_same _ _ _) (fun _ h => by cases h) hroom (by rw [hcs]; omega)
        simpa using this
      · refine growing ⟨cb, d + o, none⟩ cap' rfl (by omega) (firstCells_of g2 (fun j v hj => ?_))
        exact g3 j v hj
    | sliceE b o cap es' cb' x hc =>
      have h0 : olds = [] := by apply List.eq_nil_of_length_eq_zero; rw [g2]; show 0 * i.size = 0; omega
      subst h0
      exact growing ⟨cb', x, none⟩ 0 rfl (by omega) (firstCells_of (by simp) (fun j v hj => by simp at hj))

theorem append_ok (hs : AppSrc P t tx ty e i z y k news w) {es by_ : Nat} (hi : i.size = es) (hzs : z.cells.size = es) (hby : i.bytes < by_) (h : R μ s w) {s' : St} {x v : AV} {x' : Value} (hx : VRel μ x x')
    {new : List AV} (hnew : VRels μ new news) (ha : s.append es by_ x new k = some (v, s')) (hfree : Free μ s.next s'.next) :
    ∃ μ' v' w', (Builtin.append_ #[t, tx] ty #[x', y]).run P w = .ok v' w' ∧ VRel μ' v v' ∧ R μ' s' w' ∧ Ext μ s w μ' s' w' := by
  subst hi
  have hnl := hnew.length
  have hsn : ∀ (x : Blk), (s.new x).next.toNat = s.next.toNat + 1 := fun x => Pos.toNat_succ _
  unfold St.append at ha
  split at ha
  · have hnil : news = [] := by have := hs.newsLen; simpa using this
    split at ha
    · cases ha
      cases hx
      exact ⟨μ, _, w, hs.none0 rfl, .nilslice, h, .refl _ _ _⟩
    · rename_i b o len cap es'
      cases ha
      have hset : ∀ b o, w.setCells b o news = w := by intro b o; rw [hnil]; rfl
      cases hx with
      | slice b o len cap es' c d t' cap' hm hc hl ht =>
        have := hs.room c (d + o) len cap' (by omega) (by rw [hnil]; intro j hj; simp at hj)
        rw [hset] at this
        exact ⟨μ, _, w, this, .slice _ _ _ _ _ _ _ _ _ hm hc hl ht, h, .refl _ _ _⟩
      | sliceE b o cap es' c x hc =>
        have := hs.room c x 0 0 (by omega) (by rw [hnil]; intro j hj; simp at hj)
        rw [hset] at this
        exact ⟨μ, _, w, this, .sliceE _ _ _ _ _ _ hc, h, .refl _ _ _⟩
    · cases ha
  rename_i kk
  split at ha
  · split at ha
    case h_2 => cases ha
    rename_i hle
    have hle' : (kk + 1) * by_ ≤ 70368744177664 := Nat.le_of_ble_eq_true hle
    cases ha
    cases hx
    have hf : μ s.next = none := hfree _ (Nat.le_refl _) (by rw [hsn]; omega)
    have hk := row_known hnew hs.one
    have := append_grows hs hzs hby h hf (base := none) (len := 0) (cap := 0) (olds := []) (by simp [Builtin.firstCells]) (by simp) (by omega) (by simpa using hle') (c := rowOf new) (n := new.length) none
      (by simpa using hk) (by simp [hnl])
    simpa using this
  · split at ha
    case h_1 => cases ha
    rename_i hcond
    rw [Bool.and_eq_true] at hcond
    have hes' := Nat.eq_of_beq_eq_true hcond.1
    subst hes'
    have hle' := Nat.le_of_ble_eq_true hcond.2
    split at ha
    · exact appendK_ok hs hzs hby h hx hnew hle' (by omega) ha hfree
    · exact appendU_ok hs hzs hby h hx hnew hle' (by omega) ha hfree
  · cases ha

end

end Go.Abs
