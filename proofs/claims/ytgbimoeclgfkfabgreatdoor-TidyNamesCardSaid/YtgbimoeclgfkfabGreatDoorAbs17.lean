/-
  A verified abstract interpreter, part 17: a region that draws its order, whole.
-/
import Derived.Test.YtgbimoeclgfkfabGreatDoorAbs16
set_option linter.unusedSimpArgs false
set_option linter.unusedVariables false
namespace Go.Abs
open Go.RowKit

theorem filter_set : ∀ (l : List Bool) (i : Nat), l[i]? = some false → ((l.set i true).filter id).length = (l.filter id).length + 1
  | [], i, h => by simp at h
  | x :: l, 0, h => by simp at h; subst h; simp
  | x :: l, i + 1, h => by
    simp at h
    have := filter_set l i h
    cases x <;> simp [this]

section draw
variable {P : Program} {gl : Glob} {orc : Orc} {ops : Array Oper} {tm : Tr} {H0 : AHeap} {s : DSt} {sn0 : Snap} {ι0 : IMap} {W0 : World} {ds : List Deferred}

theorem tmps_next {sn sn' : Snap} {j j' : IMap} {a : Act} {D D' : Nat → Bool} {o : Oper} {v : AV} {y : Value} (hle : Le sn sn' j j') (hv : VR sn' j' v y)
    (hw : ∀ t, lastW s.vals D' t ops.toList 0 (tget tm t) = if dstIs o t = true then some v else lastW s.vals D t ops.toList 0 (tget tm t)) (hsz : ∀ d, o.dst = some d → d < a.tmps.size)
    (ht : ∀ t u, lastW s.vals D t ops.toList 0 (tget tm t) = some u → ∃ x, a.tmps[t]? = some x ∧ VR sn j u x) :
    ∀ t u, lastW s.vals D' t ops.toList 0 (tget tm t) = some u → ∃ x, (a.put o.dst y).tmps[t]? = some x ∧ VR sn' j' u x := by
  intro t u hu
  rw [hw] at hu
  refine putLR (fun u hu => ?_) hv hu hsz
  obtain ⟨x, h1, h2⟩ := ht t u hu
  exact ⟨x, h1, VR_mono hle _ _ h2⟩

theorem beq_ne {k i : Nat} (h : k ≠ i) : Nat.beq k i = false := by
  cases hq : Nat.beq k i with
  | false => rfl
  | true => exact absurd (Nat.eq_of_beq_eq_true hq) h

theorem sim_step (hn : NoNum P) (hO : OrcSound P gl orc) (hg0 : GlOK gl sn0) (hR0 : R sn0 ι0 H0 W0) (c : Checked P gl orc ops.toList tm H0 s) {D : Nat → Bool} (hD : Closed ops.toList D) {i : Nat} (hi : D i = false) {o : Oper} (ho : ops.toList[i]? = some o)
    (hanc : ∀ k, bit ((ancs ops.toList []).getD i 0) k = true → D k = true) {a : Act} {W : World} (h : Sim P gl orc ops.toList (ancs ops.toList []) tm s sn0 ι0 H0 W0 ds D a W) (hsz : ∀ o ∈ ops.toList, ∀ d, o.dst = some d → d < a.tmps.size)
    {D' : Nat → Bool} (hD' : ∀ k, D' k = (D k || Nat.beq k i)) {K : Act → World → Prop} {Q : Exit → Act → World → Prop}
    (hK : ∀ a' W', Sim P gl orc ops.toList (ancs ops.toList []) tm s sn0 ι0 H0 W0 ds D' a' W' → a'.tmps.size = a.tmps.size → K a' W') : wpOp P ops Q i K a W := by
  obtain ⟨sn, ι, l1, l2, B, pend, x1, x2, x3, x4, x5, x6, x7, x8, x9, x10⟩ := h.ex
  have hil : i < ops.toList.length := (List.getElem?_eq_some_iff.1 ho).1
  obtain ⟨o', env, v, hat, f1, f2, f3, f4⟩ := (c.fact hil).ex
  have hoo := hat.op
  rw [ho] at hoo; simp at hoo; subst hoo
  have hsz' : ∀ d, o.dst = some d → d < a.tmps.size := hsz o (List.mem_of_getElem? ho)
  have henv : ∀ t u, alook t env = some u → ∃ y, a.tmps[t]? = some y ∧ VR sn (pex ι pend) u y := fun t u hu => x9 t u (env_at c hD hat hanc hi t u hu)
  have hw := wantedE_eq (o := o) hat henv
  have hnext := lastW_next c hD hat hi hD'
  have hgl : GlOK gl sn := hg0.mono x5.le
  have hρ := evalE_sound hgl henv
  have hDi : D' i = true := by rw [hD']; simp
  have hDk : ∀ k, D k = true → D' k = true := fun k hk => by rw [hD', hk]; rfl
  have hDn : ∀ k, D' k = true → D k = true ∨ k = i := by
    intro k hk
    rw [hD'] at hk
    cases hq : D k with
    | true => exact .inl rfl
    | false => rw [hq] at hk; exact .inr (Nat.eq_of_beq_eq_true (by simpa using hk))
  have hsput : ∀ y, (a.put o.dst y).tmps.size = a.tmps.size := by intro y; cases o.dst <;> simp [Act.put]
  have hnews : ∀ j, j ∈ news l2 ++ s.new → ∃ id body, IdOf P gl ops.toList (ancs ops.toList []) tm s.vals j id body ∧ B.length ≤ id := x2.ids c.di.allocs
  have hinew : i ∈ news l2 ++ s.new → kind o = 2 ∧ wantedE ops.toList env o = true := by
    intro hm
    obtain ⟨id, body, ⟨o2, env2, mk, g1, g2, g3, g4⟩, _⟩ := hnews i hm
    obtain ⟨rfl, rfl, _⟩ := hat.uniq g1
    exact ⟨g2, g3⟩
  have hist : i ∈ stFst l2 → kind o = 3 := by
    intro hm
    have : ∃ st ∈ l2, st.1 = i := by
      clear x1 x2 x4 hnews hinew x7 x8
      induction l2 with
      | nil => simp [stFst] at hm
      | cons y l ih =>
        obtain ⟨p, q, r⟩ := y
        simp only [stFst, List.mem_cons] at hm
        rcases hm with rfl | hm
        · exact ⟨(i, q, r), List.mem_cons_self, rfl⟩
        · obtain ⟨st, h1, h2⟩ := ih hm; exact ⟨st, by simp [h1], h2⟩
    obtain ⟨st, h1, rfl⟩ := this
    obtain ⟨H, B', he⟩ := x2.mem st h1
    obtain ⟨o2, env2, v2, g1, g2, _⟩ := he.ex
    obtain ⟨rfl, _, _⟩ := hat.uniq g1
    exact g2
  -- the world as it is, a value more
  have quiet : (kind o = 2 → wantedE ops.toList env o = false) → kind o ≠ 3 → ∀ y, VR sn (pex ι pend) v y → K (a.put o.dst y) W := by
    intro hq2 hq3 y hy
    refine hK _ _ ⟨sn, ι, l1, l2, B, pend, x1, x2, fun j hj => hDk j (x3 j hj), fun j hj => ?_, x5, x6, fun r hr => ?_, fun j hj hdj => ?_, tmps_next (Le.refl _ _) hy hnext hsz' x9, by rw [Act.put_defers']; exact x10⟩ (hsput y)
    · have hne : j ≠ i := by rintro rfl; exact hq3 (hist hj)
      rw [hD', x4 j hj, beq_ne hne]; rfl
    · obtain ⟨r1, r2, r3⟩ := x7 r hr
      exact ⟨r1, hDk _ r2, r3⟩
    · rcases hDn j hdj with hdj | rfl
      · exact x8 j hj hdj
      · obtain ⟨g1, g2⟩ := hinew hj
        have := hq2 g1; rw [g2] at this; cases this
  unfold wpOp
  have hoa : ops[i]? = some o := by rw [← Array.getElem?_toList]; exact ho
  rw [hoa]
  simp only
  -- an effect: what was made ahead of it becomes ours, then it runs
  have effect : kind o = 3 → ∃ (nw : List Nat) (l2' : List (Nat × AHeap × List Nat)) (H B' : AHeap) (ι' : IMap), l2 = (i, B, nw) :: l2' ∧ Stp sn0 ι0 H0 W0 sn ι' H W ∧
      (∀ t u, alook t env = some u → ∃ y, a.tmps[t]? = some y ∧ VR sn ι' u y) ∧
      (wantedE ops.toList env o = true → aop P orc (evalE gl env) o H = some (v, B')) ∧ (wantedE ops.toList env o = false → v = .tuple [] ∧ B' = H) ∧
      (∀ y W' sn2 ι2, VR sn2 ι2 v y → Stp sn ι' H W sn2 ι2 B' W' → K (a.put o.dst y) W') := by
    intro hk3
    -- it is the next effect
    have hmem := f3 hk3
    rw [x1, stFst_app] at hmem
    have hm2 : i ∈ stFst l2 := by
      rcases List.mem_append.1 hmem with hm | hm
      · have := x3 i hm; rw [hi] at this; cases this
      · exact hm
    obtain ⟨nw, l2', rfl⟩ : ∃ nw l2', l2 = (i, B, nw) :: l2' := by
      cases l2 with
      | nil => simp [stFst] at hm2
      | cons y l =>
        obtain ⟨p, q, r⟩ := y
        cases x2 with
        | cons ha he hc =>
        simp only [stFst, List.mem_cons] at hm2
        rcases hm2 with rfl | hm2
        · exact ⟨r, l, rfl⟩
        · exfalso
          -- the one ahead of it in the chain has run
          obtain ⟨k, hk⟩ := List.getElem?_of_mem hm2
          have hprev : ∃ e, (stFst (l1 ++ (p, B, r) :: l))[(stFst l1).length + k]? = some e ∧ e ∈ stFst ((p, B, r) :: l) := by
            rw [stFst_app, List.getElem?_append_right (by omega)]
            simp only [Nat.add_sub_cancel_left]
            have hkl : k < (stFst l).length := (List.getElem?_eq_some_iff.1 hk).1
            have hkl' : k < (stFst ((p, B, r) :: l)).length := by simp [stFst]; omega
            exact ⟨_, List.getElem?_eq_getElem hkl', List.getElem_mem hkl'⟩
          obtain ⟨e, he1, he2⟩ := hprev
          have hcur : (stFst (l1 ++ (p, B, r) :: l))[(stFst l1).length + k + 1]? = some i := by
            rw [stFst_app, List.getElem?_append_right (by omega)]
            rw [show (stFst l1).length + k + 1 - (stFst l1).length = k + 1 from by omega]
            simp only [stFst, List.getElem?_cons_succ]; exact hk
          have hch := c.chain
          rw [x1] at hch
          have := hanc e (chainOk_spec _ _ e i hch he1 hcur)
          rw [x4 e he2] at this; cases this
    cases x2 with
    | @cons _ H B' _ _ _ _ ha he hc =>
    obtain ⟨o2, env2, v2, g1, g2, g3, g4, g5, g6, g7⟩ := he.ex
    obtain ⟨rfl, rfl, rfl⟩ := hat.uniq g1
    have hnw : ∀ j ∈ nw, D j = true := fun j hj => hanc j (allBit_spec g3 j hj)
    obtain ⟨ι', s1, e1, e2, e3⟩ := absorb_all (H := H) ha x6 x5 (fun r hr => by
        obtain ⟨r1, r2, r3, r4, r5, r6, r7, r8, r9⟩ := x7 r hr
        exact ⟨r1, r4, r5, r6, r7, r8, r9⟩) fun j hj => x8 j (by simp [news, hj]) (hnw j hj)
    have hids := ha.ids
    -- who is left
    have hleft : ∀ r ∈ pend, r.op ∉ nw → B'.length ≤ r.id := by
      intro r hr hnin
      obtain ⟨r1, r2, r3, _⟩ := x7 r hr
      have : r.op ∈ news l2' ++ s.new := by
        simp only [news, List.append_assoc] at r3
        rcases List.mem_append.1 r3 with h1 | h1
        · exact absurd h1 hnin
        · exact h1
      obtain ⟨id, body, q1, q2⟩ := hc.ids c.di.allocs r.op this
      obtain ⟨rfl, _⟩ := r1.uniq q1
      exact q2
    have hgone : ∀ r ∈ pend, r.op ∈ nw → r.id < H.length := by
      intro r hr hin
      obtain ⟨r1, _⟩ := x7 r hr
      obtain ⟨id, body, q1, _, q3⟩ := hids r.op hin
      obtain ⟨rfl, _⟩ := r1.uniq q1
      exact q3
    have hblk : ∀ r ∈ pend, r.op ∉ nw → ∀ b q, ι' b = some q → q.blk ≠ r.pl.blk := by
      intro r hr hnin b q hq
      rcases e1 b q hq with hq | ⟨r', hr', hid', rfl, hlt⟩
      · exact (x7 r hr).2.2.2.2.2.1 b q hq
      · have := hleft r hr hnin
        exact apart_ne x6 hr' hr (by omega)
    refine ⟨nw, l2', H, B', ι', rfl, s1, ?_, g6, g7, ?_⟩
    · intro t u hu
      obtain ⟨y, h1, h2⟩ := henv t u hu
      obtain ⟨acc, hacc⟩ := refsEnv_mem env t u hu
      exact ⟨y, h1, VR_refs u acc y (fun b hb q hq => e2 b q hq (allLt_spec g4 b (hacc b hb))) h2⟩
    · intro y W' sn2 ι2 hy hst
      let pend' := pend.filter fun r => !mem r.op nw
      have hp' : ∀ r, r ∈ pend' ↔ r ∈ pend ∧ r.op ∉ nw := by
        intro r
        simp only [pend', List.mem_filter, Bool.not_eq_true']
        constructor
        · rintro ⟨h1, h2⟩; exact ⟨h1, fun hm => by rw [mem_iff.2 hm] at h2; cases h2⟩
        · rintro ⟨h1, h2⟩; refine ⟨h1, ?_⟩
          cases hq : mem r.op nw with
          | false => rfl
          | true => exact absurd (mem_iff.1 hq) h2
      have hap' : Apart pend' := x6.filter _
      have hnone : ∀ r ∈ pend', ι2 r.id = none := by
        intro r hr
        obtain ⟨h1, h2⟩ := (hp' r).1 hr
        have := hleft r h1 h2
        cases hq : ι2 r.id with
        | none => rfl
        | some q => have := (hst.rel.dom _).2 ⟨q, hq⟩; omega
      have hlex : Le sn sn2 (pex ι pend) (pex ι2 pend') := by
        refine ⟨hst.le.sn, fun b q hq => ?_⟩
        rcases pex_case hq with hq1 | ⟨hn1, r, hr, hid, rfl⟩
        · exact (pex_le sn2 ι2 pend').ι b q (hst.le.ι b q (e3.ι b q hq1))
        · by_cases hin : r.op ∈ nw
          · have hlt := hgone r hr hin
            have := e2 b _ hq (by omega)
            exact (pex_le sn2 ι2 pend').ι b _ (hst.le.ι b _ this)
          · have hr' : r ∈ pend' := (hp' r).2 ⟨hr, hin⟩
            have := pex_pend hap' hr' (hnone r hr')
            rw [hid] at this; exact this
      have hblk2 : ∀ r ∈ pend', ∀ b q, ι2 b = some q → q.blk ≠ r.pl.blk := by
        intro r hr b q hq
        obtain ⟨h1, h2⟩ := (hp' r).1 hr
        rcases hst.fresh b q hq with h3 | h3 | ⟨b0, o0, p0, k1, k2, k3, k4⟩
        · exact hblk r h1 h2 b q h3
        · have := (x7 r h1).2.2.2.2.1; omega
        · have := hblk r h1 h2 b0 p0 k3; omega
      refine hK _ _ ⟨sn2, ι2, l1 ++ [(i, B, nw)], l2', B', pend', by rw [x1]; simp, hc, ?_, ?_, s1.trans hR0 hst, hap', ?_, ?_, tmps_next hlex (VR_mono (pex_le sn2 ι2 pend') _ _ hy) hnext hsz' x9, by rw [Act.put_defers']; exact x10⟩ (hsput y)
      · intro j hj
        rw [stFst_app] at hj
        rcases List.mem_append.1 hj with hj | hj
        · exact hDk j (x3 j hj)
        · simp [stFst] at hj; rw [hj]; exact hDi
      · intro j hj
        have hjx := x4 j (by simp [stFst, hj])
        have hne : j ≠ i := by
          rintro rfl
          -- it would be ahead of itself
          obtain ⟨k, hk⟩ := List.getElem?_of_mem hj
          cases k with
          | zero =>
            have h1 : (stFst (l1 ++ (j, B, nw) :: l2'))[(stFst l1).length]? = some j := by rw [stFst_app, List.getElem?_append_right (by omega)]; simp [stFst]
            have h2 : (stFst (l1 ++ (j, B, nw) :: l2'))[(stFst l1).length + 1]? = some j := by
              rw [stFst_app, List.getElem?_append_right (by omega), show (stFst l1).length + 1 - (stFst l1).length = 1 from by omega]
              simp only [stFst, List.getElem?_cons_succ]; exact hk
            have hch := c.chain
            rw [x1] at hch
            have := hanc j (chainOk_spec _ _ j j hch h1 h2)
            rw [hi] at this; cases this
          | succ k =>
            have hkl : k < (stFst l2').length := by have := (List.getElem?_eq_some_iff.1 hk).1; omega
            have h1 : (stFst (l1 ++ (j, B, nw) :: l2'))[(stFst l1).length + (k + 1)]? = some (stFst l2')[k] := by
              rw [stFst_app, List.getElem?_append_right (by omega), show (stFst l1).length + (k + 1) - (stFst l1).length = k + 1 from by omega]
              simp only [stFst, List.getElem?_cons_succ]; exact List.getElem?_eq_getElem hkl
            have h2 : (stFst (l1 ++ (j, B, nw) :: l2'))[(stFst l1).length + (k + 1) + 1]? = some j := by
              rw [stFst_app, List.getElem?_append_right (by omega), show (stFst l1).length + (k + 1) + 1 - (stFst l1).length = k + 1 + 1 from by omega]
              simp only [stFst, List.getElem?_cons_succ]; exact hk
            have hch := c.chain
            rw [x1] at hch
            have := hanc _ (chainOk_spec _ _ _ j hch h1 h2)
            rw [x4 _ (by simp [stFst, List.getElem_mem hkl])] at this; cases this
        rw [hD', hjx, beq_ne hne]; rfl
      · intro r hr
        obtain ⟨h1, h2⟩ := (hp' r).1 hr
        obtain ⟨r1, r2, r3, r4, r5, r6, r7, r8, r9⟩ := x7 r h1
        refine ⟨r1, hDk _ r2, ?_, r4, Nat.lt_of_lt_of_le r5 hst.size, hblk2 r hr, ?_, hleft r h1 h2, OR_mono hlex ?_ r9⟩
        · simp only [news, List.append_assoc] at r3
          rcases List.mem_append.1 r3 with h3 | h3
          · exact absurd h3 h2
          · exact h3
        · intro ad u hu
          rcases hst.sfresh ad u hu with h3 | h3 | ⟨b0, o0, p0, k1, k2, k3, k4⟩
          · exact r7 ad u h3
          · omega
          · have := hblk r h1 h2 b0 p0 k3; omega
        · exact hst.frame _ r5 fun b o' q hb hal hq => hblk r h1 h2 b q hq
      · intro j hj hdj
        have hj' : j ∈ news ((i, B, nw) :: l2') ++ s.new := by simp only [news, List.append_assoc]; exact List.mem_append.2 (.inr hj)
        rcases hDn j hdj with hdj | rfl
        · obtain ⟨r, hr, hro⟩ := x8 j hj' hdj
          refine ⟨r, (hp' r).2 ⟨hr, fun hin => ?_⟩, hro⟩
          have hlt := hgone r hr hin
          obtain ⟨id, body, q1, q2⟩ := hc.ids c.di.allocs j hj
          obtain ⟨r1, _⟩ := x7 r hr
          rw [hro] at r1
          obtain ⟨rfl, _⟩ := r1.uniq q1
          omega
        · obtain ⟨g1', _⟩ := hinew hj'
          rw [hk3] at g1'; cases g1'
  by_cases hwant : wantedE ops.toList env o = true
  · rw [hw, if_pos hwant]
    left
    rcases kind_cases o with hk | hk | hk | hk
    · -- values alone
      obtain ⟨H, hp⟩ := f2 hwant (by omega) (by omega)
      rw [pure0 hk H B] at hp
      obtain ⟨y, h1, h2⟩ := apure'_sound (x5.rel.ro.le (pex_le sn ι pend)) hρ hp
      unfold Oper.wp
      rw [h1, Oper.upon_value]
      exact quiet (fun h => by omega) (by omega) y h2
    · -- reads memory
      have hst := stagesOk_spec ops.toList 0 i o c.stages ho hk env v (by simpa using hat) hwant
      simp only [Nat.zero_add] at hst
      have hB : curB l2 s.base = B := by
        cases x2 with
        | nil => rfl
        | cons _ _ _ => rfl
      have hcl1 : ∀ e, D e = true → bit ((ancs ops.toList []).getD e 0) i = true → D i = true := fun e he hb => by
        have hel : e < ops.toList.length := by
          rcases Nat.lt_or_ge e ops.toList.length with h | h
          · exact h
          · have : (ancs ops.toList []).getD e 0 = 0 := by simp [List.getD, List.getElem?_eq_none (by rw [anc_length]; exact h)]
            rw [this, bit_zero] at hb; cases hb
        exact closed_anc hD e i _ (List.getElem?_eq_getElem hel) (fun x hx hbx => hD e _ (List.getElem?_eq_getElem hel) he x hx hbx) hb
      rcases hst with hst | hst
      rotate_left
      · rw [x1, mapE_app] at hst
        have hp := stages_at (D := D) hi hanc hcl1 _ _ _ hst (by rw [mapE_fst]; exact x3) (by rw [mapE_fst]; exact x4)
        rw [mapE_cur, hB] at hp
        have hro : RO sn (pex ι pend) (earlyB ((ancs ops.toList []).getD i 0) s.base s.new s.heap B) W := by
          have ro := x5.rel.ro.le (pex_le sn ι pend)
          unfold earlyB
          split
          · rename_i hlen
            have hlen := Nat.eq_of_beq_eq_true hlen
            have key : ∀ b o, B.length ≤ b → (B ++ takeA ((ancs ops.toList []).getD i 0) s.new (s.heap.drop s.base.length))[b]? = some o → ∃ r ∈ pend, r.id = b ∧ o.body = r.body ∧ pex ι pend b = some r.pl := by
              intro b o hb ho
              rw [List.getElem?_append_right hb] at ho
              obtain ⟨j, g1, g2, g3⟩ := takeA_get _ _ _ _ ho
              rw [List.getElem?_drop] at g3
              obtain ⟨body, g4, g5⟩ := c.di.allocs.get _ _ g1
              rw [g5] at g3
              simp at g3; subst g3
              obtain ⟨r, hr, hro⟩ := x8 j (List.mem_append.2 (.inr (List.mem_of_getElem? g1))) (hanc j g2)
              obtain ⟨r1, r2, r3, r4, r5, r6, r7, r8, r9⟩ := x7 r hr
              rw [hro] at r1
              obtain ⟨u1, u2⟩ := r1.uniq g4
              have hid : r.id = b := by omega
              refine ⟨r, hr, hid, u2.symm, ?_⟩
              rw [← hid]
              refine pex_pend x6 hr ?_
              cases hq : ι r.id with
              | none => rfl
              | some q => have := (x5.rel.dom r.id).2 ⟨q, hq⟩; omega
            refine ⟨fun b hb => ?_, fun b o p hb hal hp => ?_, ro.snap⟩
            · rcases Nat.lt_or_ge b B.length with h | h
              · exact ro.pl b h
              · obtain ⟨r, _, _, _, hx⟩ := key b _ h (List.getElem?_eq_getElem hb)
                exact ⟨_, hx⟩
            · rcases Nat.lt_or_ge b B.length with h | h
              · rw [List.getElem?_append_left h] at hb
                exact ro.obj b o p hb hal hp
              · obtain ⟨r, hr, _, hbo, hx⟩ := key b o h hb
                rw [hx] at hp; simp at hp; subst hp
                obtain ⟨r1, r2, r3, r4, r5, r6, r7, r8, r9⟩ := x7 r hr
                rw [hbo]; exact r9
          · exact ro
        obtain ⟨y, h1, h2⟩ := apure'_sound hro hρ hp
        unfold Oper.wp
        rw [h1, Oper.upon_value]
        exact quiet (fun h => by omega) (by omega) y h2
      rw [x1] at hst
      have hp := stages_at (D := D) hi hanc hcl1 l1 l2 s.base hst x3 x4
      rw [hB] at hp
      obtain ⟨y, h1, h2⟩ := apure'_sound (x5.rel.ro.le (pex_le sn ι pend)) hρ hp
      unfold Oper.wp
      rw [h1, Oper.upon_value]
      exact quiet (fun h => by omega) (by omega) y h2
    · -- makes a block
      have hin : i ∈ news l2 ++ s.new := by
        rcases f4 hk hwant with h1 | ⟨st, h1, h2⟩
        · simp [h1]
        · rw [x1] at h1
          rcases List.mem_append.1 h1 with h1 | h1
          · exfalso
            have hch := c.di.chain
            obtain ⟨H, B', he⟩ := hch.mem st (by rw [x1]; simp [h1])
            obtain ⟨o2, env2, v2, g1, g2, g3, _⟩ := he.ex
            have hDe := x3 st.1 (stFst_mem h1)
            have := closed_anc hD st.1 i o2 g1.op (fun x hx hbx => hD st.1 o2 g1.op hDe x hx hbx) (allBit_spec g3 i h2)
            rw [hi] at this; cases this
          · exact List.mem_append.2 (.inl (news_mem.2 ⟨st, h1, h2⟩))
      obtain ⟨id, body, hid, hidl⟩ := hnews i hin
      obtain ⟨o2, env2, mk, g1, g2, g3, g4⟩ := hid
      obtain ⟨rfl, rfl, hvm⟩ := hat.uniq g1
      obtain ⟨y, ob, n, h1, h2, h3⟩ := aallocF_sound (P := P) hρ g4 W
      unfold Oper.wp
      rw [h1, Oper.upon_value]
      have hidn : ι id = none := by
        cases hq : ι id with
        | none => rfl
        | some q => have := (x5.rel.dom id).2 ⟨q, hq⟩; omega
      let r0 : PRec := ⟨i, id, W.heap.size, n, body⟩
      have hnew : ∀ r ∈ pend, r.id ≠ id ∧ r.pl.blk ≠ W.heap.size := by
        intro r hr
        obtain ⟨r1, r2, r3, r4, r5, _⟩ := x7 r hr
        refine ⟨?_, by omega⟩
        rintro rfl
        have := x2.inj c.di.allocs r.op r3 i hin _ _ _ r1 ⟨_, _, _, g1, g2, g3, g4⟩
        rw [this, hi] at r2; cases r2
      have hap' : Apart (r0 :: pend) := by
        unfold Apart
        rw [List.pairwise_cons]
        exact ⟨fun r hr => ⟨Ne.symm (hnew r hr).2, Ne.symm (hnew r hr).1⟩, x6⟩
      have hlex : Le sn sn (pex ι pend) (pex ι (r0 :: pend)) := by
        refine ⟨fun _ _ h => h, fun b q hq => ?_⟩
        rcases pex_case hq with hq1 | ⟨hn1, r, hr, hid', rfl⟩
        · exact (pex_le sn ι _).ι b q hq1
        · have := pex_pend (ι := ι) hap' (List.mem_cons_of_mem _ hr) (by rw [hid']; exact hn1)
          rw [hid'] at this; exact this
      have hst := Stp.ext x5.rel (Ext.alloc W ob)
      have hold : ∀ b, b < W.heap.size → (W.alloc ob).heap[b]? = W.heap[b]? := fun b hb => Below.heap_alloc W ob b hb
      have hv : VR sn (pex ι (r0 :: pend)) v y := by
        rw [hvm]
        exact h3 sn _ id (pex_pend hap' (r := r0) (by simp) hidn)
      refine hK _ _ ⟨sn, ι, l1, l2, B, r0 :: pend, x1, x2, fun j hj => hDk j (x3 j hj), fun j hj => ?_, x5.trans hR0 hst, hap', fun r hr => ?_, fun j hj hdj => ?_, tmps_next hlex hv hnext hsz' x9, by rw [Act.put_defers']; exact x10⟩ (hsput y)
      · have hne : j ≠ i := by rintro rfl; have := hist hj; omega
        rw [hD', x4 j hj, beq_ne hne]; rfl
      · rcases List.mem_cons.1 hr with rfl | hr
        · refine ⟨⟨_, _, _, g1, g2, g3, g4⟩, hDi, hin, x5.size, by simp [r0, PRec.pl], fun b q hq => ?_, fun ad u hu => ?_, hidl, OR_mono hlex rfl h2⟩
          · have := x5.rel.blk b q hq; simp [r0, PRec.pl]; omega
          · have := (x5.rel.snap ad u hu).1; simp [r0, PRec.pl]; omega
        · obtain ⟨r1, r2, r3, r4, r5, r6, r7, r8, r9⟩ := x7 r hr
          exact ⟨r1, hDk _ r2, r3, r4, by simp; omega, r6, r7, r8, OR_mono hlex (hold _ r5) r9⟩
      · rcases hDn j hdj with hdj | rfl
        · obtain ⟨r, hr, hro⟩ := x8 j hj hdj
          exact ⟨r, by simp [hr], hro⟩
        · exact ⟨r0, by simp, rfl⟩
    · obtain ⟨nw, l2', H, B', ι', rfl, s1, henv', g6, g7, fin⟩ := effect hk
      exact aop_sound hn hO hgl s1.rel (evalE_sound hgl henv') (g6 hwant) fun y W' sn2 ι2 hy hst => fin y W' sn2 ι2 hy hst
  · have hwf : wantedE ops.toList env o = false := by simpa using hwant
    rw [hw, if_neg hwant]
    by_cases hk : kind o = 3
    · obtain ⟨nw, l2', H, B', ι', rfl, s1, henv', g6, g7, fin⟩ := effect hk
      obtain ⟨rfl, rfl⟩ := g7 hwf
      exact fin undef W sn ι' vr_undef (Stp.refl s1.rel)
    · have := f1 hwf; subst this
      exact quiet (fun _ => hwf) hk undef vr_undef

theorem sim_all (hn : NoNum P) (hO : OrcSound P gl orc) (hg0 : GlOK gl sn0) (hR0 : R sn0 ι0 H0 W0) (c : Checked P gl orc ops.toList tm H0 s) {Q : Exit → Act → World → Prop}
    {N : Nat} (hQ : ∀ D a W, (∀ i, i < ops.size → D i = true) → Sim P gl orc ops.toList (ancs ops.toList []) tm s sn0 ι0 H0 W0 ds D a W → a.tmps.size = N → Q .normal a W) :
    ∀ (fuel : Nat) (listed : Array Bool) (a : Act) (W : World), listed.size = ops.size → ops.size ≤ fuel + (listed.toList.filter id).length → Closed ops.toList (fun i => listed.getD i false) →
      Sim P gl orc ops.toList (ancs ops.toList []) tm s sn0 ι0 H0 W0 ds (fun i => listed.getD i false) a W → (∀ o ∈ ops.toList, ∀ d, o.dst = some d → d < a.tmps.size) → a.tmps.size = N → wpAny P .any ops Q fuel listed a W := by
  -- nobody is ready: all have run
  have hend : ∀ (listed : Array Bool), listed.size = ops.size → Region.ready .any ops listed = [] → ∀ i, i < ops.size → listed.getD i false = true := by
    intro listed hls hr i
    induction i using Nat.strongRecOn with
    | _ i ih =>
      intro hi
      cases hq : listed.getD i false with
      | true => rfl
      | false =>
        exfalso
        have hq' : listed.getD i true = false := by
          have hl : i < listed.size := by omega
          simp [Array.getD, hl] at hq ⊢; exact hq
        have hx : ops[i]? = some ops[i] := Array.getElem?_eq_getElem hi
        have : i ∈ Region.ready .any ops listed := by
          rw [mem_ready]
          refine ⟨hq', ops[i], hx, fun e he hb => ?_⟩
          have hbit := anc_direct (ops := ops.toList) (i := i) (by rw [Array.getElem?_toList]; exact hx) (Array.mem_toList_iff.2 he) hb
          have hbd := boundOk_spec (ancs ops.toList []) 0 i c.bound (by rw [anc_length]; simpa using hi)
          simp only [Nat.zero_add] at hbd
          have := bit_lt hbd hbit
          exact ih e.on this (by omega)
        rw [hr] at this; simp at this
  intro fuel
  induction fuel with
  | zero =>
    intro listed a W hls hcnt hcl hsim hsz hN
    have hall : ∀ i, i < ops.size → listed.getD i false = true := by
      intro i hi
      have hlen : (listed.toList.filter id).length = listed.toList.length := by
        have := List.length_filter_le id listed.toList
        simp at this ⊢; omega
      have := List.length_filter_eq_length_iff.1 hlen
      have hl : i < listed.size := by omega
      have h1 := this listed[i] (by simp)
      simp [Array.getD, hl]; simpa using h1
    refine ⟨?_, hQ _ a W hall hsim hN⟩
    rw [List.eq_nil_iff_forall_not_mem]
    intro i hi
    rw [mem_ready] at hi
    obtain ⟨h1, o, ho, _⟩ := hi
    have hlt : i < ops.size := (Array.getElem?_eq_some_iff.1 ho).1
    have h2 := hall i hlt
    have hl : i < listed.size := by omega
    simp [Array.getD, hl] at h1 h2
    rw [h1] at h2; cases h2
  | succ fuel ih =>
    intro listed a W hls hcnt hcl hsim hsz hN
    refine ⟨fun hr => hQ _ a W (hend listed hls hr) hsim hN, fun i hi => ?_⟩
    obtain ⟨h1, o, ho, hpre⟩ := mem_ready.1 hi
    have hlt : i < ops.size := (Array.getElem?_eq_some_iff.1 ho).1
    have hl : i < listed.size := by omega
    have hif : listed.getD i false = false := by simp [Array.getD, hl] at h1 ⊢; exact h1
    have hol : ops.toList[i]? = some o := by rw [Array.getElem?_toList]; exact ho
    have hanc : ∀ k, bit ((ancs ops.toList []).getD i 0) k = true → listed.getD k false = true := fun k hk =>
      closed_anc hcl i k o hol (fun e he hb => hpre e (Array.mem_toList_iff.1 he) hb) hk
    have hD' : ∀ k, (listed.setIfInBounds i true).getD k false = (listed.getD k false || Nat.beq k i) := by
      intro k
      by_cases hki : k = i
      · subst hki; simp [hl]
      · rw [getD_set_ne false (Ne.symm hki), beq_ne hki]; simp
    refine sim_step hn hO hg0 hR0 c hcl hif hol hanc hsim hsz hD' fun a' W' hs' hsz' => ?_
    refine ih _ a' W' (by simpa using hls) ?_ ?_ hs' (fun o ho d hd => by rw [hsz']; exact hsz o ho d hd) (hsz'.trans hN)
    · -- one more has run
      have hcount : ((listed.setIfInBounds i true).toList.filter id).length = (listed.toList.filter id).length + 1 := by
        rw [Array.toList_setIfInBounds]
        have hli : listed.toList[i]? = some false := by
          rw [Array.getElem?_toList, Array.getElem?_eq_getElem hl]
          simp [Array.getD, hl] at hif; rw [hif]
        exact filter_set _ _ hli
      omega
    · intro k o' ho' hk e he hb
      show (listed.setIfInBounds i true).getD e.on false = true
      have hk : (listed.setIfInBounds i true).getD k false = true := hk
      rw [hD'] at hk ⊢
      simp only [Bool.or_eq_true] at hk ⊢
      rcases hk with hk | hk
      · exact .inl (hcl k o' ho' hk e he hb)
      · have := Nat.eq_of_beq_eq_true hk; subst this
        rw [hol] at ho'; simp at ho'; subst ho'
        exact .inl (hpre e (Array.mem_toList_iff.1 he) hb)

theorem adraw_sound (hm : P.follows .mixedOrders = true) (hn : NoNum P) (hO : OrcSound P gl orc) {sn : Snap} {ι : IMap} {H : AHeap} {W : World} {a : Act} (hg : GlOK gl sn) (hR : R sn ι H W) (ht : TRel sn ι tm a) {tm' : Tr} {H' : AHeap}
    (h : adraw P gl orc ops.toList tm H = some (tm', H')) {Q : Exit → Act → World → Prop} (hQ : ∀ a' W' sn' ι', Stp sn ι H W sn' ι' H' W' → TRel sn' ι' tm' a' → a'.defers = a.defers → Q .normal a' W') (id : Nat) :
    (Code.region id ops true).wp P Q a W := by
  unfold adraw at h
  simp only at h
  split at h <;> try (simp at h; done)
  rename_i hc1
  split at h <;> try (simp at h; done)
  rename_i s hs
  split at h <;> try (simp at h; done)
  rename_i hc2
  split at h <;> simp at h
  rename_i tm1 hfin
  obtain ⟨rfl, rfl⟩ := h
  simp only [Bool.and_eq_true] at hc1 hc2
  have c : Checked P gl orc ops.toList tm H s := ⟨druns_DI (DI.start H) hs, hc1.1, hc1.2, hc2.1.1, Nat.eq_of_beq_eq_true hc2.1.2, hc2.2⟩
  obtain ⟨hf1, hf2⟩ := finTmps_spec _ _ _ _ hfin
  have hst0 := Stp.ext hR (Ext.drew W)
  have hR0 := hst0.rel
  have hrep : ∀ i, (Array.replicate ops.size false).getD i false = false := fun i => by
    by_cases hi : i < ops.size <;> simp [Array.getD, hi]
  refine wp_region_any hm ?_
  refine sim_all (sn0 := sn) (ι0 := ι) (W0 := W.drew) (ds := a.defers) hn hO hg hR0 c ?_ ops.size _ a _ (by simp) (by omega) ?_ ?_ ?_ rfl
  · intro D a' W' hall hsim hN
    obtain ⟨sn', ι', l1, l2, B, pend, x1, x2, x3, x4, x5, x6, x7, x8, x9, x10⟩ := hsim.ex
    have hl2 : l2 = [] := by
      cases l2 with
      | nil => rfl
      | cons y l =>
        obtain ⟨p, q, r⟩ := y
        exfalso
        have h1 := x4 p (by simp [stFst])
        obtain ⟨_, _, he⟩ := x2.mem (p, q, r) (by simp)
        obtain ⟨o2, _, _, g1, _⟩ := he.ex
        have hp : p < ops.size := by have := (List.getElem?_eq_some_iff.1 g1.op).1; simpa using this
        rw [hall p hp] at h1; cases h1
    subst hl2
    cases x2
    have hnewD : ∀ j ∈ s.new, ∃ r ∈ pend, r.op = j := by
      intro j hj
      refine x8 j (by simp [news, hj]) ?_
      obtain ⟨_, _, ⟨o2, _, _, g1, _⟩, _⟩ := c.di.allocs.ids j hj
      exact hall j (by have := (List.getElem?_eq_some_iff.1 g1.op).1; simpa using this)
    obtain ⟨ι2, s1, e1, e2, e3⟩ := absorb_all c.di.allocs x6 x5 (fun r hr => by
        obtain ⟨r1, r2, r3, r4, r5, r6, r7, r8, r9⟩ := x7 r hr
        exact ⟨r1, r4, r5, r6, r7, r8, r9⟩) hnewD
    refine hQ a' W' sn' ι2 (hst0.trans hR s1) ?_ x10
    refine ⟨?_, fun t hx => by rw [hN]; exact ht.2 t (by rw [finTmps_tex hfin] at hx; exact hx)⟩
    intro t u hu
    rw [hf2 t _ rfl] at hu
    have hD : lastW s.vals D t ops.toList 0 (tget tm t) = lastW s.vals (fun _ => true) t ops.toList 0 (tget tm t) := lastW_congr _ _ _ fun k o hk _ => by
      simp only [Nat.zero_add]
      exact hall k (by have := (List.getElem?_eq_some_iff.1 hk).1; simpa using this)
    rw [← hD] at hu
    obtain ⟨y, h1, h2⟩ := x9 t u hu
    refine ⟨y, h1, VR_mono ⟨fun _ _ h => h, fun b q hq => ?_⟩ _ _ h2⟩
    rcases pex_case hq with hq1 | ⟨hn1, r, hr, hid, rfl⟩
    · exact e3.ι b q hq1
    · refine e2 b _ hq ?_
      obtain ⟨r1, r2, r3, _⟩ := x7 r hr
      simp only [news, List.nil_append] at r3
      obtain ⟨id', body, q1, _, q3⟩ := c.di.allocs.ids r.op r3
      obtain ⟨rfl, _⟩ := r1.uniq q1
      omega
  · intro i o ho hi
    have hi' := (hrep i).symm.trans hi; cases hi'
  · refine ⟨⟨sn, ι, [], s.sts, H, [], rfl, c.di.chain, by simp [stFst], fun i _ => hrep i, Stp.refl hR0, List.Pairwise.nil, by simp, fun i _ hi => (by have h2 := (hrep i).symm.trans hi; cases h2), ?_, rfl⟩⟩
    intro t u hu
    rw [lastW_none _ _ _ (fun k o _ _ => hrep _)] at hu
    obtain ⟨y, h1, h2⟩ := ht.1 t u hu
    exact ⟨y, h1, VR_mono (pex_le sn ι []) _ _ h2⟩
  · intro o ho d hd
    exact ht.2 d (hf1 o ho d hd)
end draw
end Go.Abs
