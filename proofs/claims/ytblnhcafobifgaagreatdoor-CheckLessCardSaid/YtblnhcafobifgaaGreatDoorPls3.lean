/-
  Texts of this proof, one behind the other (part 3).
-/
import Derived.Test.YtblnhcafobifgaaGreatDoorPls2
import Derived.LoopN
import Derived.Scope
import Derived.LoopNIn
import Derived.RangeFuncLeaves
import Derived.ProofKit
import Derived.OpenShut
import Derived.IntWalk


section

set_option linter.unusedSimpArgs false
set_option linter.unusedVariables false
namespace Go.Abs
open Go.RowKit
theorem refsB_cells {sn : Snap} {ι ι' : IMap} : ∀ (cs : List AV) (acc : List Nat), (∀ b, b ∈ refsL cs acc → ∀ p, ι b = some p → ι' b = some p) → ∀ (i : Nat) (c : AV) (v : Value), cs[i]? = some c → VR sn ι c v → VR sn ι' c v
  | [], acc, h, i, c, v, hc, hv => by simp at hc
  | x :: cs, acc, h, 0, c, v, hc, hv => by simp at hc; subst hc; exact VR_refs x (refsL cs acc) v (fun b hb => h b (by simpa [refsL] using hb)) hv
  | x :: cs, acc, h, i + 1, c, v, hc, hv => refsB_cells cs acc (fun b hb => h b (by simp only [refsL]; exact refs_acc x _ b hb)) i c v (by simpa using hc) hv
theorem ER_refs {sn : Snap} {ι ι' : IMap} : ∀ (es : List (AV × AV × Nat)) (acc : List Nat) (l : List MapEntry), (∀ b, b ∈ refsE es acc → ∀ p, ι b = some p → ι' b = some p) → ER sn ι es l → ER sn ι' es l
  | [], acc, l, h, e => by simpa [ER] using e
  | (k, v, n) :: es, acc, l, h, e => by
    simp only [ER] at *; obtain ⟨x, l', h1, h2, h3, h4, h5⟩ := e
    exact ⟨x, l', h1, VR_refs k (refs v (refsE es acc)) _ (fun b hb => h b (by simpa [refsE] using hb)) h2,
      VR_refs v (refsE es acc) _ (fun b hb => h b (by simp only [refsE]; exact refs_acc k _ b hb)) h3, h4,
      ER_refs es acc l' (fun b hb => h b (by simp only [refsE]; exact refs_acc k _ b (refs_acc v _ b hb))) h5⟩
theorem TSR_refs {sn : Snap} {ι ι' : IMap} {a : Array Value} : ∀ (ts : List (Nat × AV)) (acc : List Nat), (∀ b, b ∈ refsT ts acc → ∀ p, ι b = some p → ι' b = some p) → TSR sn ι ts a → TSR sn ι' ts a
  | [], acc, h, e => trivial
  | x :: l, acc, h, ⟨⟨v, h1, h2⟩, h3⟩ => ⟨⟨v, h1, VR_refs x.2 (refsT l acc) v (fun b hb => h b (by simpa [refsT] using hb)) h2⟩,
      TSR_refs l acc (fun b hb => h b (by simp only [refsT]; exact refs_acc x.2 _ b hb)) h3⟩
theorem OR_refs {sn : Snap} {ι ι' : IMap} {W : World} : ∀ (o : ABody) (p : Place), (∀ b, b ∈ refsB o [] → ∀ q, ι b = some q → ι' b = some q) → OR sn ι W o p → OR sn ι' W o p
  | .cells cs ty, p, h, e => by
    simp only [OR] at *; obtain ⟨arr, h1, h2, h3, h4⟩ := e
    refine ⟨arr, h1, h2, h3, fun i c hc => ?_⟩
    obtain ⟨v, e1, e2⟩ := h4 i c hc
    exact ⟨v, e1, refsB_cells cs [] (fun b hb => h b (by simpa [refsB] using hb)) i c v hc e2⟩
  | .map es clock, p, h, e => by
    simp only [OR] at *; obtain ⟨m, h1, h2⟩ := e
    exact ⟨m, h1, ER_refs es [] _ (fun b hb => h b (by simpa [refsB] using hb)) h2⟩
  | .siter s ps, p, h, e => by simpa [OR] using e
  | .loop g ts, p, h, e => by
    simp only [OR] at *; obtain ⟨m, h1, h2, h3, h4⟩ := e
    exact ⟨m, h1, h2, h3, TSR_refs ts [] (fun b hb => h b (by simpa [refsB] using hb)) h4⟩
theorem Stp.absorb {sn0 sn : Snap} {ι0 ι : IMap} {H0 B : AHeap} {W0 W : World} (h : Stp sn0 ι0 H0 W0 sn ι B W) (p : Place) (hp0 : p.sh = 0) (hw0 : W0.heap.size ≤ p.blk) (hlt : p.blk < W.heap.size)
    (hno : ∀ b q, ι b = some q → q.blk ≠ p.blk) (hsn : ∀ a v, sn a = some v → a.block ≠ p.blk) (body : ABody) (ho : OR sn ι W body p) :
    Stp sn0 ι0 H0 W0 sn (upd ι B.length p) (B ++ [⟨true, B.length, 0, body⟩]) W := by
  have hR := h.rel
  have hn := hR.fresh_none
  have hle : Le sn sn ι (Abs.upd ι B.length p) := Le.upd hn _
  have hcase : ∀ b q, Abs.upd ι B.length p b = some q → (b = B.length ∧ q = p) ∨ (b < B.length ∧ ι b = some q) := by
    intro b q hq
    unfold Abs.upd at hq
    split at hq
    · simp at hq; exact .inl ⟨by assumption, hq.symm⟩
    · exact .inr ⟨(hR.dom b).2 ⟨q, hq⟩, hq⟩
  have hget : ∀ (b : Nat) (x : AObj), (B ++ [⟨true, B.length, 0, body⟩])[b]? = some x → (b = B.length ∧ x = ⟨true, B.length, 0, body⟩) ∨ (b < B.length ∧ B[b]? = some x) := by
    intro b x hx
    rw [List.getElem?_append] at hx
    split at hx
    · exact .inr ⟨by assumption, hx⟩
    · rw [List.getElem?_singleton] at hx; split at hx
      · simp at hx; exact .inl ⟨by omega, hx.symm⟩
      · cases hx
  refine ⟨⟨?_, ?_, ?_, ?_, ?_, fun b x q hb hq hz => by
      rcases hcase b q hq with ⟨_, rfl⟩ | ⟨hlt', hq⟩
      · exact hp0
      · rcases hget b x hb with ⟨rfl, _⟩ | ⟨_, hb⟩
        · omega
        · exact hR.shz b x q hb hq hz⟩, h.le.trans hle, ?_, h.frame, h.size, h.os, h.tape, h.output, h.sfresh, ?_⟩
  · intro b
    simp only [List.length_append, List.length_singleton]
    constructor
    · intro hb
      by_cases hb' : b < B.length
      · obtain ⟨q, hq⟩ := (hR.dom b).1 hb'; exact ⟨q, hle.ι _ _ hq⟩
      · exact ⟨_, by unfold Abs.upd; rw [if_pos (by omega)]⟩
    · rintro ⟨q, hq⟩
      rcases hcase b q hq with ⟨rfl, _⟩ | ⟨hb, _⟩ <;> omega
  · intro b q hq
    rcases hcase b q hq with ⟨_, rfl⟩ | ⟨_, hq⟩
    · exact hlt
    · exact hR.blk b q hq
  · intro b x q hb ha hq
    rcases hget b x hb with ⟨rfl, rfl⟩ | ⟨hl, hb⟩
    · rcases hcase _ q hq with ⟨_, rfl⟩ | ⟨hl, _⟩
      · exact OR_mono hle rfl ho
      · omega
    · rcases hcase _ q hq with ⟨rfl, rfl⟩ | ⟨_, hq⟩
      · omega
      · exact OR_mono hle rfl (hR.obj b x q hb ha hq)
  · intro b b' x x' q q' hb hb' hq hq' e
    rcases hcase b q hq with ⟨rfl, rfl⟩ | ⟨hl, hq1⟩ <;> rcases hcase b' q' hq' with ⟨rfl, rfl⟩ | ⟨hl', hq1'⟩
    · rw [hb] at hb'; simp at hb'; subst hb'; exact ⟨rfl, rfl⟩
    · exact absurd e.symm (hno b' q' hq1')
    · exact absurd e (hno b q hq1)
    · have hq := hq1
      have hq' := hq1'
      rcases hget b x hb with ⟨rfl, _⟩ | ⟨_, hb⟩
      · omega
      rcases hget b' x' hb' with ⟨rfl, _⟩ | ⟨_, hb'⟩
      · omega
      exact hR.sep b b' x x' q q' hb hb' hq hq' e
  · intro a v hv
    obtain ⟨h1, h2, h3⟩ := hR.snap a v hv
    refine ⟨h1, h2, fun b x q hb ha hq => ?_⟩
    rcases hcase b q hq with ⟨rfl, rfl⟩ | ⟨hl, hq⟩
    · exact Ne.symm (hsn a v hv)
    · rcases hget b x hb with ⟨rfl, _⟩ | ⟨_, hb⟩
      · omega
      exact h3 b x q hb ha hq
  · intro b q hq
    rcases hcase b q hq with ⟨rfl, rfl⟩ | ⟨_, hq⟩
    · exact .inr (.inl hw0)
    · exact h.fresh b q hq
  · intro b o hb
    obtain ⟨o', e1, e2⟩ := h.evo b o hb
    have hl : b < B.length := (List.getElem?_eq_some_iff.1 e1).1
    exact ⟨o', by rw [List.getElem?_append_left hl]; exact e1, e2⟩
structure PRec where
  op : Nat
  id : Nat
  blk : Nat
  n : Nat
  body : ABody
def PRec.pl (r : PRec) : Place := ⟨r.blk, 0, r.n⟩
def pex (ι : IMap) (pend : List PRec) : IMap := fun b => match ι b with | some q => some q | none => (pend.find? fun r => Nat.beq r.id b).map (·.pl)
theorem pex_le (sn : Snap) (ι : IMap) (pend : List PRec) : Le sn sn ι (pex ι pend) := ⟨fun _ _ h => h, fun b p h => by simp [pex, h]⟩
theorem pex_case {ι : IMap} {pend : List PRec} {b : Nat} {q : Place} (h : pex ι pend b = some q) : ι b = some q ∨ (ι b = none ∧ ∃ r ∈ pend, r.id = b ∧ r.pl = q) := by
  unfold pex at h
  split at h
  · exact .inl (by rw [← h]; assumption)
  · rename_i hn
    simp at h
    obtain ⟨r, hr, rfl⟩ := h
    exact .inr ⟨hn, r, List.mem_of_find?_eq_some hr, by have := List.find?_some hr; simpa using this, rfl⟩
def Apart (pend : List PRec) : Prop := pend.Pairwise fun r r' => r.pl.blk ≠ r'.pl.blk ∧ r.id ≠ r'.id
theorem apart_find : ∀ {pend : List PRec}, Apart pend → ∀ r ∈ pend, pend.find? (fun r' => Nat.beq r'.id r.id) = some r
  | [], h, r, hr => by simp at hr
  | x :: l, h, r, hr => by
    unfold Apart at h
    rw [List.pairwise_cons] at h
    rcases List.mem_cons.1 hr with rfl | hr
    · simp
    · have hne : x.id ≠ r.id := (h.1 r hr).2
      have : Nat.beq x.id r.id = false := by cases hq : Nat.beq x.id r.id with | false => rfl | true => exact absurd (Nat.eq_of_beq_eq_true hq) hne
      rw [List.find?_cons, this]
      exact apart_find h.2 r hr
theorem apart_ne {pend : List PRec} (h : Apart pend) {r r' : PRec} (hr : r ∈ pend) (hr' : r' ∈ pend) (hid : r.id ≠ r'.id) : r.pl.blk ≠ r'.pl.blk := by
  unfold Apart at h
  induction h with
  | nil => simp at hr
  | cons hx _ ih =>
    rcases List.mem_cons.1 hr with rfl | h1 <;> rcases List.mem_cons.1 hr' with rfl | h2
    · exact absurd rfl hid
    · exact (hx r' h2).1
    · exact Ne.symm (hx r h1).1
    · exact ih h1 h2
theorem pex_pend {ι : IMap} {pend : List PRec} (h : Apart pend) {r : PRec} (hr : r ∈ pend) (hn : ι r.id = none) : pex ι pend r.id = some r.pl := by
  simp [pex, hn, apart_find h r hr]
section sim
variable {P : Program} {gl : Glob} {orc : Orc} {ops : List Oper} {an : List Nat} {tm : Tr} {vals : List (Option AV)}
theorem At.uniq {i : Nat} {o o' : Oper} {env env' : List (Nat × AV)} {v v' : AV} (h : At ops an tm vals i o env v) (h' : At ops an tm vals i o' env' v') : o = o' ∧ env = env' ∧ v = v' := by
  have h1 := h.op; rw [h'.op] at h1; simp at h1; subst h1
  have h2 := h.env; rw [h'.env] at h2; simp at h2; subst h2
  have h3 := h.val; rw [h'.val] at h3; simp at h3; subst h3
  exact ⟨rfl, rfl, rfl⟩
def IdOf (P : Program) (gl : Glob) (ops : List Oper) (an : List Nat) (tm : Tr) (vals : List (Option AV)) (i id : Nat) (body : ABody) : Prop :=
  ∃ o env mk, At ops an tm vals i o env (mk id) ∧ kind o = 2 ∧ wantedE ops env o = true ∧ aallocF P (evalE gl env) o = some (mk, body)
theorem IdOf.uniq {i id id' : Nat} {body body' : ABody} (h : IdOf P gl ops an tm vals i id body) (h' : IdOf P gl ops an tm vals i id' body') : id = id' ∧ body = body' := by
  obtain ⟨o, env, mk, h1, h2, h3, h4⟩ := h
  obtain ⟨o', env', mk', k1, k2, k3, k4⟩ := h'
  obtain ⟨rfl, rfl, e⟩ := h1.uniq k1
  rw [h4] at k4; simp at k4; obtain ⟨rfl, rfl⟩ := k4
  exact ⟨aallocF_inj h4 e, rfl⟩
theorem Allocs.ids {B H : AHeap} {nw : List Nat} (k : Allocs P gl ops an tm vals B nw H) : ∀ i ∈ nw, ∃ id body, IdOf P gl ops an tm vals i id body ∧ B.length ≤ id ∧ id < H.length := by
  induction k with
  | nil => simp
  | snoc hk ha hkd hw he hr ih =>
    intro i hi
    rcases List.mem_append.1 hi with hi | hi
    · obtain ⟨id, body, h1, h2, h3⟩ := ih i hi
      exact ⟨id, body, h1, h2, by simp; omega⟩
    · simp at hi; subst hi
      have := hk.length
      exact ⟨_, _, ⟨_, _, _, ha, hkd, hw, he⟩, by omega, by simp⟩
theorem Allocs.inj {B H : AHeap} {nw : List Nat} (k : Allocs P gl ops an tm vals B nw H) : ∀ i ∈ nw, ∀ j ∈ nw, ∀ id b b', IdOf P gl ops an tm vals i id b → IdOf P gl ops an tm vals j id b' → i = j := by
  induction k with
  | nil => simp
  | snoc hk ha hkd hw he hr ih =>
    intro i hi j hj id b b' h1 h2
    have hnew : IdOf P gl ops an tm vals _ _ _ := ⟨_, _, _, ha, hkd, hw, he⟩
    rcases List.mem_append.1 hi with hi1 | hi1 <;> rcases List.mem_append.1 hj with hj1 | hj1
    · exact ih i hi1 j hj1 id b b' h1 h2
    · simp at hj1; subst hj1
      obtain ⟨rfl, _⟩ := h2.uniq hnew
      obtain ⟨id', _, k1, k2, k3⟩ := hk.ids i hi1
      obtain ⟨rfl, _⟩ := h1.uniq k1; omega
    · simp at hi1; subst hi1
      obtain ⟨rfl, _⟩ := h1.uniq hnew
      obtain ⟨id', _, k1, k2, k3⟩ := hk.ids j hj1
      obtain ⟨rfl, _⟩ := h2.uniq k1; omega
    · simp at hi1 hj1; rw [hi1, hj1]
def news : List (Nat × AHeap × List Nat) → List Nat
  | [] => []
  | (_, _, nw) :: l => nw ++ news l
theorem Chain.ids {B Bf H : AHeap} {l : List (Nat × AHeap × List Nat)} {nf : List Nat} (k : Chain P gl orc ops an tm vals B l Bf) (kf : Allocs P gl ops an tm vals Bf nf H) :
    ∀ i ∈ news l ++ nf, ∃ id body, IdOf P gl ops an tm vals i id body ∧ B.length ≤ id := by
  induction k with
  | nil B => intro i hi; simp [news] at hi; obtain ⟨id, b, h1, h2, _⟩ := kf.ids i hi; exact ⟨id, b, h1, h2⟩
  | cons ha he _ ih =>
    intro i hi
    simp only [news, List.append_assoc] at hi
    rcases List.mem_append.1 hi with hi | hi
    · obtain ⟨id, b, h1, h2, _⟩ := ha.ids i hi; exact ⟨id, b, h1, h2⟩
    · obtain ⟨id, b, h1, h2⟩ := ih kf i hi
      obtain ⟨o, env, v, _, _, _, _, hlen, _⟩ := he.ex
      have := ha.length
      exact ⟨id, b, h1, by omega⟩
theorem Chain.inj {B Bf H : AHeap} {l : List (Nat × AHeap × List Nat)} {nf : List Nat} (k : Chain P gl orc ops an tm vals B l Bf) (kf : Allocs P gl ops an tm vals Bf nf H) :
    ∀ i ∈ news l ++ nf, ∀ j ∈ news l ++ nf, ∀ id b b', IdOf P gl ops an tm vals i id b → IdOf P gl ops an tm vals j id b' → i = j := by
  induction k with
  | nil B => intro i hi j hj; simp [news] at hi hj; exact kf.inj i hi j hj
  | cons ha he hc ih =>
    intro i hi j hj id b b' h1 h2
    simp only [news, List.append_assoc] at hi hj
    obtain ⟨o, env, v, _, _, _, _, hlen, _⟩ := he.ex
    rcases List.mem_append.1 hi with hi | hi <;> rcases List.mem_append.1 hj with hj | hj
    · exact ha.inj i hi j hj id b b' h1 h2
    · obtain ⟨id1, _, k1, k2, k3⟩ := ha.ids i hi
      obtain ⟨id2, _, m1, m2⟩ := hc.ids kf j hj
      obtain ⟨rfl, _⟩ := h1.uniq k1
      obtain ⟨rfl, _⟩ := h2.uniq m1
      omega
    · obtain ⟨id1, _, k1, k2, k3⟩ := ha.ids j hj
      obtain ⟨id2, _, m1, m2⟩ := hc.ids kf i hi
      obtain ⟨rfl, _⟩ := h2.uniq k1
      obtain ⟨rfl, _⟩ := h1.uniq m1
      omega
    · exact ih kf i hi j hj id b b' h1 h2
theorem Chain.mem {B Bf : AHeap} {l : List (Nat × AHeap × List Nat)} (k : Chain P gl orc ops an tm vals B l Bf) : ∀ st ∈ l, ∃ H B', EffOK P gl orc ops an tm vals st.1 st.2.2 H B' := by
  induction k with
  | nil => simp
  | cons ha he _ ih =>
    intro st hst
    rcases List.mem_cons.1 hst with rfl | hst
    · exact ⟨_, _, he⟩
    · exact ih st hst
theorem absorb_all {sn0 sn : Snap} {ι0 ι : IMap} {H0 B H : AHeap} {W0 W : World} {nw : List Nat} (k : Allocs P gl ops an tm vals B nw H) {pend : List PRec} (hap : Apart pend) (h : Stp sn0 ι0 H0 W0 sn ι B W)
    (hp : ∀ r ∈ pend, IdOf P gl ops an tm vals r.op r.id r.body ∧ W0.heap.size ≤ r.pl.blk ∧ r.pl.blk < W.heap.size ∧ (∀ b q, ι b = some q → q.blk ≠ r.pl.blk) ∧ (∀ a v, sn a = some v → a.block ≠ r.pl.blk) ∧ B.length ≤ r.id ∧ OR sn (pex ι pend) W r.body r.pl)
    (hc : ∀ i ∈ nw, ∃ r ∈ pend, r.op = i) :
    ∃ ι', Stp sn0 ι0 H0 W0 sn ι' H W ∧ (∀ b q, ι' b = some q → ι b = some q ∨ ∃ r ∈ pend, r.id = b ∧ r.pl = q ∧ b < H.length) ∧ (∀ b q, pex ι pend b = some q → b < H.length → ι' b = some q) ∧ Le sn sn ι ι' := by
  induction k with
  | nil => exact ⟨ι, h, fun b q hq => .inl hq, fun b q hq hlt => by
      rcases pex_case hq with hq | ⟨hn, r, hr, hid, _⟩
      · exact hq
      · have := (hp r hr).2.2.2.2.2.1; omega, Le.refl _ _⟩
  | @snoc H nw i o env mk body hk ha hkd hw he hr ih =>
    obtain ⟨ι1, s1, e1, e2, e3⟩ := ih fun j hj => hc j (by simp [hj])
    obtain ⟨r, hrm, hro⟩ := hc i (by simp)
    obtain ⟨q1, q2, q3, q4, q5, q6, q7⟩ := hp r hrm
    have hidof : IdOf P gl ops an tm vals i H.length body := ⟨o, env, mk, ha, hkd, hw, he⟩
    rw [hro] at q1
    obtain ⟨hid, hbody⟩ := q1.uniq hidof
    have hno : ∀ b q, ι1 b = some q → q.blk ≠ r.pl.blk := by
      intro b q hq
      rcases e1 b q hq with hq | ⟨r', hr', hid', rfl, hlt⟩
      · exact q4 b q hq
      · exact apart_ne hap hr' hrm (by omega)
    have hor : OR sn ι1 W r.body r.pl := OR_refs _ _ (fun b hb q hq => e2 b q hq (by rw [hbody] at hb; exact allLt_spec hr b hb)) q7
    have hs := s1.absorb r.pl rfl q2 q3 hno q5 body (hbody ▸ hor)
    have hn1 := s1.rel.fresh_none
    refine ⟨upd ι1 H.length r.pl, hs, ?_, ?_, e3.trans (Le.upd hn1 _)⟩
    · intro b q hq
      unfold upd at hq
      split at hq
      · rename_i hb; simp at hq; exact .inr ⟨r, hrm, by omega, hq, by simp; omega⟩
      · rcases e1 b q hq with h1 | ⟨r', h1, h2, h3, h4⟩
        · exact .inl h1
        · exact .inr ⟨r', h1, h2, h3, by simp; omega⟩
    · intro b q hq hlt
      unfold upd
      split
      · rename_i hb
        rcases pex_case hq with hq | ⟨hn, r', hr', hid', hpl⟩
        · have := (h.rel.dom b).2 ⟨q, hq⟩; omega
        · have : r' = r := by
            have f1 := apart_find hap r hrm
            have f2 := apart_find hap r' hr'
            rw [hid', hb] at f2; rw [hid] at f1
            rw [f1] at f2; simpa using f2.symm
          rw [← hpl, this]
      · rename_i hb
        exact e2 b q hq (by simp at hlt; omega)
structure Sim (P : Program) (gl : Glob) (orc : Orc) (ops : List Oper) (an : List Nat) (tm : Tr) (s : DSt) (sn0 : Snap) (ι0 : IMap) (H0 : AHeap) (W0 : World) (ds : List Deferred) (D : Nat → Bool) (a : Act) (W : World) : Prop where
  ex : ∃ (sn : Snap) (ι : IMap) (l1 l2 : List (Nat × AHeap × List Nat)) (B : AHeap) (pend : List PRec),
    s.sts = l1 ++ l2 ∧ Chain P gl orc ops an tm s.vals B l2 s.base ∧ (∀ i ∈ stFst l1, D i = true) ∧ (∀ i ∈ stFst l2, D i = false) ∧ Stp sn0 ι0 H0 W0 sn ι B W ∧ Apart pend ∧
    (∀ r ∈ pend, IdOf P gl ops an tm s.vals r.op r.id r.body ∧ D r.op = true ∧ r.op ∈ news l2 ++ s.new ∧ W0.heap.size ≤ r.pl.blk ∧ r.pl.blk < W.heap.size ∧ (∀ b q, ι b = some q → q.blk ≠ r.pl.blk) ∧
      (∀ a v, sn a = some v → a.block ≠ r.pl.blk) ∧ B.length ≤ r.id ∧ OR sn (pex ι pend) W r.body r.pl) ∧
    (∀ i ∈ news l2 ++ s.new, D i = true → ∃ r ∈ pend, r.op = i) ∧
    (∀ t u, lastW s.vals D t ops 0 (tget tm t) = some u → ∃ v, a.tmps[t]? = some v ∧ VR sn (pex ι pend) u v) ∧ a.defers = ds
theorem stFst_mem {l : List (Nat × AHeap × List Nat)} {st : Nat × AHeap × List Nat} (h : st ∈ l) : st.1 ∈ stFst l := by
  induction l with
  | nil => simp at h
  | cons x l ih =>
    obtain ⟨a, b, c⟩ := x
    rcases List.mem_cons.1 h with rfl | h
    · simp [stFst]
    · simp [stFst, ih h]
theorem news_mem {l : List (Nat × AHeap × List Nat)} {i : Nat} : i ∈ news l ↔ ∃ st ∈ l, i ∈ st.2.2 := by
  induction l with
  | nil => simp [news]
  | cons x l ih => obtain ⟨a, b, c⟩ := x; simp [news, ih]
theorem pure0 {ρ : Operand → Option AV} {o : Oper} (hk : kind o = 0) (H H' : AHeap) : apure' P ρ H o = apure' P ρ H' o := by
  unfold apure' apure
  unfold kind at hk
  cases hop : o.op <;> simp only [hop] at hk ⊢ <;> first | rfl | (cases hk; done) | skip
  case slice t x lo hi mx => cases mx <;> cases hi <;> rfl
  case call c =>
    split at hk <;> first | (cases hk; done) | (rename_i hc; rw [hc])
theorem kind_cases (o : Oper) : kind o = 0 ∨ kind o = 1 ∨ kind o = 2 ∨ kind o = 3 := by
  unfold kind
  split <;> first | (simp; done) | (split <;> simp)
end sim
end Go.Abs
end


section

set_option linter.unusedSimpArgs false
set_option linter.unusedVariables false
namespace Go.Abs
open Go.RowKit
theorem anc_direct {ops : List Oper} {i : Nat} {o : Oper} (ho : ops[i]? = some o) {e : Edge} (he : e ∈ o.after.toList) (hb : Region.binds .any e = true) : bit ((ancs ops []).getD i 0) e.on = true := by
  obtain ⟨r, h1, h2, h3⟩ := ancs_spec ops []
  simp only [List.nil_append] at h1 h3
  rw [h1]
  have := h3 i o ho
  rw [List.getD, this]
  simp only [Option.getD_some]
  exact (edgeMask_bit _ _ _).2 ⟨e, he, hb, .inl rfl⟩
theorem anc_length (ops : List Oper) : (ancs ops []).length = ops.length := by
  obtain ⟨r, h1, h2, _⟩ := ancs_spec ops []
  rw [h1]; simpa using h2
structure Checked (P : Program) (gl : Glob) (orc : Orc) (ops : List Oper) (tm : Tr) (H0 : AHeap) (s : DSt) : Prop where
  di : DI P gl orc ops (ancs ops []) tm H0 s
  tmps : tmpsOk ops (ancs ops []) ops 0 = true
  bound : boundOk (ancs ops []) 0 = true
  chain : chainOk (ancs ops []) (stFst s.sts) = true
  done : s.done + 1 = 2 ^ ops.length
  stages : stagesOk P gl tm ops (ancs ops []) s ops 0 = true
section steps
variable {P : Program} {gl : Glob} {orc : Orc} {ops : List Oper} {tm : Tr} {H0 : AHeap} {s : DSt}
theorem Checked.fact (c : Checked P gl orc ops tm H0 s) {i : Nat} (hi : i < ops.length) : Fact P gl ops (ancs ops []) tm s i := by
  refine c.di.fact i ?_
  have h : s.done = 2 ^ ops.length - 1 := by have := c.done; omega
  rw [bit_eq, h, Nat.testBit_two_pow_sub_one]; simpa using hi
theorem stagesOk_spec {an : List Nat} : ∀ (l : List Oper) (j k : Nat) (o : Oper), stagesOk P gl tm ops an s l j = true → l[k]? = some o → kind o = 1 →
    ∀ env v, At ops an tm s.vals (j + k) o env v → wantedE ops env o = true → stages P gl o env v (j + k) an (an.getD (j + k) 0) veq s.sts s.base = true ∨ stages P gl o env v (j + k) an (an.getD (j + k) 0) veq (mapE (earlyB (an.getD (j + k) 0) s.base s.new s.heap) s.sts) (earlyB (an.getD (j + k) 0) s.base s.new s.heap s.base) = true
  | [], j, k, o, h, ho, _, _, _, _, _ => by simp at ho
  | x :: l, j, k, o, h, ho, hk, env, v, hat, hw => by
    simp only [stagesOk, Bool.and_eq_true] at h
    cases k with
    | zero =>
      simp at ho; subst ho
      have h1 := h.1
      simp only [Nat.add_zero] at hat ⊢
      rw [hk] at h1
      simp only [hat.val, hat.env, hw, if_true] at h1
      simpa only [Nat.beq_refl, if_true, Bool.or_eq_true] using h1
    | succ k =>
      have := stagesOk_spec l (j + 1) k o h.2 (by simpa using ho) hk env v (by rw [show j + 1 + k = j + (k + 1) from by omega]; exact hat) hw
      rwa [show j + 1 + k = j + (k + 1) from by omega] at this
def curB (l : List (Nat × AHeap × List Nat)) (B : AHeap) : AHeap := match l with | [] => B | (_, C, _) :: _ => C
theorem mapE_app (F : AHeap → AHeap) (l l' : List (Nat × AHeap × List Nat)) : mapE F (l ++ l') = mapE F l ++ mapE F l' := by
  induction l with
  | nil => rfl
  | cons x l ih => obtain ⟨a, b, c⟩ := x; simp only [List.cons_append, mapE, ih]
theorem mapE_fst (F : AHeap → AHeap) (l : List (Nat × AHeap × List Nat)) : stFst (mapE F l) = stFst l := by
  induction l with
  | nil => rfl
  | cons x l ih => obtain ⟨a, b, c⟩ := x; simp only [mapE, stFst, ih]
theorem mapE_cur (F : AHeap → AHeap) (l : List (Nat × AHeap × List Nat)) (B : AHeap) : curB (mapE F l) (F B) = F (curB l B) := by
  cases l with
  | nil => rfl
  | cons x l => obtain ⟨a, b, c⟩ := x; rfl
theorem takeA_get {aj : Nat} : ∀ (nw : List Nat) (t : AHeap) (k : Nat) (o : AObj), (takeA aj nw t)[k]? = some o → ∃ j, nw[k]? = some j ∧ bit aj j = true ∧ t[k]? = some o
  | [], t, k, o, h => by simp [takeA] at h
  | j :: nw, [], k, o, h => by simp [takeA] at h
  | j :: nw, x :: t, k, o, h => by
    simp only [takeA] at h
    split at h
    · rename_i hb
      cases k with
      | zero => simp at h; subst h; exact ⟨j, rfl, hb, rfl⟩
      | succ k =>
        obtain ⟨j', h1, h2, h3⟩ := takeA_get nw t k o (by simpa using h)
        exact ⟨j', by simpa using h1, h2, by simpa using h3⟩
    · simp at h
theorem Allocs.get {an : List Nat} {vals : List (Option AV)} {B H : AHeap} {nw : List Nat} (h : Allocs P gl ops an tm vals B nw H) : ∀ (k j : Nat), nw[k]? = some j → ∃ body, IdOf P gl ops an tm vals j (B.length + k) body ∧ H[B.length + k]? = some ⟨true, B.length + k, 0, body⟩ := by
  induction h with
  | nil => intro k j hk; simp at hk
  | @snoc H nw i o env mk body hk ha hkd hw he hr ih =>
    intro k j hkj
    have hlen := hk.length
    rw [List.getElem?_append] at hkj
    split at hkj
    · rename_i hlt
      obtain ⟨body', h1, h2⟩ := ih k j hkj
      exact ⟨body', h1, by rw [List.getElem?_append_left (by omega)]; exact h2⟩
    · rename_i hge
      rw [List.getElem?_singleton] at hkj
      split at hkj
      · rename_i h0
        simp at hkj; subst hkj
        have e : B.length + k = H.length := by omega
        rw [e]
        exact ⟨body, ⟨o, env, mk, ha, hkd, hw, he⟩, by simp⟩
      · cases hkj
theorem stages_at {o : Oper} {env : List (Nat × AV)} {v : AV} {j : Nat} {an : List Nat} {aj : Nat} {D : Nat → Bool} (hj : D j = false) (hanc : ∀ k, bit aj k = true → D k = true) (hcl : ∀ e, D e = true → bit (an.getD e 0) j = true → D j = true) :
    ∀ (l1 l2 : List (Nat × AHeap × List Nat)) (B : AHeap), stages P gl o env v j an aj veq (l1 ++ l2) B = true → (∀ i ∈ stFst l1, D i = true) → (∀ i ∈ stFst l2, D i = false) →
      apure' P (evalE gl env) (curB l2 B) o = some v
  | [], [], B, h, _, _ => by
    simp only [List.append_nil, stages] at h
    split at h <;> try (simp at h; done)
    rename_i u hu
    show apure' P (evalE gl env) B o = some v
    rw [hu]; have := veq_eq _ _ h; rw [this]
  | [], (e, C, nw) :: l2, B, h, _, h2 => by
    simp only [List.nil_append, stages] at h
    have he : D e = false := h2 e (by simp [stFst])
    split at h
    · rename_i hb; have := hanc e hb; rw [he] at this; cases this
    · simp only [Bool.and_eq_true] at h
      have h1 := h.1
      split at h1 <;> try (simp at h1; done)
      rename_i u hu
      show apure' P (evalE gl env) C o = some v
      rw [hu]; have := veq_eq _ _ h1; rw [this]
  | (e, C, nw) :: l1, l2, B, h, h1, h2 => by
    simp only [List.cons_append, stages] at h
    have he : D e = true := h1 e (by simp [stFst])
    have h1' : ∀ i ∈ stFst l1, D i = true := fun i hi => h1 i (by simp [stFst, hi])
    split at h
    · exact stages_at hj hanc hcl l1 l2 B h h1' h2
    · simp only [Bool.and_eq_true, Bool.or_eq_true] at h
      rcases h.2 with hb | hr
      · have := hcl e he hb; rw [hj] at this; cases this
      · exact stages_at hj hanc hcl l1 l2 B hr h1' h2
theorem chainOk_spec {an : List Nat} : ∀ (l : List Nat) (k e f : Nat), chainOk an l = true → l[k]? = some e → l[k + 1]? = some f → bit (an.getD f 0) e = true
  | [], k, e, f, h, h1, h2 => by simp at h1
  | [_], k, e, f, h, h1, h2 => by simp at h2
  | a :: b :: l, k, e, f, h, h1, h2 => by
    simp only [chainOk, Bool.and_eq_true] at h
    cases k with
    | zero => simp at h1 h2; subst h1; subst h2; exact h.1
    | succ k => exact chainOk_spec (b :: l) k e f h.2 (by simpa using h1) (by simpa using h2)
theorem stFst_app (l l' : List (Nat × AHeap × List Nat)) : stFst (l ++ l') = stFst l ++ stFst l' := by
  induction l with
  | nil => rfl
  | cons x l ih => obtain ⟨a, b, c⟩ := x; simp [stFst, ih]
theorem putLR {sn : Snap} {ι : IMap} {a : Act} {d : Option Tmp} {t : Nat} {u v0 : AV} {v : Value} {x : Option AV}
    (hold : ∀ u, x = some u → ∃ y, a.tmps[t]? = some y ∧ VR sn ι u y) (hv : VR sn ι v0 v) (h : (if (match d with | some d => Nat.beq d t | none => false) = true then some v0 else x) = some u) (hin : ∀ d', d = some d' → d' < a.tmps.size) :
    ∃ y, (a.put d v).tmps[t]? = some y ∧ VR sn ι u y := by
  cases d with
  | none => simp at h; exact hold u h
  | some d =>
    have h : (if Nat.beq d t = true then some v0 else x) = some u := h
    simp only [Act.put, Array.getElem?_setIfInBounds]
    split at h
    · rename_i hd
      have := Nat.eq_of_beq_eq_true hd; subst this
      simp at h; subst h
      have := hin d rfl
      exact ⟨v, by simp [this], hv⟩
    · rename_i hd
      have hne : d ≠ t := by rintro rfl; exact hd (by simp)
      rw [if_neg hne]; exact hold u h
theorem env_at (c : Checked P gl orc ops tm H0 s) {D : Nat → Bool} (hD : Closed ops D) {i : Nat} {o : Oper} {env : List (Nat × AV)} {v : AV} (hat : At ops (ancs ops []) tm s.vals i o env v)
    (hanc : ∀ k, bit ((ancs ops []).getD i 0) k = true → D k = true) (hi : D i = false) : ∀ t u, alook t env = some u → lastW s.vals D t ops 0 (tget tm t) = some u := by
  intro t u h
  obtain ⟨hmem, hl⟩ := envOf_look _ _ hat.env t u h
  rw [← hl]
  refine lastW_congr ops 0 _ fun k x hx hd => ?_
  have hok := tmpsOk_spec ops 0 i o c.tmps hat.op
  simp only [tmpsOkAt, Bool.and_eq_true, Nat.zero_add] at hok
  have hw := List.all_eq_true.1 hok.1 t hmem
  have := writersOk_spec ops 0 k x hw hx hd
  simp only [Nat.zero_add] at this ⊢
  rcases this with rfl | h1 | h1
  · rw [hi]
    cases hb : bit ((ancs ops []).getD k 0) k with
    | false => rfl
    | true => have := hanc k hb; rw [hi] at this; cases this
  · rw [h1, hanc k h1]
  · cases hDk : D k with
    | false =>
      cases hb : bit ((ancs ops []).getD i 0) k with
      | false => rfl
      | true => have := hanc k hb; rw [hDk] at this; cases this
    | true =>
      have := closed_anc hD k i x hx (fun e he hb => hD k x hx hDk e he hb) h1
      rw [hi] at this; cases this
theorem lastW_next (c : Checked P gl orc ops tm H0 s) {D D' : Nat → Bool} (hD : Closed ops D) {i : Nat} {o : Oper} {env : List (Nat × AV)} {v : AV} (hat : At ops (ancs ops []) tm s.vals i o env v)
    (hi : D i = false) (hD' : ∀ k, D' k = (D k || Nat.beq k i)) (t : Nat) : lastW s.vals D' t ops 0 (tget tm t) = if dstIs o t = true then some v else lastW s.vals D t ops 0 (tget tm t) := by
  refine lastW_add ops 0 _ o hat.op (by simpa using hat.val) (by simpa using hD') ?_ (by simpa using hi)
  intro k x hx h1 h2 h3
  simp only [Nat.zero_add]
  have hok := tmpsOk_spec ops 0 i o c.tmps hat.op
  simp only [tmpsOkAt, Bool.and_eq_true, Nat.zero_add] at hok
  have hd : ∃ d, o.dst = some d ∧ d = t := by
    unfold dstIs at h1
    split at h1
    · rename_i d hd; exact ⟨d, hd, Nat.eq_of_beq_eq_true h1⟩
    · cases h1
  obtain ⟨d, hd, rfl⟩ := hd
  have hw := hok.2
  rw [hd] at hw
  have := writersOk_spec ops 0 k x hw hx h2
  simp only [Nat.zero_add] at this
  have hil : i < ops.length := (List.getElem?_eq_some_iff.1 hat.op).1
  rcases this with rfl | h4 | h4
  · omega
  · have hb := boundOk_spec (ancs ops []) 0 i c.bound (by rw [anc_length]; exact hil)
    simp only [Nat.zero_add] at hb
    have := bit_lt hb h4; omega
  · cases hDk : D k with
    | false => rfl
    | true =>
      have := closed_anc hD k i x hx (fun e he hb => hD k x hx hDk e he hb) h4
      rw [hi] at this; cases this
theorem wantedE_eq {sn : Snap} {ι : IMap} {a : Act} {ops : Array Oper} {an : List Nat} {o : Oper} {env : List (Nat × AV)} {v : AV} {i : Nat} {vals : List (Option AV)} (hat : At ops.toList an tm vals i o env v)
    (hv : ∀ t u, alook t env = some u → ∃ y, a.tmps[t]? = some y ∧ VR sn ι u y) : Region.wanted o (yielded ops a.tmps) = wantedE ops.toList env o := by
  unfold Region.wanted wantedE
  cases hg : o.guard with
  | none => rfl
  | some jw =>
    obtain ⟨j, want⟩ := jw
    simp only [Array.getElem?_toList]
    cases hj : ops[j]? with
    | none => simp [yielded, hj]
    | some g =>
      simp only
      cases hd : g.dst with
      | none => simp [yielded, hj, hd]
      | some d =>
        simp only
        have hmem : d ∈ looks ops.toList o := by simp [looks, hg, Array.getElem?_toList, hj, hd]
        obtain ⟨u, hu⟩ := envOf_mem _ _ hat.env d hmem
        obtain ⟨y, h1, h2⟩ := hv d u hu
        rw [hu]
        unfold yielded
        simp only [hj, Option.bind_some, hd, h1]
        cases u with
        | bool b => cases h2.bool; simp
        | _ => simp only [VR] at h2; cases y <;> first | rfl | (exfalso; simp at h2)
theorem evalE_sound {sn : Snap} {ι : IMap} {a : Act} {env : List (Nat × AV)} (hg : GlOK gl sn) (hv : ∀ t u, alook t env = some u → ∃ y, a.tmps[t]? = some y ∧ VR sn ι u y) :
    ∀ x u, evalE gl env x = some u → VR sn ι u (a.eval x) := by
  intro x u h
  cases x with
  | tmp t =>
    obtain ⟨v, h1, h2⟩ := hv t u h
    have : a.eval (.tmp t) = v := by simp [Act.eval, Array.getD_eq_getD_getElem?, h1]
    rw [this]; exact h2
  | const v => exact ofV_VR v u h
  | global g =>
    simp only [evalE] at h; split at h <;> simp at h
    subst h; rename_i cs hcs
    simp only [VR, Act.eval]; exact ⟨g, 0, rfl, hg g cs hcs⟩
  | func f => simp [evalE] at h; subst h; simp [VR, Act.eval, LR]
theorem finTmps_tex {vals : List (Option AV)} : ∀ {l : List Oper} {i : Nat} {tm tm' : Tr}, finTmps vals l i tm = some tm' → ∀ t, tex tm' t = tex tm t
  | [], i, tm, tm', h, t => by simp [finTmps] at h; subst h; rfl
  | o :: l, i, tm, tm', h, t => by
    simp only [finTmps] at h
    split at h <;> try (simp at h; done)
    split at h <;> try (simp at h; done)
    rename_i tm1 hp
    rw [finTmps_tex h t]
    cases hd : o.dst with
    | none => rw [hd] at hp; simp [putT] at hp; subst hp; rfl
    | some d => rw [hd] at hp; exact (tset_get _ _ _ _ hp).2.2 t
theorem finTmps_spec {vals : List (Option AV)} : ∀ (l : List Oper) (i : Nat) (tm tm' : Tr), finTmps vals l i tm = some tm' →
    (∀ o ∈ l, ∀ d, o.dst = some d → tex tm d = true) ∧ ∀ t (acc : Option AV), acc = tget tm t → tget tm' t = lastW vals (fun _ => true) t l i acc
  | [], i, tm, tm', h => by simp [finTmps] at h; subst h; exact ⟨by simp, fun t acc e => by simp [lastW, e]⟩
  | o :: l, i, tm, tm', h => by
    simp only [finTmps] at h
    split at h <;> try (simp at h; done)
    rename_i v hv
    split at h <;> try (simp at h; done)
    rename_i tm1 hp
    obtain ⟨h1, h2⟩ := finTmps_spec l (i + 1) tm1 tm' h
    have hput : (∀ d, o.dst = some d → tex tm d = true) ∧ (∀ t, tget tm1 t = if dstIs o t = true then some v else tget tm t) ∧ ∀ t, tex tm1 t = tex tm t := by
      unfold dstIs
      cases hd : o.dst with
      | none => rw [hd] at hp; simp [putT] at hp; subst hp; exact ⟨by simp, by simp, fun _ => rfl⟩
      | some d =>
        rw [hd] at hp
        obtain ⟨h3, h4, h5⟩ := tset_get _ _ _ _ hp
        refine ⟨fun d' e => by simp at e; subst e; exact h3, fun t => ?_, h5⟩
        rw [h4]
        by_cases e : t = d
        · simp [e]
        · rw [if_neg e, if_neg]; simpa using Ne.symm e
    refine ⟨?_, ?_⟩
    · intro x hx d hd
      rcases List.mem_cons.1 hx with rfl | hx
      · exact hput.1 d hd
      · have hy := h1 x hx d hd
        rw [hput.2.2] at hy; exact hy
    · intro t acc e
      rw [h2 t _ rfl, lastW]
      congr 1
      rw [hput.2.1, hv, e]; simp
end steps
end Go.Abs
end


section

set_option linter.unusedSimpArgs false
set_option linter.unusedVariables false
namespace Go.Abs
open Go.RowKit
theorem filter_set : ∀ (l : List Bool) (i : Nat), l[i]? = some false → ((l.set i true).filter id).length = (l.filter id).length + 1
  | [], i, h => by simp at h
  | x :: l, 0, h => by simp at h; subst h; simp
  | x :: l, i + 1, h => by
    simp at h
    have := filter_set l i h
    cases x <;> simp [this]
section draw
variable {P : Program} {gl : Glob} {orc : Orc} {ops : Array Oper} {tm : Tr} {H0 : AHeap} {s : DSt} {sn0 : Snap} {ι0 : IMap} {W0 : World} {ds : List Deferred}
theorem tmps_next {sn sn' : Snap} {j j' : IMap} {a : Act} {D D' : Nat → Bool} {o : Oper} {v : AV} {y : Value} (hle : Le sn sn' j j') (hv : VR sn' j' v y)
    (hw : ∀ t, lastW s.vals D' t ops.toList 0 (tget tm t) = if dstIs o t = true then some v else lastW s.vals D t ops.toList 0 (tget tm t)) (hsz : ∀ d, o.dst = some d → d < a.tmps.size)
    (ht : ∀ t u, lastW s.vals D t ops.toList 0 (tget tm t) = some u → ∃ x, a.tmps[t]? = some x ∧ VR sn j u x) :
    ∀ t u, lastW s.vals D' t ops.toList 0 (tget tm t) = some u → ∃ x, (a.put o.dst y).tmps[t]? = some x ∧ VR sn' j' u x := by
  intro t u hu
  rw [hw] at hu
  refine putLR (fun u hu => ?_) hv hu hsz
  obtain ⟨x, h1, h2⟩ := ht t u hu
  exact ⟨x, h1, VR_mono hle _ _ h2⟩
theorem beq_ne {k i : Nat} (h : k ≠ i) : Nat.beq k i = false := by
  cases hq : Nat.beq k i with
  | false => rfl
  | true => exact absurd (Nat.eq_of_beq_eq_true hq) h
theorem sim_step {rd : Option Nat} (hn : NoNum P) (hO : OrcSound P gl orc) (hg0 : GlOK gl sn0) (hR0 : R sn0 ι0 H0 W0) (c : Checked P gl orc ops.toList tm H0 s) {D : Nat → Bool} (hD : Closed ops.toList D) {i : Nat} (hi : D i = false) {o : Oper} (ho : ops.toList[i]? = some o)
    (hanc : ∀ k, bit ((ancs ops.toList []).getD i 0) k = true → D k = true) {a : Act} {W : World} (h : Sim P gl orc ops.toList (ancs ops.toList []) tm s sn0 ι0 H0 W0 ds D a W) (hsz : ∀ o ∈ ops.toList, ∀ d, o.dst = some d → d < a.tmps.size)
    {D' : Nat → Bool} (hD' : ∀ k, D' k = (D k || Nat.beq k i)) {K : Act → World → Prop} {Q : Exit → Act → World → Prop}
    (hK : ∀ a' W', Sim P gl orc ops.toList (ancs ops.toList []) tm s sn0 ι0 H0 W0 ds D' a' W' → a'.tmps.size = a.tmps.size → K a' W') : wpOpIn (Fq rd) 0 P ops Q i K a W := by
  obtain ⟨sn, ι, l1, l2, B, pend, x1, x2, x3, x4, x5, x6, x7, x8, x9, x10⟩ := h.ex
  have hil : i < ops.toList.length := (List.getElem?_eq_some_iff.1 ho).1
  obtain ⟨o', env, v, hat, f1, f2, f3, f4⟩ := (c.fact hil).ex
  have hoo := hat.op
  rw [ho] at hoo; simp at hoo; subst hoo
  have hsz' : ∀ d, o.dst = some d → d < a.tmps.size := hsz o (List.mem_of_getElem? ho)
  have henv : ∀ t u, alook t env = some u → ∃ y, a.tmps[t]? = some y ∧ VR sn (pex ι pend) u y := fun t u hu => x9 t u (env_at c hD hat hanc hi t u hu)
  have hw := wantedE_eq (o := o) hat henv
  have hnext := lastW_next c hD hat hi hD'
  have hgl : GlOK gl sn := hg0.mono x5.le
  have hρ := evalE_sound hgl henv
  have hDi : D' i = true := by rw [hD']; simp
  have hDk : ∀ k, D k = true → D' k = true := fun k hk => by rw [hD', hk]; rfl
  have hDn : ∀ k, D' k = true → D k = true ∨ k = i := by
    intro k hk
    rw [hD'] at hk
    cases hq : D k with
    | true => exact .inl rfl
    | false => rw [hq] at hk; exact .inr (Nat.eq_of_beq_eq_true (by simpa using hk))
  have hsput : ∀ y, (a.put o.dst y).tmps.size = a.tmps.size := by intro y; cases o.dst <;> simp [Act.put]
  have hnews : ∀ j, j ∈ news l2 ++ s.new → ∃ id body, IdOf P gl ops.toList (ancs ops.toList []) tm s.vals j id body ∧ B.length ≤ id := x2.ids c.di.allocs
  have hinew : i ∈ news l2 ++ s.new → kind o = 2 ∧ wantedE ops.toList env o = true := by
    intro hm
    obtain ⟨id, body, ⟨o2, env2, mk, g1, g2, g3, g4⟩, _⟩ := hnews i hm
    obtain ⟨rfl, rfl, _⟩ := hat.uniq g1
    exact ⟨g2, g3⟩
  have hist : i ∈ stFst l2 → kind o = 3 := by
    intro hm
    have : ∃ st ∈ l2, st.1 = i := by
      clear x1 x2 x4 hnews hinew x7 x8
      induction l2 with
      | nil => simp [stFst] at hm
      | cons y l ih =>
        obtain ⟨p, q, r⟩ := y
        simp only [stFst, List.mem_cons] at hm
        rcases hm with rfl | hm
        · exact ⟨(i, q, r), List.mem_cons_self, rfl⟩
        · obtain ⟨st, h1, h2⟩ := ih hm; exact ⟨st, by simp [h1], h2⟩
    obtain ⟨st, h1, rfl⟩ := this
    obtain ⟨H, B', he⟩ := x2.mem st h1
    obtain ⟨o2, env2, v2, g1, g2, _⟩ := he.ex
    obtain ⟨rfl, _, _⟩ := hat.uniq g1
    exact g2
  have quiet : (kind o = 2 → wantedE ops.toList env o = false) → kind o ≠ 3 → ∀ y, VR sn (pex ι pend) v y → K (a.put o.dst y) W := by
    intro hq2 hq3 y hy
    refine hK _ _ ⟨sn, ι, l1, l2, B, pend, x1, x2, fun j hj => hDk j (x3 j hj), fun j hj => ?_, x5, x6, fun r hr => ?_, fun j hj hdj => ?_, tmps_next (Le.refl _ _) hy hnext hsz' x9, by rw [Act.put_defers']; exact x10⟩ (hsput y)
    · have hne : j ≠ i := by rintro rfl; exact hq3 (hist hj)
      rw [hD', x4 j hj, beq_ne hne]; rfl
    · obtain ⟨r1, r2, r3⟩ := x7 r hr
      exact ⟨r1, hDk _ r2, r3⟩
    · rcases hDn j hdj with hdj | rfl
      · exact x8 j hj hdj
      · obtain ⟨g1, g2⟩ := hinew hj
        have := hq2 g1; rw [g2] at this; cases this
  unfold wpOpIn
  have hoa : ops[i]? = some o := by rw [← Array.getElem?_toList]; exact ho
  rw [hoa]
  simp only
  have effect : kind o = 3 → ∃ (nw : List Nat) (l2' : List (Nat × AHeap × List Nat)) (H B' : AHeap) (ι' : IMap), l2 = (i, B, nw) :: l2' ∧ Stp sn0 ι0 H0 W0 sn ι' H W ∧
      (∀ t u, alook t env = some u → ∃ y, a.tmps[t]? = some y ∧ VR sn ι' u y) ∧
      (wantedE ops.toList env o = true → aop P orc (evalE gl env) o H = some (v, B')) ∧ (wantedE ops.toList env o = false → v = .tuple [] ∧ B' = H) ∧
      (∀ y W' sn2 ι2, VR sn2 ι2 v y → Stp sn ι' H W sn2 ι2 B' W' → K (a.put o.dst y) W') := by
    intro hk3
    have hmem := f3 hk3
    rw [x1, stFst_app] at hmem
    have hm2 : i ∈ stFst l2 := by
      rcases List.mem_append.1 hmem with hm | hm
      · have := x3 i hm; rw [hi] at this; cases this
      · exact hm
    obtain ⟨nw, l2', rfl⟩ : ∃ nw l2', l2 = (i, B, nw) :: l2' := by
      cases l2 with
      | nil => simp [stFst] at hm2
      | cons y l =>
        obtain ⟨p, q, r⟩ := y
        cases x2 with
        | cons ha he hc =>
        simp only [stFst, List.mem_cons] at hm2
        rcases hm2 with rfl | hm2
        · exact ⟨r, l, rfl⟩
        · exfalso
          obtain ⟨k, hk⟩ := List.getElem?_of_mem hm2
          have hprev : ∃ e, (stFst (l1 ++ (p, B, r) :: l))[(stFst l1).length + k]? = some e ∧ e ∈ stFst ((p, B, r) :: l) := by
            rw [stFst_app, List.getElem?_append_right (by omega)]
            simp only [Nat.add_sub_cancel_left]
            have hkl : k < (stFst l).length := (List.getElem?_eq_some_iff.1 hk).1
            have hkl' : k < (stFst ((p, B, r) :: l)).length := by simp [stFst]; omega
            exact ⟨_, List.getElem?_eq_getElem hkl', List.getElem_mem hkl'⟩
          obtain ⟨e, he1, he2⟩ := hprev
          have hcur : (stFst (l1 ++ (p, B, r) :: l))[(stFst l1).length + k + 1]? = some i := by
            rw [stFst_app, List.getElem?_append_right (by omega)]
            rw [show (stFst l1).length + k + 1 - (stFst l1).length = k + 1 from by omega]
            simp only [stFst, List.getElem?_cons_succ]; exact hk
          have hch := c.chain
          rw [x1] at hch
          have := hanc e (chainOk_spec _ _ e i hch he1 hcur)
          rw [x4 e he2] at this; cases this
    cases x2 with
    | @cons _ H B' _ _ _ _ ha he hc =>
    obtain ⟨o2, env2, v2, g1, g2, g3, g4, g5, g6, g7⟩ := he.ex
    obtain ⟨rfl, rfl, rfl⟩ := hat.uniq g1
    have hnw : ∀ j ∈ nw, D j = true := fun j hj => hanc j (allBit_spec g3 j hj)
    obtain ⟨ι', s1, e1, e2, e3⟩ := absorb_all (H := H) ha x6 x5 (fun r hr => by
        obtain ⟨r1, r2, r3, r4, r5, r6, r7, r8, r9⟩ := x7 r hr
        exact ⟨r1, r4, r5, r6, r7, r8, r9⟩) fun j hj => x8 j (by simp [news, hj]) (hnw j hj)
    have hids := ha.ids
    have hleft : ∀ r ∈ pend, r.op ∉ nw → B'.length ≤ r.id := by
      intro r hr hnin
      obtain ⟨r1, r2, r3, _⟩ := x7 r hr
      have : r.op ∈ news l2' ++ s.new := by
        simp only [news, List.append_assoc] at r3
        rcases List.mem_append.1 r3 with h1 | h1
        · exact absurd h1 hnin
        · exact h1
      obtain ⟨id, body, q1, q2⟩ := hc.ids c.di.allocs r.op this
      obtain ⟨rfl, _⟩ := r1.uniq q1
      exact q2
    have hgone : ∀ r ∈ pend, r.op ∈ nw → r.id < H.length := by
      intro r hr hin
      obtain ⟨r1, _⟩ := x7 r hr
      obtain ⟨id, body, q1, _, q3⟩ := hids r.op hin
      obtain ⟨rfl, _⟩ := r1.uniq q1
      exact q3
    have hblk : ∀ r ∈ pend, r.op ∉ nw → ∀ b q, ι' b = some q → q.blk ≠ r.pl.blk := by
      intro r hr hnin b q hq
      rcases e1 b q hq with hq | ⟨r', hr', hid', rfl, hlt⟩
      · exact (x7 r hr).2.2.2.2.2.1 b q hq
      · have := hleft r hr hnin
        exact apart_ne x6 hr' hr (by omega)
    refine ⟨nw, l2', H, B', ι', rfl, s1, ?_, g6, g7, ?_⟩
    · intro t u hu
      obtain ⟨y, h1, h2⟩ := henv t u hu
      obtain ⟨acc, hacc⟩ := refsEnv_mem env t u hu
      exact ⟨y, h1, VR_refs u acc y (fun b hb q hq => e2 b q hq (allLt_spec g4 b (hacc b hb))) h2⟩
    · intro y W' sn2 ι2 hy hst
      let pend' := pend.filter fun r => !mem r.op nw
      have hp' : ∀ r, r ∈ pend' ↔ r ∈ pend ∧ r.op ∉ nw := by
        intro r
        simp only [pend', List.mem_filter, Bool.not_eq_true']
        constructor
        · rintro ⟨h1, h2⟩; exact ⟨h1, fun hm => by rw [mem_iff.2 hm] at h2; cases h2⟩
        · rintro ⟨h1, h2⟩; refine ⟨h1, ?_⟩
          cases hq : mem r.op nw with
          | false => rfl
          | true => exact absurd (mem_iff.1 hq) h2
      have hap' : Apart pend' := x6.filter _
      have hnone : ∀ r ∈ pend', ι2 r.id = none := by
        intro r hr
        obtain ⟨h1, h2⟩ := (hp' r).1 hr
        have := hleft r h1 h2
        cases hq : ι2 r.id with
        | none => rfl
        | some q => have := (hst.rel.dom _).2 ⟨q, hq⟩; omega
      have hlex : Le sn sn2 (pex ι pend) (pex ι2 pend') := by
        refine ⟨hst.le.sn, fun b q hq => ?_⟩
        rcases pex_case hq with hq1 | ⟨hn1, r, hr, hid, rfl⟩
        · exact (pex_le sn2 ι2 pend').ι b q (hst.le.ι b q (e3.ι b q hq1))
        · by_cases hin : r.op ∈ nw
          · have hlt := hgone r hr hin
            have := e2 b _ hq (by omega)
            exact (pex_le sn2 ι2 pend').ι b _ (hst.le.ι b _ this)
          · have hr' : r ∈ pend' := (hp' r).2 ⟨hr, hin⟩
            have := pex_pend hap' hr' (hnone r hr')
            rw [hid] at this; exact this
      have hblk2 : ∀ r ∈ pend', ∀ b q, ι2 b = some q → q.blk ≠ r.pl.blk := by
        intro r hr b q hq
        obtain ⟨h1, h2⟩ := (hp' r).1 hr
        rcases hst.fresh b q hq with h3 | h3 | ⟨b0, o0, p0, k1, k2, k3, k4⟩
        · exact hblk r h1 h2 b q h3
        · have := (x7 r h1).2.2.2.2.1; omega
        · have := hblk r h1 h2 b0 p0 k3; omega
      refine hK _ _ ⟨sn2, ι2, l1 ++ [(i, B, nw)], l2', B', pend', by rw [x1]; simp, hc, ?_, ?_, s1.trans hR0 hst, hap', ?_, ?_, tmps_next hlex (VR_mono (pex_le sn2 ι2 pend') _ _ hy) hnext hsz' x9, by rw [Act.put_defers']; exact x10⟩ (hsput y)
      · intro j hj
        rw [stFst_app] at hj
        rcases List.mem_append.1 hj with hj | hj
        · exact hDk j (x3 j hj)
        · simp [stFst] at hj; rw [hj]; exact hDi
      · intro j hj
        have hjx := x4 j (by simp [stFst, hj])
        have hne : j ≠ i := by
          rintro rfl
          obtain ⟨k, hk⟩ := List.getElem?_of_mem hj
          cases k with
          | zero =>
            have h1 : (stFst (l1 ++ (j, B, nw) :: l2'))[(stFst l1).length]? = some j := by rw [stFst_app, List.getElem?_append_right (by omega)]; simp [stFst]
            have h2 : (stFst (l1 ++ (j, B, nw) :: l2'))[(stFst l1).length + 1]? = some j := by
              rw [stFst_app, List.getElem?_append_right (by omega), show (stFst l1).length + 1 - (stFst l1).length = 1 from by omega]
              simp only [stFst, List.getElem?_cons_succ]; exact hk
            have hch := c.chain
            rw [x1] at hch
            have := hanc j (chainOk_spec _ _ j j hch h1 h2)
            rw [hi] at this; cases this
          | succ k =>
            have hkl : k < (stFst l2').length := by have := (List.getElem?_eq_some_iff.1 hk).1; omega
            have h1 : (stFst (l1 ++ (j, B, nw) :: l2'))[(stFst l1).length + (k + 1)]? = some (stFst l2')[k] := by
              rw [stFst_app, List.getElem?_append_right (by omega), show (stFst l1).length + (k + 1) - (stFst l1).length = k + 1 from by omega]
              simp only [stFst, List.getElem?_cons_succ]; exact List.getElem?_eq_getElem hkl
            have h2 : (stFst (l1 ++ (j, B, nw) :: l2'))[(stFst l1).length + (k + 1) + 1]? = some j := by
              rw [stFst_app, List.getElem?_append_right (by omega), show (stFst l1).length + (k + 1) + 1 - (stFst l1).length = k + 1 + 1 from by omega]
              simp only [stFst, List.getElem?_cons_succ]; exact hk
            have hch := c.chain
            rw [x1] at hch
            have := hanc _ (chainOk_spec _ _ _ j hch h1 h2)
            rw [x4 _ (by simp [stFst, List.getElem_mem hkl])] at this; cases this
        rw [hD', hjx, beq_ne hne]; rfl
      · intro r hr
        obtain ⟨h1, h2⟩ := (hp' r).1 hr
        obtain ⟨r1, r2, r3, r4, r5, r6, r7, r8, r9⟩ := x7 r h1
        refine ⟨r1, hDk _ r2, ?_, r4, Nat.lt_of_lt_of_le r5 hst.size, hblk2 r hr, ?_, hleft r h1 h2, OR_mono hlex ?_ r9⟩
        · simp only [news, List.append_assoc] at r3
          rcases List.mem_append.1 r3 with h3 | h3
          · exact absurd h3 h2
          · exact h3
        · intro ad u hu
          rcases hst.sfresh ad u hu with h3 | h3 | ⟨b0, o0, p0, k1, k2, k3, k4⟩
          · exact r7 ad u h3
          · omega
          · have := hblk r h1 h2 b0 p0 k3; omega
        · exact hst.frame _ r5 fun b o' q hb hal hq => hblk r h1 h2 b q hq
      · intro j hj hdj
        have hj' : j ∈ news ((i, B, nw) :: l2') ++ s.new := by simp only [news, List.append_assoc]; exact List.mem_append.2 (.inr hj)
        rcases hDn j hdj with hdj | rfl
        · obtain ⟨r, hr, hro⟩ := x8 j hj' hdj
          refine ⟨r, (hp' r).2 ⟨hr, fun hin => ?_⟩, hro⟩
          have hlt := hgone r hr hin
          obtain ⟨id, body, q1, q2⟩ := hc.ids c.di.allocs j hj
          obtain ⟨r1, _⟩ := x7 r hr
          rw [hro] at r1
          obtain ⟨rfl, _⟩ := r1.uniq q1
          omega
        · obtain ⟨g1', _⟩ := hinew hj'
          rw [hk3] at g1'; cases g1'
  by_cases hwant : wantedE ops.toList env o = true
  · rw [hw, if_pos hwant]
    rcases kind_cases o with hk | hk | hk | hk
    ·
      obtain ⟨H, hp⟩ := f2 hwant (by omega) (by omega)
      rw [pure0 hk H B] at hp
      obtain ⟨y, h1, h2⟩ := apure'_sound (x5.rel.ro.le (pex_le sn ι pend)) hρ hp
      refine wp_q (apure_nd hp) ?_
      unfold Oper.wp
      rw [h1, Oper.upon_value]
      exact quiet (fun h => by omega) (by omega) y h2
    ·
      have hst := stagesOk_spec ops.toList 0 i o c.stages ho hk env v (by simpa using hat) hwant
      simp only [Nat.zero_add] at hst
      have hB : curB l2 s.base = B := by
        cases x2 with
        | nil => rfl
        | cons _ _ _ => rfl
      have hcl1 : ∀ e, D e = true → bit ((ancs ops.toList []).getD e 0) i = true → D i = true := fun e he hb => by
        have hel : e < ops.toList.length := by
          rcases Nat.lt_or_ge e ops.toList.length with h | h
          · exact h
          · have : (ancs ops.toList []).getD e 0 = 0 := by simp [List.getD, List.getElem?_eq_none (by rw [anc_length]; exact h)]
            rw [this, bit_zero] at hb; cases hb
        exact closed_anc hD e i _ (List.getElem?_eq_getElem hel) (fun x hx hbx => hD e _ (List.getElem?_eq_getElem hel) he x hx hbx) hb
      rcases hst with hst | hst
      rotate_left
      · rw [x1, mapE_app] at hst
        have hp := stages_at (D := D) hi hanc hcl1 _ _ _ hst (by rw [mapE_fst]; exact x3) (by rw [mapE_fst]; exact x4)
        rw [mapE_cur, hB] at hp
        have hro : RO sn (pex ι pend) (earlyB ((ancs ops.toList []).getD i 0) s.base s.new s.heap B) W := by
          have ro := x5.rel.ro.le (pex_le sn ι pend)
          unfold earlyB
          split
          · rename_i hlen
            have hlen := Nat.eq_of_beq_eq_true hlen
            have key : ∀ b o, B.length ≤ b → (B ++ takeA ((ancs ops.toList []).getD i 0) s.new (s.heap.drop s.base.length))[b]? = some o → ∃ r ∈ pend, r.id = b ∧ o.body = r.body ∧ pex ι pend b = some r.pl := by
              intro b o hb ho
              rw [List.getElem?_append_right hb] at ho
              obtain ⟨j, g1, g2, g3⟩ := takeA_get _ _ _ _ ho
              rw [List.getElem?_drop] at g3
              obtain ⟨body, g4, g5⟩ := c.di.allocs.get _ _ g1
              rw [g5] at g3
              simp at g3; subst g3
              obtain ⟨r, hr, hro⟩ := x8 j (List.mem_append.2 (.inr (List.mem_of_getElem? g1))) (hanc j g2)
              obtain ⟨r1, r2, r3, r4, r5, r6, r7, r8, r9⟩ := x7 r hr
              rw [hro] at r1
              obtain ⟨u1, u2⟩ := r1.uniq g4
              have hid : r.id = b := by omega
              refine ⟨r, hr, hid, u2.symm, ?_⟩
              rw [← hid]
              refine pex_pend x6 hr ?_
              cases hq : ι r.id with
              | none => rfl
              | some q => have := (x5.rel.dom r.id).2 ⟨q, hq⟩; omega
            refine ⟨fun b hb => ?_, fun b o p hb hal hp => ?_, ro.snap⟩
            · rcases Nat.lt_or_ge b B.length with h | h
              · exact ro.pl b h
              · obtain ⟨r, _, _, _, hx⟩ := key b _ h (List.getElem?_eq_getElem hb)
                exact ⟨_, hx⟩
            · rcases Nat.lt_or_ge b B.length with h | h
              · rw [List.getElem?_append_left h] at hb
                exact ro.obj b o p hb hal hp
              · obtain ⟨r, hr, _, hbo, hx⟩ := key b o h hb
                rw [hx] at hp; simp at hp; subst hp
                obtain ⟨r1, r2, r3, r4, r5, r6, r7, r8, r9⟩ := x7 r hr
                rw [hbo]; exact r9
          · exact ro
        obtain ⟨y, h1, h2⟩ := apure'_sound hro hρ hp
        refine wp_q (apure_nd hp) ?_
        unfold Oper.wp
        rw [h1, Oper.upon_value]
        exact quiet (fun h => by omega) (by omega) y h2
      rw [x1] at hst
      have hp := stages_at (D := D) hi hanc hcl1 l1 l2 s.base hst x3 x4
      rw [hB] at hp
      obtain ⟨y, h1, h2⟩ := apure'_sound (x5.rel.ro.le (pex_le sn ι pend)) hρ hp
      refine wp_q (apure_nd hp) ?_
      unfold Oper.wp
      rw [h1, Oper.upon_value]
      exact quiet (fun h => by omega) (by omega) y h2
    ·
      have hin : i ∈ news l2 ++ s.new := by
        rcases f4 hk hwant with h1 | ⟨st, h1, h2⟩
        · simp [h1]
        · rw [x1] at h1
          rcases List.mem_append.1 h1 with h1 | h1
          · exfalso
            have hch := c.di.chain
            obtain ⟨H, B', he⟩ := hch.mem st (by rw [x1]; simp [h1])
            obtain ⟨o2, env2, v2, g1, g2, g3, _⟩ := he.ex
            have hDe := x3 st.1 (stFst_mem h1)
            have := closed_anc hD st.1 i o2 g1.op (fun x hx hbx => hD st.1 o2 g1.op hDe x hx hbx) (allBit_spec g3 i h2)
            rw [hi] at this; cases this
          · exact List.mem_append.2 (.inl (news_mem.2 ⟨st, h1, h2⟩))
      obtain ⟨id, body, hid, hidl⟩ := hnews i hin
      obtain ⟨o2, env2, mk, g1, g2, g3, g4⟩ := hid
      obtain ⟨rfl, rfl, hvm⟩ := hat.uniq g1
      obtain ⟨y, ob, n, h1, h2, h3⟩ := aallocF_sound (P := P) hρ g4 W
      refine wp_q (fun c e => by simp [aallocF, e] at g4) ?_
      unfold Oper.wp
      rw [h1, Oper.upon_value]
      have hidn : ι id = none := by
        cases hq : ι id with
        | none => rfl
        | some q => have := (x5.rel.dom id).2 ⟨q, hq⟩; omega
      let r0 : PRec := ⟨i, id, W.heap.size, n, body⟩
      have hnew : ∀ r ∈ pend, r.id ≠ id ∧ r.pl.blk ≠ W.heap.size := by
        intro r hr
        obtain ⟨r1, r2, r3, r4, r5, _⟩ := x7 r hr
        refine ⟨?_, by omega⟩
        rintro rfl
        have := x2.inj c.di.allocs r.op r3 i hin _ _ _ r1 ⟨_, _, _, g1, g2, g3, g4⟩
        rw [this, hi] at r2; cases r2
      have hap' : Apart (r0 :: pend) := by
        unfold Apart
        rw [List.pairwise_cons]
        exact ⟨fun r hr => ⟨Ne.symm (hnew r hr).2, Ne.symm (hnew r hr).1⟩, x6⟩
      have hlex : Le sn sn (pex ι pend) (pex ι (r0 :: pend)) := by
        refine ⟨fun _ _ h => h, fun b q hq => ?_⟩
        rcases pex_case hq with hq1 | ⟨hn1, r, hr, hid', rfl⟩
        · exact (pex_le sn ι _).ι b q hq1
        · have := pex_pend (ι := ι) hap' (List.mem_cons_of_mem _ hr) (by rw [hid']; exact hn1)
          rw [hid'] at this; exact this
      have hst := Stp.ext x5.rel (Ext.alloc W ob)
      have hold : ∀ b, b < W.heap.size → (W.alloc ob).heap[b]? = W.heap[b]? := fun b hb => Below.heap_alloc W ob b hb
      have hv : VR sn (pex ι (r0 :: pend)) v y := by
        rw [hvm]
        exact h3 sn _ id (pex_pend hap' (r := r0) (by simp) hidn)
      refine hK _ _ ⟨sn, ι, l1, l2, B, r0 :: pend, x1, x2, fun j hj => hDk j (x3 j hj), fun j hj => ?_, x5.trans hR0 hst, hap', fun r hr => ?_, fun j hj hdj => ?_, tmps_next hlex hv hnext hsz' x9, by rw [Act.put_defers']; exact x10⟩ (hsput y)
      · have hne : j ≠ i := by rintro rfl; have := hist hj; omega
        rw [hD', x4 j hj, beq_ne hne]; rfl
      · rcases List.mem_cons.1 hr with rfl | hr
        · refine ⟨⟨_, _, _, g1, g2, g3, g4⟩, hDi, hin, x5.size, by simp [r0, PRec.pl], fun b q hq => ?_, fun ad u hu => ?_, hidl, OR_mono hlex rfl h2⟩
          · have := x5.rel.blk b q hq; simp [r0, PRec.pl]; omega
          · have := (x5.rel.snap ad u hu).1; simp [r0, PRec.pl]; omega
        · obtain ⟨r1, r2, r3, r4, r5, r6, r7, r8, r9⟩ := x7 r hr
          exact ⟨r1, hDk _ r2, r3, r4, by simp; omega, r6, r7, r8, OR_mono hlex (hold _ r5) r9⟩
      · rcases hDn j hdj with hdj | rfl
        · obtain ⟨r, hr, hro⟩ := x8 j hj hdj
          exact ⟨r, by simp [hr], hro⟩
        · exact ⟨r0, by simp, rfl⟩
    · obtain ⟨nw, l2', H, B', ι', rfl, s1, henv', g6, g7, fin⟩ := effect hk
      exact aop_sound hn hO hgl s1.rel (evalE_sound hgl henv') (g6 hwant) fun y W' sn2 ι2 hy hst => fin y W' sn2 ι2 hy hst
  · have hwf : wantedE ops.toList env o = false := by simpa using hwant
    rw [hw, if_neg hwant]
    refine ⟨fun f _ => trivial, ?_⟩
    by_cases hk : kind o = 3
    · obtain ⟨nw, l2', H, B', ι', rfl, s1, henv', g6, g7, fin⟩ := effect hk
      obtain ⟨rfl, rfl⟩ := g7 hwf
      exact fin undef W sn ι' vr_undef (Stp.refl s1.rel)
    · have := f1 hwf; subst this
      exact quiet (fun _ => hwf) hk undef vr_undef
theorem sim_all {rd : Option Nat} (hn : NoNum P) (hO : OrcSound P gl orc) (hg0 : GlOK gl sn0) (hR0 : R sn0 ι0 H0 W0) (c : Checked P gl orc ops.toList tm H0 s) {Q : Exit → Act → World → Prop}
    {N : Nat} (hQ : ∀ D a W, (∀ i, i < ops.size → D i = true) → Sim P gl orc ops.toList (ancs ops.toList []) tm s sn0 ι0 H0 W0 ds D a W → a.tmps.size = N → Q .normal a W) :
    ∀ (fuel : Nat) (listed : Array Bool) (a : Act) (W : World), listed.size = ops.size → ops.size ≤ fuel + (listed.toList.filter id).length → Closed ops.toList (fun i => listed.getD i false) →
      Sim P gl orc ops.toList (ancs ops.toList []) tm s sn0 ι0 H0 W0 ds (fun i => listed.getD i false) a W → (∀ o ∈ ops.toList, ∀ d, o.dst = some d → d < a.tmps.size) → a.tmps.size = N → wpAnyIn (Fq rd) 0 P .any ops Q fuel listed a W := by
  have hend : ∀ (listed : Array Bool), listed.size = ops.size → Region.ready .any ops listed = [] → ∀ i, i < ops.size → listed.getD i false = true := by
    intro listed hls hr i
    induction i using Nat.strongRecOn with
    | _ i ih =>
      intro hi
      cases hq : listed.getD i false with
      | true => rfl
      | false =>
        exfalso
        have hq' : listed.getD i true = false := by
          have hl : i < listed.size := by omega
          simp [Array.getD, hl] at hq ⊢; exact hq
        have hx : ops[i]? = some ops[i] := Array.getElem?_eq_getElem hi
        have : i ∈ Region.ready .any ops listed := by
          rw [mem_ready]
          refine ⟨hq', ops[i], hx, fun e he hb => ?_⟩
          have hbit := anc_direct (ops := ops.toList) (i := i) (by rw [Array.getElem?_toList]; exact hx) (Array.mem_toList_iff.2 he) hb
          have hbd := boundOk_spec (ancs ops.toList []) 0 i c.bound (by rw [anc_length]; simpa using hi)
          simp only [Nat.zero_add] at hbd
          have := bit_lt hbd hbit
          exact ih e.on this (by omega)
        rw [hr] at this; simp at this
  intro fuel
  induction fuel with
  | zero =>
    intro listed a W hls hcnt hcl hsim hsz hN
    have hall : ∀ i, i < ops.size → listed.getD i false = true := by
      intro i hi
      have hlen : (listed.toList.filter id).length = listed.toList.length := by
        have := List.length_filter_le id listed.toList
        simp at this ⊢; omega
      have := List.length_filter_eq_length_iff.1 hlen
      have hl : i < listed.size := by omega
      have h1 := this listed[i] (by simp)
      simp [Array.getD, hl]; simpa using h1
    refine ⟨?_, hQ _ a W hall hsim hN⟩
    rw [List.eq_nil_iff_forall_not_mem]
    intro i hi
    rw [mem_ready] at hi
    obtain ⟨h1, o, ho, _⟩ := hi
    have hlt : i < ops.size := (Array.getElem?_eq_some_iff.1 ho).1
    have h2 := hall i hlt
    have hl : i < listed.size := by omega
    simp [Array.getD, hl] at h1 h2
    rw [h1] at h2; cases h2
  | succ fuel ih =>
    intro listed a W hls hcnt hcl hsim hsz hN
    refine ⟨fun hr => hQ _ a W (hend listed hls hr) hsim hN, fun i hi => ?_⟩
    obtain ⟨h1, o, ho, hpre⟩ := mem_ready.1 hi
    have hlt : i < ops.size := (Array.getElem?_eq_some_iff.1 ho).1
    have hl : i < listed.size := by omega
    have hif : listed.getD i false = false := by simp [Array.getD, hl] at h1 ⊢; exact h1
    have hol : ops.toList[i]? = some o := by rw [Array.getElem?_toList]; exact ho
    have hanc : ∀ k, bit ((ancs ops.toList []).getD i 0) k = true → listed.getD k false = true := fun k hk =>
      closed_anc hcl i k o hol (fun e he hb => hpre e (Array.mem_toList_iff.1 he) hb) hk
    have hD' : ∀ k, (listed.setIfInBounds i true).getD k false = (listed.getD k false || Nat.beq k i) := by
      intro k
      by_cases hki : k = i
      · subst hki; simp [hl]
      · rw [getD_set_ne false (Ne.symm hki), beq_ne hki]; simp
    refine sim_step hn hO hg0 hR0 c hcl hif hol hanc hsim hsz hD' fun a' W' hs' hsz' => ?_
    refine ih _ a' W' (by simpa using hls) ?_ ?_ hs' (fun o ho d hd => by rw [hsz']; exact hsz o ho d hd) (hsz'.trans hN)
    ·
      have hcount : ((listed.setIfInBounds i true).toList.filter id).length = (listed.toList.filter id).length + 1 := by
        rw [Array.toList_setIfInBounds]
        have hli : listed.toList[i]? = some false := by
          rw [Array.getElem?_toList, Array.getElem?_eq_getElem hl]
          simp [Array.getD, hl] at hif; rw [hif]
        exact filter_set _ _ hli
      omega
    · intro k o' ho' hk e he hb
      show (listed.setIfInBounds i true).getD e.on false = true
      have hk : (listed.setIfInBounds i true).getD k false = true := hk
      rw [hD'] at hk ⊢
      simp only [Bool.or_eq_true] at hk ⊢
      rcases hk with hk | hk
      · exact .inl (hcl k o' ho' hk e he hb)
      · have := Nat.eq_of_beq_eq_true hk; subst this
        rw [hol] at ho'; simp at ho'; subst ho'
        exact .inl (hpre e (Array.mem_toList_iff.1 he) hb)
theorem adraw_sound {rd : Option Nat} (hm : P.follows .mixedOrders = true) (hn : NoNum P) (hO : OrcSound P gl orc) {sn : Snap} {ι : IMap} {H : AHeap} {W : World} {a : Act} (hg : GlOK gl sn) (hR : R sn ι H W) (ht : TRel sn ι tm a) {tm' : Tr} {H' : AHeap}
    (h : adraw P gl orc ops.toList tm H = some (tm', H')) {Q : Exit → Act → World → Prop} (hQ : ∀ a' W' sn' ι', Stp sn ι H W sn' ι' H' W' → TRel sn' ι' tm' a' → a'.defers = a.defers → Q .normal a' W') (id : Nat) :
    (Code.region id ops true).wpIn (Fq rd) 0 P Q a W := by
  unfold adraw at h
  simp only at h
  split at h <;> try (simp at h; done)
  rename_i hc1
  split at h <;> try (simp at h; done)
  rename_i s hs
  split at h <;> try (simp at h; done)
  rename_i hc2
  split at h <;> simp at h
  rename_i tm1 hfin
  obtain ⟨rfl, rfl⟩ := h
  simp only [Bool.and_eq_true] at hc1 hc2
  have c : Checked P gl orc ops.toList tm H s := ⟨druns_DI (DI.start H) hs, hc1.1, hc1.2, hc2.1.1, Nat.eq_of_beq_eq_true hc2.1.2, hc2.2⟩
  obtain ⟨hf1, hf2⟩ := finTmps_spec _ _ _ _ hfin
  have hst0 := Stp.ext hR (Ext.drew W)
  have hR0 := hst0.rel
  have hrep : ∀ i, (Array.replicate ops.size false).getD i false = false := fun i => by
    by_cases hi : i < ops.size <;> simp [Array.getD, hi]
  refine wpIn_region_any hm ?_
  refine sim_all (sn0 := sn) (ι0 := ι) (W0 := W.drew) (ds := a.defers) hn hO hg hR0 c ?_ ops.size _ a _ (by simp) (by omega) ?_ ?_ ?_ rfl
  · intro D a' W' hall hsim hN
    obtain ⟨sn', ι', l1, l2, B, pend, x1, x2, x3, x4, x5, x6, x7, x8, x9, x10⟩ := hsim.ex
    have hl2 : l2 = [] := by
      cases l2 with
      | nil => rfl
      | cons y l =>
        obtain ⟨p, q, r⟩ := y
        exfalso
        have h1 := x4 p (by simp [stFst])
        obtain ⟨_, _, he⟩ := x2.mem (p, q, r) (by simp)
        obtain ⟨o2, _, _, g1, _⟩ := he.ex
        have hp : p < ops.size := by have := (List.getElem?_eq_some_iff.1 g1.op).1; simpa using this
        rw [hall p hp] at h1; cases h1
    subst hl2
    cases x2
    have hnewD : ∀ j ∈ s.new, ∃ r ∈ pend, r.op = j := by
      intro j hj
      refine x8 j (by simp [news, hj]) ?_
      obtain ⟨_, _, ⟨o2, _, _, g1, _⟩, _⟩ := c.di.allocs.ids j hj
      exact hall j (by have := (List.getElem?_eq_some_iff.1 g1.op).1; simpa using this)
    obtain ⟨ι2, s1, e1, e2, e3⟩ := absorb_all c.di.allocs x6 x5 (fun r hr => by
        obtain ⟨r1, r2, r3, r4, r5, r6, r7, r8, r9⟩ := x7 r hr
        exact ⟨r1, r4, r5, r6, r7, r8, r9⟩) hnewD
    refine hQ a' W' sn' ι2 (hst0.trans hR s1) ?_ x10
    refine ⟨?_, fun t hx => by rw [hN]; exact ht.2 t (by rw [finTmps_tex hfin] at hx; exact hx)⟩
    intro t u hu
    rw [hf2 t _ rfl] at hu
    have hD : lastW s.vals D t ops.toList 0 (tget tm t) = lastW s.vals (fun _ => true) t ops.toList 0 (tget tm t) := lastW_congr _ _ _ fun k o hk _ => by
      simp only [Nat.zero_add]
      exact hall k (by have := (List.getElem?_eq_some_iff.1 hk).1; simpa using this)
    rw [← hD] at hu
    obtain ⟨y, h1, h2⟩ := x9 t u hu
    refine ⟨y, h1, VR_mono ⟨fun _ _ h => h, fun b q hq => ?_⟩ _ _ h2⟩
    rcases pex_case hq with hq1 | ⟨hn1, r, hr, hid, rfl⟩
    · exact e3.ι b q hq1
    · refine e2 b _ hq ?_
      obtain ⟨r1, r2, r3, _⟩ := x7 r hr
      simp only [news, List.nil_append] at r3
      obtain ⟨id', body, q1, _, q3⟩ := c.di.allocs.ids r.op r3
      obtain ⟨rfl, _⟩ := r1.uniq q1
      omega
  · intro i o ho hi
    have hi' := (hrep i).symm.trans hi; cases hi'
  · refine ⟨⟨sn, ι, [], s.sts, H, [], rfl, c.di.chain, by simp [stFst], fun i _ => hrep i, Stp.refl hR0, List.Pairwise.nil, by simp, fun i _ hi => (by have h2 := (hrep i).symm.trans hi; cases h2), ?_, rfl⟩⟩
    intro t u hu
    rw [lastW_none _ _ _ (fun k o _ _ => hrep _)] at hu
    obtain ⟨y, h1, h2⟩ := ht.1 t u hu
    exact ⟨y, h1, VR_mono (pex_le sn ι []) _ _ h2⟩
  · intro o ho d hd
    exact ht.2 d (hf1 o ho d hd)
end draw
end Go.Abs
end


section

set_option linter.unusedSimpArgs false
set_option linter.unusedVariables false
namespace Go.Abs
open Go.RowKit
section scope
variable {P : Program} {F : Fence} {n : Nat} {b : Frame} {a : Act} {k : List Item} {cs : List Frame} {w : World} {Q : Exit → Act → World → Prop}
theorem stepR_scope {c : Code} : step P (lone (b.atR a (.code (.scope c) :: k)) cs w) = .next (lone (b.atR a (.code c :: .inScope c :: k)) cs w) :=
  step_lone_go (by simp [stepG, stepG.exec, Frame.atR])
theorem stepR_inScope {c : Code} : step P (lone (b.atR a (.inScope c :: k)) cs w) = .next (lone (b.atR a k) cs w) :=
  step_lone_go (by simp [stepG, stepG.exec, Frame.atR])
theorem wpIn_scope_straight {c : Code} (h : c.wpIn F n P (Exit.noGoto Q) a w) : (Code.scope c).wpIn F n P Q a w := by
  intro b k cs hro hb hr
  have h0 : (lone (b.atR a (.code (.scope c) :: k)) cs w).fenced P F := fenced_calm hb hr rfl
  obtain ⟨e, a₁, w₁, hq, harr⟩ := h b (.inScope c :: k) cs hro hb hr
  cases e with
  | normal => exact ⟨.normal, a₁, w₁, hq, .head h0 stepR_scope (StepsIn.trans harr (.one (fenced_calm hb hr rfl) stepR_inScope))⟩
  | exit id =>
    have hx : exitTo id (.inScope c :: k) = exitTo id k := by simp [exitTo]
    exact ⟨.exit id, a₁, w₁, hq, fun k' hk => .head h0 stepR_scope (harr.1 k' (by rw [hx]; exact hk)),
      fun hr' hk => let ⟨k₁, h1, h2⟩ := harr.2 hr' (by rw [hx]; exact hk); ⟨k₁, h1, .head h0 stepR_scope h2⟩⟩
  | goto l => exact hq.elim
  | ret => exact ⟨_, a₁, w₁, hq, .of_steps (.one h0 stepR_scope) harr⟩
  | panic ch => exact ⟨_, a₁, w₁, hq, .of_steps (.one h0 stepR_scope) harr⟩
  | outgrown => exact ⟨_, a₁, w₁, hq, .of_steps (.one h0 stepR_scope) harr⟩
end scope
def exOf : AEx → Exit
  | .normal => .normal
  | .exit id => .exit id
  | .ret => .ret
section code
variable {P : Program} {gl : Glob} {orc : Orc} {fuel : Nat}
def CodeSound (P : Program) (gl : Glob) (rd : Option Nat) (c : Code) (f : Tr → AHeap → Option (AEx × Tr × AHeap)) : Prop :=
  ∀ (tm : Tr) (H : AHeap) (x : AEx) (tm' : Tr) (H' : AHeap) (a : Act) (W : World) (sn : Snap) (ι : IMap) (Q : Exit → Act → World → Prop), f tm H = some (x, tm', H') → GlOK gl sn → R sn ι H W → TRel sn ι tm a →
    (∀ a' W' sn' ι', Stp sn ι H W sn' ι' H' W' → TRel sn' ι' tm' a' → a'.defers = a.defers → Q (exOf x) a' W') → c.wpIn (Fq rd) 0 P Q a W
theorem loopN_sound {rd : Option Nat} {c : Code} {f : Tr → AHeap → Option (AEx × Tr × AHeap)} (hf : CodeSound P gl rd c f) : ∀ (n : Nat) (tm : Tr) (H : AHeap) (x : AEx) (tm' : Tr) (H' : AHeap) (a : Act) (W : World) (sn : Snap) (ι : IMap) (Q : Exit → Act → World → Prop), loopN f n tm H = some (x, tm', H') → GlOK gl sn → R sn ι H W → TRel sn ι tm a →
    (∀ a' W' sn' ι', Stp sn ι H W sn' ι' H' W' → TRel sn' ι' tm' a' → a'.defers = a.defers → Q (exOf x) a' W') → Code.roundsIn (Fq rd) 0 P c Q n a W
  | 0, tm, H, x, tm', H', a, W, sn, ι, Q, h, hg, hR, ht, hQ => by simp [loopN] at h
  | n + 1, tm, H, x, tm', H', a, W, sn, ι, Q, h, hg, hR, ht, hQ => by
    simp only [loopN] at h
    rw [roundsIn_succ]
    split at h
    · rename_i tm1 H1 h1
      refine hf _ _ _ _ _ _ _ _ _ _ h1 hg hR ht fun a1 W1 sn1 ι1 s1 t1 d1 => ?_
      show Code.roundsIn (Fq rd) 0 P c Q n a1 W1
      refine loopN_sound hf n _ _ _ _ _ _ _ sn1 ι1 Q h (hg.mono s1.le) s1.rel t1 fun a2 W2 sn2 ι2 s2 t2 d2 => ?_
      exact hQ _ _ _ _ (s1.trans hR s2) t2 (d2.trans d1)
    · rename_i hne
      refine hf _ _ _ _ _ _ _ _ _ _ h hg hR ht fun a1 W1 sn1 ι1 s1 t1 d1 => ?_
      have := hQ _ _ _ _ s1 t1 d1
      cases x with
      | normal => exact (hne _ _ h).elim
      | exit id => exact this
      | ret => exact this
theorem aexec_sound {rd : Option Nat} (hm : P.follows .mixedOrders = true) (hn : NoNum P) (hO : OrcSound P gl orc) : ∀ c : Code, CodeSound P gl rd c (aexec P gl orc fuel c)
  | .skip => by
    intro tm H x tm' H' a W sn ι Q h hg hR ht hQ
    simp [aexec] at h; obtain ⟨rfl, rfl, rfl⟩ := h
    exact wpIn_skip (hQ a W sn ι (Stp.refl hR) ht rfl)
  | .region id ops draw => by
    intro tm H x tm' H' a W sn ι Q h hg hR ht hQ
    simp only [aexec] at h
    split at h <;> simp at h
    obtain ⟨rfl, rfl, rfl⟩ := h
    rename_i tm1 H1 h1
    cases draw with
    | true => exact adraw_sound hm hn hO hg hR ht (by simpa using h1) (fun a' W' sn' ι' h1 h2 h3 => hQ a' W' sn' ι' h1 h2 h3) id
    | false => exact wpIn_region_list (aseq_sound hn hO ops _ _ _ _ _ _ _ _ _ (by simpa using h1) hg hR ht fun a' W' sn' ι' h1 h2 h3 => hQ a' W' sn' ι' h1 h2 h3)
  | .seq c d => by
    intro tm H x tm' H' a W sn ι Q h hg hR ht hQ
    simp only [aexec] at h
    refine wpIn_seq ?_
    split at h
    · rename_i tm1 H1 h1
      refine aexec_sound hm hn hO c _ _ _ _ _ _ _ _ _ _ h1 hg hR ht fun a1 W1 sn1 ι1 s1 t1 d1 => ?_
      show Code.wpIn (Fq rd) 0 P d Q a1 W1
      refine aexec_sound hm hn hO d _ _ _ _ _ _ _ sn1 ι1 Q h (hg.mono s1.le) s1.rel t1 fun a2 W2 sn2 ι2 s2 t2 d2 => ?_
      exact hQ _ _ _ _ (s1.trans hR s2) t2 (d2.trans d1)
    · rename_i hne
      refine aexec_sound hm hn hO c _ _ _ _ _ _ _ _ _ _ h hg hR ht fun a1 W1 sn1 ι1 s1 t1 d1 => ?_
      have := hQ _ _ _ _ s1 t1 d1
      cases x with
      | normal => exact (hne _ _ h).elim
      | exit id => exact this
      | ret => exact this
  | .cond e c d => by
    intro tm H x tm' H' a W sn ι Q h hg hR ht hQ
    simp only [aexec] at h
    split at h <;> try (simp at h; done)
    · rename_i he
      exact wpIn_cond_true (aeval_sound hg ht _ _ he).bool (aexec_sound hm hn hO c _ _ _ _ _ _ _ _ _ _ h hg hR ht hQ)
    · rename_i he
      exact wpIn_cond_false (aeval_sound hg ht _ _ he).bool (aexec_sound hm hn hO d _ _ _ _ _ _ _ _ _ _ h hg hR ht hQ)
  | .block id b => by
    intro tm H x tm' H' a W sn ι Q h hg hR ht hQ
    simp only [aexec] at h
    refine wpIn_block ?_
    split at h
    · rename_i id' tm1 H1 h1
      refine aexec_sound hm hn hO b _ _ _ _ _ _ _ _ _ _ h1 hg hR ht fun a1 W1 sn1 ι1 s1 t1 d1 => ?_
      show (if id' = id then Q .normal a1 W1 else Q (.exit id') a1 W1)
      split at h
      · rename_i e
        rw [if_pos (Nat.eq_of_beq_eq_true e)]
        simp at h; obtain ⟨rfl, rfl, rfl⟩ := h
        exact hQ _ _ _ _ s1 t1 d1
      · rename_i e
        rw [if_neg (fun e' => e (by simp [e']))]
        simp at h; obtain ⟨rfl, rfl, rfl⟩ := h
        exact hQ _ _ _ _ s1 t1 d1
    · rename_i hne
      refine aexec_sound hm hn hO b _ _ _ _ _ _ _ _ _ _ h hg hR ht fun a1 W1 sn1 ι1 s1 t1 d1 => ?_
      have := hQ _ _ _ _ s1 t1 d1
      cases x with
      | normal => exact this
      | exit id => exact (hne _ _ _ h).elim
      | ret => exact this
  | .loop b => by
    intro tm H x tm' H' a W sn ι Q h hg hR ht hQ
    simp only [aexec] at h
    exact wpIn_loop_rounds fuel (loopN_sound (aexec_sound hm hn hO b) fuel _ _ _ _ _ _ _ _ _ _ h hg hR ht hQ)
  | .exit id => by
    intro tm H x tm' H' a W sn ι Q h hg hR ht hQ
    simp [aexec] at h; obtain ⟨rfl, rfl, rfl⟩ := h
    exact wpIn_exit (hQ a W sn ι (Stp.refl hR) ht rfl)
  | .ret => by
    intro tm H x tm' H' a W sn ι Q h hg hR ht hQ
    simp [aexec] at h; obtain ⟨rfl, rfl, rfl⟩ := h
    exact wpIn_ret (hQ a W sn ι (Stp.refl hR) ht rfl)
  | .rangeFunc .. => fun tm H x tm' H' a W sn ι Q h hg hR ht hQ => by simp [aexec] at h
  | .scope b => by
    intro tm H x tm' H' a W sn ι Q h hg hR ht hQ
    simp only [aexec] at h
    refine wpIn_scope_straight (aexec_sound hm hn hO b _ _ _ _ _ _ _ _ _ _ h hg hR ht fun a1 W1 sn1 ι1 h1 h2 h3 => ?_)
    have := hQ a1 W1 sn1 ι1 h1 h2 h3
    cases x <;> exact this
  | .label l => by
    intro tm H x tm' H' a W sn ι Q h hg hR ht hQ
    simp [aexec] at h; obtain ⟨rfl, rfl, rfl⟩ := h
    exact wpIn_label (hQ a W sn ι (Stp.refl hR) ht rfl)
  | .goto .. => fun tm H x tm' H' a W sn ι Q h hg hR ht hQ => by simp [aexec] at h
  | .refuse .. => fun tm H x tm' H' a W sn ι Q h hg hR ht hQ => by simp [aexec] at h
end code
section fin
variable {P : Program} {gl : Glob} {sn : Snap} {ι : IMap} {H : AHeap} {W : World}
theorem tget_eval {a : Act} {tm : Tr} (ht : TRel sn ι tm a) {t : Nat} {u : AV} (h : tget tm t = some u) : VR sn ι u (a.tmps.getD t undef) := by
  obtain ⟨v, h1, h2⟩ := ht.1 t u h
  simpa [Array.getD_eq_getD_getElem?, h1] using h2
theorem aress_sound (hR : R sn ι H W) {tm : Tr} {a : Act} (ht : TRel sn ι tm a) : ∀ (l : List ResultVar) (us : List AV), aress P tm H l = some us → ∃ vs : List Value, LR sn ι us vs ∧
    (l.mapM fun r => (match r with | .tmp t => pure (a.tmps.getD t undef) | .cell ad t => do loadVar t (← asAddr (a.tmps.getD ad undef)) : Sem Value)).run P W = .ok vs W
  | [], us, h => by simp [aress] at h; subst h; exact ⟨[], by simp [LR], by simp⟩
  | .tmp t :: l, us, h => by
    simp only [aress] at h
    split at h <;> simp at h
    subst h; rename_i v vs hv hvs
    obtain ⟨vs', h1, h2⟩ := aress_sound hR ht l _ hvs
    refine ⟨a.tmps.getD t undef :: vs', ?_, ?_⟩
    · simp only [LR]; exact ⟨_, _, rfl, tget_eval ht hv, h1⟩
    · rw [List.mapM_cons]
      simp only [Sem.run_bind, Sem.run_pure, Result.andThen_ok]
      rw [h2]; rfl
  | .cell ad t :: l, us, h => by
    simp only [aress] at h
    split at h <;> try (simp at h; done)
    rename_i b off hb
    split at h <;> simp at h
    subst h; rename_i v vs hv hvs
    obtain ⟨vs', h1, h2⟩ := aress_sound hR ht l _ hvs
    obtain ⟨x, y, e1, e2, e3⟩ := loadVar_sound hR.ro hv (tget_eval ht hb)
    refine ⟨y :: vs', ?_, ?_⟩
    · simp only [LR]; exact ⟨_, _, rfl, e3, h1⟩
    · have hy : (do loadVar t (← asAddr (a.tmps.getD ad undef)) : Sem Value).run P W = .ok y W := by
        simp only [Sem.run_bind, e1, asAddr, Sem.run_pure, Result.andThen_ok, e2]
      generalize hF : (fun r : ResultVar => (match r with | .tmp t => pure (a.tmps.getD t undef) | .cell ad t => do loadVar t (← asAddr (a.tmps.getD ad undef)) : Sem Value)) = F at h2 ⊢
      have hFc : (F (.cell ad t)).run P W = .ok y W := by subst hF; exact hy
      rw [List.mapM_cons]
      simp only [Sem.run_bind, Sem.run_pure, Result.andThen_ok, hFc, h2]
theorem results_list {fn : Func} {tmps : Array Value} {vs : List Value} (h : (fn.results.toList.mapM fun r => (match r with | .tmp t => pure (tmps.getD t undef) | .cell ad t => do loadVar t (← asAddr (tmps.getD ad undef)) : Sem Value)).run P W = .ok vs W) :
    (results fn tmps).run P W = .ok (if h : vs.toArray.size = 1 then vs.toArray[0] else .tuple vs.toArray) W := by
  unfold results
  rw [Array.mapM_eq_mapM_toList, Sem.run_bind, Sem.run_map]
  refine (congrArg (fun z => Result.andThen (Result.andThen z (fun a w' => .ok a.toArray w')) (fun a w' => (pure (if h : a.size = 1 then a[0] else .tuple a) : Sem Value).run P w')) h).trans ?_
  rfl
theorem tini_sound {args : List AV} {cargs : List Value} (ha : LR sn ι args cargs) (n m d : Nat) : TRel sn ι (tmk (tini args n m) d) { tmps := cargs.toArray ++ Array.replicate (n - cargs.toArray.size) undef, defers := [] } := by
  have h1 : ∀ t u, tini args n m t = some u → ∃ v, (cargs.toArray ++ Array.replicate (n - cargs.toArray.size) undef)[t]? = some v ∧ VR sn ι u v := by
   intro t u h
   have hl := ha.length
   unfold tini at h
   split at h
   · simp at h; subst h
     rename_i v hv
     obtain ⟨x, h1, h2⟩ := ha.get hv
     refine ⟨x, ?_, h2⟩
     have ht : t < cargs.length := (List.getElem?_eq_some_iff.1 h1).1
     rw [Array.getElem?_append_left (by simpa using ht)]
     simpa using h1
   · rename_i hv
     split at h <;> simp at h
     subst h; rename_i hb
     have hb' : t < n := by simpa [Nat.blt_eq] using hb
     have hv' : args.length ≤ t := by simpa using hv
     refine ⟨undef, ?_, vr_undef⟩
     rw [Array.getElem?_append_right (by simp; omega)]
     simp only [Array.getElem?_replicate]
     rw [if_pos (by simp; omega)]
  refine ⟨fun t u hu => h1 t u (tmk_get _ _ _ _ hu), fun t hx => ?_⟩
  obtain ⟨u, hu⟩ := tmk_tex _ _ _ hx
  obtain ⟨v, hv, _⟩ := h1 t u hu
  exact (Array.getElem?_eq_some_iff.1 hv).1
theorem afunc_sound {orc : Orc} {fuel : Nat} (hm : P.follows .mixedOrders = true) (hn : NoNum P) (hO : OrcSound P gl orc) : OrcSound P gl (fun f args H => afunc P gl orc fuel f args H) := by
  intro f args H r H' h sn ι W cargs hg hR ha
  simp only [afunc] at h
  split at h <;> try (simp at h; done)
  rename_i fn hfn
  split at h <;> try (simp at h; done)
  rename_i c hc
  simp only [frcVL_eq, frcH_eq] at h
  split at h <;> try (simp at h; done)
  rename_i x tm H1 hx
  refine .inl (calls_of_wp hfn hc (wpIn_wide.1 (aexec_sound (rd := none) hm hn hO c _ _ _ _ _ _ _ sn ι _ hx hg hR (tini_sound ha _ _ _) fun a1 W1 sn1 ι1 s1 t1 d1 => ?_)))
  have key : ∀ {y}, (match aress P tm H1 fn.results.toList with
        | some [v] => some (v, H1)
        | some vs => some (.tuple vs, H1)
        | none => none) = some y → y = (r, H') → ∃ v, (results fn a1.tmps).run P W1 = .ok v W1 ∧ VR sn1 ι1 r v ∧ H1 = H' := by
    rintro y h rfl
    split at h <;> try (simp at h; done)
    · rename_i v hv
      obtain ⟨vs, h1, h2⟩ := aress_sound s1.rel t1 _ _ hv
      simp only [LR] at h1
      obtain ⟨d, ds, rfl, hd, rfl⟩ := h1
      simp at h; obtain ⟨rfl, rfl⟩ := h
      refine ⟨d, ?_, hd, rfl⟩
      rw [results_list h2]; rfl
    · rename_i us hus hv
      obtain ⟨vs, h1, h2⟩ := aress_sound s1.rel t1 _ _ hv
      simp at h; obtain ⟨rfl, rfl⟩ := h
      refine ⟨.tuple vs.toArray, ?_, by simpa [VR] using h1, rfl⟩
      rw [results_list h2]
      have hl := h1.length
      have : vs.length ≠ 1 := by
        intro e
        rw [e] at hl
        match us, hl with
        | [u], _ => exact hus u rfl
      simp [this]
  cases x with
  | normal =>
    obtain ⟨v, k1, k2, rfl⟩ := key h rfl
    exact bodyPost_end k1 d1 ⟨v, sn1, ι1, rfl, k2, s1⟩
  | exit id => simp at h
  | ret =>
    obtain ⟨v, k1, k2, rfl⟩ := key h rfl
    exact bodyPost_ret k1 d1 ⟨v, sn1, ι1, rfl, k2, s1⟩
end fin
end Go.Abs
end


section

set_option linter.unusedSimpArgs false
set_option linter.unusedVariables false
namespace Go.Abs
open Go.RowKit Go.ChangeShapes Go.WideShapes Go.ChangeAt
def snap0 (W : World) : Snap := fun a => if a.block < W.heap.size then W.cell? a else none
theorem R0 (W : World) : R (snap0 W) noI [] W := by
  refine ⟨fun b => ?_, fun b p h => ?_, fun b o p h => ?_, fun b b' o o' p p' h => ?_, fun a v h => ?_, fun b o p h => by simp at h⟩
  · simp [noI]
  · simp [noI] at h
  · simp at h
  · simp at h
  · unfold snap0 at h
    split at h
    · rename_i hb
      exact ⟨hb, h, fun b o p h => by simp at h⟩
    · simp at h
theorem Stp.below {W W' : World} {sn : Snap} {ι : IMap} {H : AHeap} (h : Stp (snap0 W) noI [] W sn ι H W') : Below W.heap.size W W' :=
  ⟨h.os, h.tape, h.output, h.size, fun c hc => h.frame c hc fun b o p hb => by simp at hb⟩
section av
variable {H : Type} {P : Program}
def fsAv (f : TypeId → DataW H → Option (List AV)) (P : Program) (tot : Nat) : List Field → List (DataW H) → Nat → Option (List AV)
  | [], [], off => if Nat.beq off tot then some [] else none
  | fl :: fs, d :: ds, off => if Nat.beq fl.offset off then
      match f fl.type d, fsAv f P tot fs ds (off + P.cellsOf fl.type) with
      | some u, some us => if Nat.beq u.length (P.cellsOf fl.type) then some (u ++ us) else none
      | _, _ => none
    else none
  | _, _, _ => none
def esAv (f : DataW H → Option (List AV)) (ct : Nat) : List (DataW H) → Option (List AV)
  | [] => some []
  | d :: ds => match f d, esAv f ct ds with
    | some u, some us => if Nat.beq u.length ct then some (u ++ us) else none
    | _, _ => none
def avOf (P : Program) : Nat → TypeId → DataW H → Option (List AV)
  | 0, _, _ => none
  | n + 1, t, d => match P.underlying t, d with
    | some .bool, .lit (.bool b) => some [.bool b]
    | some (.int k), .lit (.int _ z) => some [.int k z]
    | some .string, .lit (.string s) => some [.str s]
    | some (.struct fs), .agg ds => fsAv (avOf P n) P (P.cellsOf t) fs.toList ds 0
    | some (.array m e), .agg ds => if Nat.beq (ds.length * P.cellsOf e) (P.cellsOf t) && Nat.beq ds.length m then esAv (avOf P n e) (P.cellsOf e) ds else none
    | _, _ => none
variable {enc : TypeId × Value → H} {w : World} {base : Nat} {sp : Nat → Bool} {held : Bool} {sn : Snap} {ι : IMap}
theorem fsAv_sound {f : TypeId → DataW H → Option (List AV)} {m tot : Nat} (hf : ∀ t d us cs p, f t d = some us → DataW.trod enc P w base sp held m t cs = some (d, p) → LR sn ι us cs) (cs : List Value) (hl : cs.length = tot) :
    ∀ (fs : List Field) (xs : List (DataW H × List MemPlace)) (off : Nat) (us : List AV), fsAv f P tot fs (xs.map (·.1)) off = some us →
      (∀ (i : Nat) (fl : Field), fs[i]? = some fl → DataW.trod enc P w base sp held m fl.type ((cs.drop fl.offset).take (P.cellsOf fl.type)) = xs[i]?) → LR sn ι us (cs.drop off)
  | [], [], off, us, h, hx => by
    simp only [fsAv, List.map_nil] at h
    split at h <;> simp at h
    subst h; rename_i e
    have := Nat.eq_of_beq_eq_true e
    simp [LR]; omega
  | [], x :: xs, off, us, h, hx => by simp [fsAv] at h
  | fl :: fs, [], off, us, h, hx => by simp [fsAv] at h
  | fl :: fs, x :: xs, off, us, h, hx => by
    simp only [fsAv, List.map_cons] at h
    split at h <;> try (simp at h; done)
    rename_i e
    have := Nat.eq_of_beq_eq_true e; subst this
    split at h <;> try (simp at h; done)
    rename_i u us' hu hus
    split at h <;> simp at h
    subst h; rename_i hul
    have hul' := Nat.eq_of_beq_eq_true hul
    have h0 := hx 0 fl rfl
    simp only [List.getElem?_cons_zero] at h0
    have h1 := hf _ _ _ _ _ hu h0
    have h2 := fsAv_sound hf cs hl fs xs _ _ hus fun i fl' hi => by simpa using hx (i + 1) fl' (by simpa using hi)
    have := h1.append h2
    rwa [← List.drop_drop, List.take_append_drop] at this
theorem esAv_sound {f : DataW H → Option (List AV)} {m ct : Nat} {e : TypeId} (hf : ∀ d us cs p, f d = some us → DataW.trod enc P w base sp held m e cs = some (d, p) → LR sn ι us cs) (cs : List Value) :
    ∀ (xs : List (DataW H × List MemPlace)) (k : Nat) (us : List AV), cs.length = (k + xs.length) * ct → esAv f ct (xs.map (·.1)) = some us →
      (∀ (i : Nat), i < xs.length → DataW.trod enc P w base sp held m e ((cs.drop ((k + i) * ct)).take ct) = xs[i]?) → LR sn ι us (cs.drop (k * ct))
  | [], k, us, hl, h, hx => by
    simp [esAv] at h; subst h
    simp at hl
    simp [LR, hl]
  | x :: xs, k, us, hl, h, hx => by
    simp only [esAv, List.map_cons] at h
    split at h <;> try (simp at h; done)
    rename_i u us' hu hus
    split at h <;> simp at h
    subst h
    have h0 := hx 0 (by simp)
    simp only [List.getElem?_cons_zero, Nat.add_zero] at h0
    have h1 := hf _ _ _ _ hu h0
    have h2 := esAv_sound hf cs xs (k + 1) _ (by rw [hl]; simp only [List.length_cons]; congr 1; omega) hus fun i hi => by
      have := hx (i + 1) (by simpa using hi)
      rw [show k + 1 + i = k + (i + 1) from by omega]
      simpa using this
    have := h1.append h2
    rwa [show (k + 1) * ct = k * ct + ct from by rw [Nat.add_mul]; simp, ← List.drop_drop, List.take_append_drop] at this
theorem avOf_sound : ∀ (n : Nat) (t : TypeId) (d : DataW H) (us : List AV) (m : Nat) (cs : List Value) (p : List MemPlace), avOf P n t d = some us → DataW.trod enc P w base sp held m t cs = some (d, p) → LR sn ι us cs
  | 0, t, d, us, m, cs, p, h, ht => by simp [avOf] at h
  | n + 1, t, d, us, m, cs, p, h, ht => by
    simp only [avOf] at h
    split at h <;> try (simp at h; done)
    · rename_i b hu
      simp at h; subst h
      obtain ⟨b', rfl, hx⟩ := DataW.trod_bool hu ht
      simp at hx; simp [LR, VR, hx]
    · rename_i k k' z hu
      simp at h; subst h
      obtain ⟨z', rfl, hx, _⟩ := DataW.trod_int hu ht
      simp at hx; simp [LR, VR, hx]
    · rename_i s hu
      simp at h; subst h
      obtain ⟨s', rfl, hx, _⟩ := DataW.trod_string hu ht
      simp at hx; simp [LR, VR, hx]
    · rename_i fs ds hu
      obtain ⟨xs, m', rfl, hx, hl, hlen, hf⟩ := DataW.trod_struct hu ht
      simp at hx
      obtain ⟨rfl, _⟩ := hx
      have := fsAv_sound (m := m') (fun t d us cs p h1 h2 => avOf_sound n t d us m' cs p h1 h2) cs hl fs.toList xs 0 us (by simpa using h) fun i fl hi => hf i fl (by simpa using hi)
      simpa using this
    · rename_i k e ds hu
      split at h <;> try (simp at h; done)
      rename_i hc
      simp only [Bool.and_eq_true] at hc
      obtain ⟨xs, m', rfl, hx, hl, hlen, hf⟩ := DataW.trod_array hu ht
      simp at hx
      obtain ⟨rfl, _⟩ := hx
      have e1 := Nat.eq_of_beq_eq_true hc.1
      have := esAv_sound (m := m') (ct := P.cellsOf e) (e := e) (fun d us cs p h1 h2 => avOf_sound n e d us m' cs p h1 h2) cs xs 0 us (by rw [hl, ← e1]; simp) (by simpa using h) fun i hi => by simpa using hf i (by omega)
      simpa using this
theorem MR_of_LR {W : World} {g : Nat} (hg : g < W.heap.size) : ∀ (us : List AV) (vs : List Value) (o : Nat), LR (snap0 W) noI us vs → (∀ (i : Nat) (v : Value), vs[i]? = some v → W.cell? ⟨g, o + i, none⟩ = some v) → MR (snap0 W) us g o
  | [], vs, o, h, hc => by simp [MR]
  | u :: us, vs, o, h, hc => by
    simp only [LR] at h
    obtain ⟨d, ds, rfl, h1, h2⟩ := h
    simp only [MR]
    refine ⟨⟨d, ?_, h1⟩, MR_of_LR hg us ds (o + 1) h2 fun i v hi => ?_⟩
    · unfold snap0; rw [if_pos hg]; simpa using hc 0 d rfl
    · rw [show o + 1 + i = o + (i + 1) from by omega]; exact hc (i + 1) v (by simpa using hi)
end av
theorem laid_glob {P : Program} {W : World} {name : String} {d : DataW Unit} {g n : Nat} {t : TypeId} {us : List AV}
    (hg : P.globalNamed name = some g) (hty : (P.globals[g]?).map (·.type) = some t) (ha : avOf P n t d = some us) {rest : List (String × DataW Unit)} {ps : List MemPlace} (h : DataW.LaidVars P W ((name, d) :: rest) ps) :
    MR (snap0 W) us g 0 ∧ ∃ qs, DataW.LaidVars P W rest qs := by
  obtain ⟨g', t', cs, fuel, p, q, hg', ht', hvar, hd, hr, _⟩ := h
  obtain rfl := Option.some.inj (hg.symm.trans hg')
  obtain rfl := Option.some.inj (hty.symm.trans ht')
  have h1 : LR (snap0 W) noI us cs.toList := avOf_sound n t d us fuel cs.toList p ha hd
  have hb : g < W.heap.size := by
    simp only [World.var?, hg, Option.bind_some] at hvar
    split at hvar
    · rename_i hh; exact (Array.getElem?_eq_some_iff.1 hh).1
    · simp at hvar
  refine ⟨MR_of_LR hb us cs.toList 0 h1 fun i v hi => ?_, q, hr⟩
  rw [Nat.zero_add, World.var?_cell hg hvar]; simpa using hi
theorem post_below {H : Type} {enc : TypeId × Value → H} {P : Program} {f : Func} {s : ChangeSpec} {apart fresh handsOn again : Bool} {W W' : World} {args : Array Value} {v : Value} {ds gs : List (DataW H)} {before pa pv : List MemPlace}
    (hW : DataW.Whole enc P f.params.toList s.vars apart W args.toList ds gs before)
    (hres : ∀ (b : Nat) (sp : Nat → Bool) (hd : Bool), DataW.TrodAll enc P W' b sp hd f.resultTypes.toList (v.resultList f.resultTypes.size) (s.fn H (ds ++ gs)).results [])
    (hargs : ∀ sp : Nat → Bool, (∀ p ∈ before, sp p.block = true) → DataW.TrodAll enc P W' 0 sp true f.params.toList args.toList (s.fn H (ds ++ gs)).args pa)
    (hvars : ∀ sp : Nat → Bool, (∀ p ∈ before, sp p.block = true) → DataW.TrodVars enc P W' sp s.vars (s.fn H (ds ++ gs)).vars pv)
    (hps : before = pa ++ pv) (hb : Below W.heap.size W W')
    (hok : ∀ (j : Nat) (t : TypeId) (r : Value), f.resultTypes[j]? = some t → (v.resultList f.resultTypes.size)[j]? = some r → Value.okWide P W' .any 0 t r) :
    s.post enc P f apart fresh handsOn again W args v W' := by
  have hlt : ∀ p ∈ before, p.block < W.heap.size := fun p hp => hW.lt p hp
  have hold : ∀ p ∈ before, (fun b => decide (b < W.heap.size)) p.block = true := fun p hp => by simpa using hlt p hp
  have hW' := hW
  obtain ⟨_, _, _, _, _, hz, hn⟩ := hW'
  refine ⟨ds, gs, before, [], pa, pv, hW, hres _ _ _, hargs _ hold, hvars _ hold, hb.frame _, fun _ => ⟨hok, _, _, ([] ++ pa) ++ pv, ⟨[] ++ pa, pv, trodAll_append (hargs _ (fun _ _ => rfl)) (hres _ _ _), hvars _ (fun _ _ => rfl), rfl, ?_, ?_⟩, ?_⟩⟩
  · intro b off hp
    have hp' : MemPlace.cell b off ∈ before := by rw [hps]; simpa using hp
    rw [hb.frozen (hlt _ hp')]
    exact hz b off hp'
  · intro ha
    have := hn ha
    rw [hps] at this
    simpa using this
  · intro p hp _
    rw [hps]
    simpa using hp
end Go.Abs
end


section

set_option linter.unusedSimpArgs false
set_option linter.unusedVariables false
namespace Go.Abs
open Go.RowKit
def memA (f : Nat) (args : List AV) : List (Nat × List AV) → Bool
  | [] => false
  | (g, az) :: l => (Nat.beq f g && veqL args az) || memA f args l
end Go.Abs
end


section

set_option linter.unusedSimpArgs false
set_option linter.unusedVariables false
namespace Go.Abs
open Go.RowKit
structure N8 (α : Type) where
  a0 : α
  a1 : α
  a2 : α
  a3 : α
  a4 : α
  a5 : α
  a6 : α
  a7 : α
structure Bx (α : Type) where
  v : α
def N8.sel {α : Type} (e : N8 α) : Nat → α
  | 0 => e.a0 | 1 => e.a1 | 2 => e.a2 | 3 => e.a3 | 4 => e.a4 | 5 => e.a5 | 6 => e.a6 | _ => e.a7
def N8.upd {α : Type} (e : N8 α) (v : α) : Nat → N8 α
  | 0 => { e with a0 := v } | 1 => { e with a1 := v } | 2 => { e with a2 := v } | 3 => { e with a3 := v } | 4 => { e with a4 := v } | 5 => { e with a5 := v } | 6 => { e with a6 := v } | _ => { e with a7 := v }
theorem N8.sel_upd {α : Type} (e : N8 α) (v : α) {i j : Nat} (hi : i < 8) (hj : j < 8) : (e.upd v i).sel j = if j = i then v else e.sel j := by
  match i, hi with
  | 0, _ | 1, _ | 2, _ | 3, _ | 4, _ | 5, _ | 6, _ | 7, _ =>
    match j, hj with
    | 0, _ | 1, _ | 2, _ | 3, _ | 4, _ | 5, _ | 6, _ | 7, _ => simp [N8.upd, N8.sel]
def Tre (α : Type) : Nat → Type
  | 0 => α
  | d + 1 => N8 (Tre α d)
def teget {α : Type} : (d : Nat) → Nat → Tre α d → α
  | 0, _, e => e
  | d + 1, t, e => teget d (t / 8) (N8.sel e (t % 8))
def teput {α : Type} : (d : Nat) → Nat → α → Tre α d → Tre α d
  | 0, _, v, _ => v
  | d + 1, t, v, e => N8.upd e (teput d (t / 8) v (N8.sel e (t % 8))) (t % 8)
theorem teget_put {α : Type} : ∀ (d t s : Nat) (v : α) (e : Tre α d), t < 8 ^ d → s < 8 ^ d → teget d s (teput d t v e) = if s = t then v else teget d s e
  | 0, t, s, v, e, ht, hs => by
    simp at ht hs; subst ht; subst hs; simp [teget, teput]
  | d + 1, t, s, v, e, ht, hs => by
    have ht' : t / 8 < 8 ^ d := by rw [Nat.pow_succ] at ht; omega
    have hs' : s / 8 < 8 ^ d := by rw [Nat.pow_succ] at hs; omega
    refine (congrArg (teget d (s / 8)) (N8.sel_upd (α := Tre α d) e (teput d (t / 8) v (N8.sel (α := Tre α d) e (t % 8))) (i := t % 8) (j := s % 8) (by omega) (by omega))).trans ?_
    by_cases h : s % 8 = t % 8
    · rw [if_pos h, teget_put d _ _ _ _ ht' hs']
      have e1 : (s / 8 = t / 8) ↔ s = t := by omega
      have e2 : teget (d + 1) s e = teget d (s / 8) (N8.sel (α := Tre α d) e (t % 8)) := by rw [← h]; rfl
      rw [e2]; simp only [e1]
    · rw [if_neg h, if_neg (by intro e; exact h (by rw [e]))]; rfl
noncomputable def selB {α : Type} (k : Nat) : Bx (N8 α → α) :=
  Nat.rec ⟨fun e => e.a0⟩ (fun k _ => Nat.rec ⟨fun e => e.a1⟩ (fun k _ => Nat.rec ⟨fun e => e.a2⟩ (fun k _ => Nat.rec ⟨fun e => e.a3⟩ (fun k _ => Nat.rec ⟨fun e => e.a4⟩ (fun k _ => Nat.rec ⟨fun e => e.a5⟩
    (fun k _ => Nat.rec ⟨fun e => e.a6⟩ (fun _ _ => ⟨fun e => e.a7⟩) k) k) k) k) k) k) k
theorem selB_eq {α : Type} : ∀ (k : Nat) (e : N8 α), (selB k).v e = e.sel k
  | 0, _ | 1, _ | 2, _ | 3, _ | 4, _ | 5, _ | 6, _ | _ + 7, _ => rfl
noncomputable def getB (α : Type) (d : Nat) : Nat → Bx (Tre α d → α) :=
  Nat.rec (motive := fun d => Nat → Bx (Tre α d → α)) (fun _ => ⟨fun e => e⟩) (fun d ih t => Bx.rec (fun g => Bx.rec (fun s => ⟨fun e => g (s e)⟩) (selB (α := Tre α d) (Nat.mod t 8))) (ih (Nat.div t 8))) d
theorem getB_eq {α : Type} : ∀ (d t : Nat) (e : Tre α d), (getB α d t).v e = teget d t e
  | 0, t, e => rfl
  | d + 1, t, e => by
    refine (congrArg (getB α d (t / 8)).v (selB_eq (α := Tre α d) (t % 8) e)).trans ?_
    exact getB_eq d _ _
abbrev PutT (α β : Type) (d : Nat) := α → Tre α d → (Tre α d → β) → β
noncomputable def putN {α β γ : Type} (k : Nat) : Bx ((α → γ → (γ → β) → β) → α → N8 γ → (N8 γ → β) → β) :=
  Nat.rec ⟨fun g v e f => N8.rec (fun a0 a1 a2 a3 a4 a5 a6 a7 => g v a0 fun x => f ⟨x, a1, a2, a3, a4, a5, a6, a7⟩) e⟩ (fun k _ =>
  Nat.rec ⟨fun g v e f => N8.rec (fun a0 a1 a2 a3 a4 a5 a6 a7 => g v a1 fun x => f ⟨a0, x, a2, a3, a4, a5, a6, a7⟩) e⟩ (fun k _ =>
  Nat.rec ⟨fun g v e f => N8.rec (fun a0 a1 a2 a3 a4 a5 a6 a7 => g v a2 fun x => f ⟨a0, a1, x, a3, a4, a5, a6, a7⟩) e⟩ (fun k _ =>
  Nat.rec ⟨fun g v e f => N8.rec (fun a0 a1 a2 a3 a4 a5 a6 a7 => g v a3 fun x => f ⟨a0, a1, a2, x, a4, a5, a6, a7⟩) e⟩ (fun k _ =>
  Nat.rec ⟨fun g v e f => N8.rec (fun a0 a1 a2 a3 a4 a5 a6 a7 => g v a4 fun x => f ⟨a0, a1, a2, a3, x, a5, a6, a7⟩) e⟩ (fun k _ =>
  Nat.rec ⟨fun g v e f => N8.rec (fun a0 a1 a2 a3 a4 a5 a6 a7 => g v a5 fun x => f ⟨a0, a1, a2, a3, a4, x, a6, a7⟩) e⟩ (fun k _ =>
  Nat.rec ⟨fun g v e f => N8.rec (fun a0 a1 a2 a3 a4 a5 a6 a7 => g v a6 fun x => f ⟨a0, a1, a2, a3, a4, a5, x, a7⟩) e⟩ (fun _ _ =>
  ⟨fun g v e f => N8.rec (fun a0 a1 a2 a3 a4 a5 a6 a7 => g v a7 fun x => f ⟨a0, a1, a2, a3, a4, a5, a6, x⟩) e⟩) k) k) k) k) k) k) k
theorem putN_eq {α β γ : Type} : ∀ (k : Nat) (g : α → γ → (γ → β) → β) (v : α) (e : N8 γ) (f : N8 γ → β), (putN k).v g v e f = g v (e.sel k) fun x => f (e.upd x k)
  | 0, _, _, _, _ | 1, _, _, _, _ | 2, _, _, _, _ | 3, _, _, _, _ | 4, _, _, _, _ | 5, _, _, _, _ | 6, _, _, _, _ | _ + 7, _, _, _, _ => rfl
noncomputable def putB (α β : Type) (d : Nat) : Nat → Bx (PutT α β d) :=
  Nat.rec (motive := fun d => Nat → Bx (PutT α β d)) (fun _ => ⟨fun v _ f => f v⟩) (fun d ih t => Bx.rec (fun g => Bx.rec (fun s => ⟨fun v e f => s g v e f⟩) (putN (γ := Tre α d) (Nat.mod t 8))) (ih (Nat.div t 8))) d
theorem putB_eq {α β : Type} : ∀ (d t : Nat) (v : α) (e : Tre α d) (f : Tre α d → β), (putB α β d t).v v e f = f (teput d t v e)
  | 0, t, v, e, f => rfl
  | d + 1, t, v, e, f => by
    refine (putN_eq (γ := Tre α d) (t % 8) (putB α β d (t / 8)).v v e f).trans ?_
    exact putB_eq d _ _ _ _
def tesame {α : Type} (v : α) : (d : Nat) → Tre α d
  | 0 => v
  | d + 1 => ⟨tesame v d, tesame v d, tesame v d, tesame v d, tesame v d, tesame v d, tesame v d, tesame v d⟩
theorem teget_same {α : Type} (v : α) : ∀ (d t : Nat), teget d t (tesame v d) = v
  | 0, t => rfl
  | d + 1, t => by
    simp only [teget, tesame]
    have : ∀ k, N8.sel (⟨tesame v d, tesame v d, tesame v d, tesame v d, tesame v d, tesame v d, tesame v d, tesame v d⟩ : N8 (Tre α d)) k = tesame v d := by
      intro k; match k with
      | 0 | 1 | 2 | 3 | 4 | 5 | 6 | _ + 7 => rfl
    rw [this]; exact teget_same v d _
def BT (α : Type) : Nat → Type
  | 0 => α
  | d + 1 => BT α d × BT α d
noncomputable def btget {α : Type} (z : α) (d : Nat) : Nat → BT α d → α :=
  Nat.rec (motive := fun d => Nat → BT α d → α) (fun b t => Bool.rec z t (Nat.beq b 0)) (fun _ ih b t => ih (Nat.div b 2) (Bool.rec t.2 t.1 (Nat.beq (Nat.mod b 2) 0))) d
noncomputable def btput {α : Type} (d : Nat) : Nat → α → BT α d → BT α d :=
  Nat.rec (motive := fun d => Nat → α → BT α d → BT α d) (fun _ v _ => v) (fun _ ih b v t => Bool.rec (t.1, ih (Nat.div b 2) v t.2) (ih (Nat.div b 2) v t.1, t.2) (Nat.beq (Nat.mod b 2) 0)) d
noncomputable def btputK {α β : Type} (d : Nat) : Nat → α → BT α d → (BT α d → β) → β :=
  Nat.rec (motive := fun d => Nat → α → BT α d → (BT α d → β) → β) (fun _ v _ f => f v)
    (fun _ ih b v t f => Prod.rec (fun l r => Bool.rec (ih (Nat.div b 2) v r fun x => f (l, x)) (ih (Nat.div b 2) v l fun x => f (x, r)) (Nat.beq (Nat.mod b 2) 0)) t) d
theorem btputK_eq {α β : Type} : ∀ (d b : Nat) (v : α) (t : BT α d) (f : BT α d → β), btputK d b v t f = f (btput d b v t)
  | 0, b, v, t, f => rfl
  | d + 1, b, v, (l, r), f => by
    show (Bool.rec (btputK d (b / 2) v r fun x => f (l, x)) (btputK d (b / 2) v l fun x => f (x, r)) (Nat.beq (b % 2) 0) : β) = f (Bool.rec (l, btput d (b / 2) v r) (btput d (b / 2) v l, r) (Nat.beq (b % 2) 0))
    cases Nat.beq (b % 2) 0 with
    | true => exact btputK_eq d _ _ _ _
    | false => exact btputK_eq d _ _ _ _
theorem btget_put {α : Type} (z : α) : ∀ (d b c : Nat) (v : α) (t : BT α d), b < 2 ^ d → btget z d c (btput d b v t) = if c = b then v else btget z d c t
  | 0, b, c, v, t, h => by
    simp at h; subst h
    show (Bool.rec z v (Nat.beq c 0) : α) = if c = 0 then v else (Bool.rec z t (Nat.beq c 0) : α)
    by_cases hc : c = 0
    · subst hc; simp
    · have : Nat.beq c 0 = false := by cases hq : Nat.beq c 0 with | false => rfl | true => exact absurd (Nat.eq_of_beq_eq_true hq) hc
      rw [if_neg hc, this]
  | d + 1, b, c, v, t, h => by
    have h' : b / 2 < 2 ^ d := by rw [Nat.pow_succ] at h; omega
    show btget z d (c / 2) (Bool.rec (btput (d + 1) b v t).2 (btput (d + 1) b v t).1 (Nat.beq (c % 2) 0)) = if c = b then v else btget z d (c / 2) (Bool.rec t.2 t.1 (Nat.beq (c % 2) 0))
    have hb : btput (d + 1) b v t = Bool.rec (t.1, btput d (b / 2) v t.2) (btput d (b / 2) v t.1, t.2) (Nat.beq (b % 2) 0) := rfl
    rw [hb]
    have hcase : ∀ n : Nat, (n % 2 = 0 ∧ Nat.beq (n % 2) 0 = true) ∨ (n % 2 = 1 ∧ Nat.beq (n % 2) 0 = false) := by
      intro n
      rcases Nat.mod_two_eq_zero_or_one n with e | e
      · exact .inl ⟨e, by rw [e]; rfl⟩
      · exact .inr ⟨e, by rw [e]; rfl⟩
    rcases hcase b with ⟨b1, b2⟩ | ⟨b1, b2⟩ <;> rcases hcase c with ⟨c1, c2⟩ | ⟨c1, c2⟩ <;> rw [b2, c2] <;> simp only
    · rw [btget_put z d _ _ _ _ h']
      have e : (c / 2 = b / 2) ↔ c = b := by omega
      simp only [e]
    · rw [if_neg (by omega)]
    · rw [if_neg (by omega)]
    · rw [btget_put z d _ _ _ _ h']
      have e : (c / 2 = b / 2) ↔ c = b := by omega
      simp only [e]
def btsame {α : Type} (z : α) : (d : Nat) → BT α d
  | 0 => z
  | d + 1 => (btsame z d, btsame z d)
theorem btget_same {α : Type} (z : α) : ∀ (d b : Nat), btget z d b (btsame z d) = z
  | 0, b => by show (Bool.rec z z (Nat.beq b 0) : α) = z; cases Nat.beq b 0 <;> rfl
  | d + 1, b => by
    show btget z d (b / 2) (Bool.rec (btsame z d) (btsame z d) (Nat.beq (b % 2) 0)) = z
    have : (Bool.rec (btsame z d) (btsame z d) (Nat.beq (b % 2) 0) : BT α d) = btsame z d := by cases Nat.beq (b % 2) 0 <;> rfl
    rw [this]; exact btget_same z d _
end Go.Abs
end


section

set_option linter.unusedSimpArgs false
set_option linter.unusedVariables false
namespace Go.Abs
open Go.RowKit
structure TH where
  sz : Nat
  tr : BT AObj 12
def deadObj : AObj := ⟨false, 0, 0, .cells [] 0⟩
noncomputable def TH.get (T : TH) (b : Nat) : AObj := btget deadObj 12 b T.tr
def TH.empty : TH := ⟨0, btsame deadObj 12⟩
structure Rep (T : TH) (H : AHeap) : Prop where
  sz : T.sz = H.length
  le : T.sz ≤ 4096
  obj : ∀ b, (T.get b).alive = true → H[b]? = some (T.get b)
  fam : ∀ b c, (T.get b).alive = true → (T.get c).alive = true → (T.get b).fam = (T.get c).fam → b = c
  flt : ∀ b, (T.get b).alive = true → (T.get b).fam < T.sz
theorem Rep.empty : Rep TH.empty [] := by
  have h : ∀ b, TH.empty.get b = deadObj := fun b => btget_same deadObj 12 b
  refine ⟨rfl, by simp [TH.empty], ?_, ?_, ?_⟩ <;> intro b <;> simp [h, deadObj]
noncomputable def TH.set (T : TH) (b : Nat) (o : AObj) : TH := ⟨T.sz, btput 12 b o T.tr⟩
noncomputable def TH.push (T : TH) (o : AObj) : TH := ⟨T.sz + 1, btput 12 T.sz o T.tr⟩
theorem TH.get_set {T : TH} {b : Nat} (o : AObj) (hb : b < 4096) (c : Nat) : (T.set b o).get c = if c = b then o else T.get c := btget_put deadObj 12 b c o T.tr hb
theorem TH.get_push {T : TH} (o : AObj) (hb : T.sz < 4096) (c : Nat) : (T.push o).get c = if c = T.sz then o else T.get c := btget_put deadObj 12 T.sz c o T.tr hb
theorem Rep.lt {T : TH} {H : AHeap} (h : Rep T H) {b : Nat} (hb : (T.get b).alive = true) : b < T.sz := by
  have := (List.getElem?_eq_some_iff.1 (h.obj b hb)).1
  rw [h.sz]; exact this
theorem Rep.set {T : TH} {H : AHeap} (h : Rep T H) {b : Nat} (hb : (T.get b).alive = true) (bd : ABody) :
    Rep (T.set b { T.get b with body := bd }) ((wkil b (T.get b).fam H).set b { T.get b with body := bd }) := by
  have hlt := h.lt hb
  have hb4 : b < 4096 := Nat.lt_of_lt_of_le hlt h.le
  have hg := TH.get_set (T := T) (b := b) { T.get b with body := bd } hb4
  have hal : ∀ c, ((T.set b { T.get b with body := bd }).get c).alive = true → (T.get c).alive = true ∧ ((T.set b { T.get b with body := bd }).get c).fam = (T.get c).fam := by
    intro c hc
    rw [hg] at hc ⊢
    split at hc
    · rename_i e; subst e; rw [if_pos rfl]; exact ⟨hb, rfl⟩
    · rename_i e; rw [if_neg e]; exact ⟨hc, rfl⟩
  refine ⟨by simp [TH.set, wkil, kil_length, h.sz], h.le, ?_, ?_, ?_⟩
  · intro c hc
    have hc' := (hal c hc).1
    rw [hg]
    split
    · rename_i e; subst e
      rw [List.getElem?_set, if_pos rfl, if_pos (by rw [wkil, kil_length, ← h.sz]; exact hlt)]
    · rename_i e
      rw [List.getElem?_set, if_neg (Ne.symm e), wkil, kil_get, h.obj c hc']
      have hf : (T.get c).fam ≠ (T.get b).fam := fun hf => e (h.fam c b hc' hb hf)
      have hf2 : Nat.beq (T.get c).fam (T.get b).fam = false := by cases hq : Nat.beq (T.get c).fam (T.get b).fam with | false => rfl | true => exact absurd (Nat.eq_of_beq_eq_true hq) hf
      simp [hf]
  · intro c c' hc hc' hf
    obtain ⟨h1, h2⟩ := hal c hc; obtain ⟨h3, h4⟩ := hal c' hc'
    exact h.fam c c' h1 h3 (by rw [← h2, ← h4]; exact hf)
  · intro c hc
    obtain ⟨h1, h2⟩ := hal c hc
    rw [h2]; exact h.flt c h1
theorem Rep.set' {T : TH} {H : AHeap} (h : Rep T H) {b fam sh : Nat} {bd0 : ABody} (e : T.get b = ⟨true, fam, sh, bd0⟩) (bd : ABody) : Rep (T.set b ⟨true, fam, sh, bd⟩) ((wkil b fam H).set b ⟨true, fam, sh, bd⟩) := by
  have := h.set (b := b) (by rw [e]) bd
  simp only [e] at this
  exact this
theorem Rep.lose {T : TH} {H : AHeap} (h : Rep T H) {b : Nat} {o : AObj} (hb : (T.get b).alive = true) : Rep (T.set b deadObj) ((wkil b (T.get b).fam H).set b o.dead) := by
  have hlt := h.lt hb
  have hb4 : b < 4096 := Nat.lt_of_lt_of_le hlt h.le
  have hg := TH.get_set (T := T) (b := b) deadObj hb4
  have hal : ∀ c, ((T.set b deadObj).get c).alive = true → c ≠ b ∧ (T.get c).alive = true ∧ (T.set b deadObj).get c = T.get c := by
    intro c hc
    rw [hg] at hc
    split at hc
    · simp [deadObj] at hc
    · rename_i e; exact ⟨e, hc, by rw [hg, if_neg e]⟩
  refine ⟨by simp [TH.set, wkil, kil_length, h.sz], h.le, ?_, ?_, ?_⟩
  · intro c hc
    obtain ⟨e, hc', hcc⟩ := hal c hc
    rw [hcc, List.getElem?_set, if_neg (Ne.symm e), wkil, kil_get, h.obj c hc']
    have hf : (T.get c).fam ≠ (T.get b).fam := fun hf => e (h.fam c b hc' hb hf)
    simp [hf]
  · intro c c' hc hc' hf
    obtain ⟨_, h1, h2⟩ := hal c hc; obtain ⟨_, h3, h4⟩ := hal c' hc'
    rw [h2, h4] at hf
    exact h.fam c c' h1 h3 hf
  · intro c hc
    obtain ⟨_, h1, h2⟩ := hal c hc
    rw [h2]; exact h.flt c h1
theorem Rep.push {T : TH} {H : AHeap} (h : Rep T H) (hs : T.sz < 4096) (bd : ABody) : Rep (T.push ⟨true, T.sz, 0, bd⟩) (H ++ [⟨true, H.length, 0, bd⟩]) := by
  have hg := TH.get_push (T := T) ⟨true, T.sz, 0, bd⟩ hs
  refine ⟨by simp [TH.push, h.sz], hs, ?_, ?_, ?_⟩
  · intro c hc
    rw [hg] at hc ⊢
    split at hc
    · rename_i e; subst e; rw [if_pos rfl, List.getElem?_append_right (by rw [h.sz]; exact Nat.le_refl _), ← h.sz]; simp
    · rename_i e; rw [if_neg e, List.getElem?_append_left (by rw [← h.sz]; exact h.lt hc)]; exact h.obj c hc
  · intro c c' hc hc' hf
    rw [hg] at hc hc'; rw [hg, hg] at hf
    split at hc <;> split at hc'
    · rename_i e e'; rw [e, e']
    · rename_i e e'; rw [if_pos e, if_neg e'] at hf; have := h.flt c' hc'; simp at hf; omega
    · rename_i e e'; rw [if_neg e, if_pos e'] at hf; have := h.flt c hc; simp at hf; omega
    · rename_i e e'; rw [if_neg e, if_neg e'] at hf; exact h.fam c c' hc hc' hf
  · intro c hc
    rw [hg] at hc ⊢
    show _ < T.sz + 1
    split at hc
    · rename_i e; rw [if_pos e]; simp
    · rename_i e; rw [if_neg e]; have := h.flt c hc; omega
theorem Rep.grow {T : TH} {H : AHeap} (h : Rep T H) {b : Nat} (hb : (T.get b).alive = true) (hs : T.sz < 4096) (e sh : Nat) (bd : ABody) :
    Rep ((T.set b deadObj).push ⟨true, (T.get b).fam, sh, bd⟩) (ekil (T.get b).fam e H ++ [⟨true, (T.get b).fam, sh, bd⟩]) := by
  have hlt := h.lt hb
  have hb4 : b < 4096 := Nat.lt_of_lt_of_le hlt h.le
  have hg1 := TH.get_set (T := T) (b := b) deadObj hb4
  have hg := TH.get_push (T := T.set b deadObj) ⟨true, (T.get b).fam, sh, bd⟩ hs
  have hsz : (T.set b deadObj).sz = T.sz := rfl
  rw [hsz] at hg
  have hal : ∀ c, c ≠ T.sz → (((T.set b deadObj).push ⟨true, (T.get b).fam, sh, bd⟩).get c).alive = true → c ≠ b ∧ (T.get c).alive = true ∧ ((T.set b deadObj).push ⟨true, (T.get b).fam, sh, bd⟩).get c = T.get c := by
    intro c hne hc
    rw [hg, if_neg hne, hg1] at hc
    split at hc
    · simp [deadObj] at hc
    · rename_i e'; exact ⟨e', hc, by rw [hg, if_neg hne, hg1, if_neg e']⟩
  refine ⟨by simp [TH.push, TH.set, ekil, kil_length, h.sz], hs, ?_, ?_, ?_⟩
  · intro c hc
    by_cases hne : c = T.sz
    · subst hne
      rw [hg, if_pos rfl, List.getElem?_append_right (by rw [ekil, kil_length, h.sz]; exact Nat.le_refl _), ekil, kil_length, h.sz]; simp
    · obtain ⟨h1, h2, h3⟩ := hal c hne hc
      have hcl := h.lt h2
      rw [h3, List.getElem?_append_left (by rw [ekil, kil_length, ← h.sz]; exact hcl), ekil, kil_get, h.obj c h2]
      have hf : (T.get c).fam ≠ (T.get b).fam := fun hf => h1 (h.fam c b h2 hb hf)
      have hf2 : Nat.beq (T.get c).fam (T.get b).fam = false := by cases hq : Nat.beq (T.get c).fam (T.get b).fam with | false => rfl | true => exact absurd (Nat.eq_of_beq_eq_true hq) hf
      simp [hf]
  · intro c c' hc hc' hf
    by_cases hne : c = T.sz <;> by_cases hne' : c' = T.sz
    · rw [hne, hne']
    · obtain ⟨h1, h2, h3⟩ := hal c' hne' hc'
      rw [h3, hne, hg, if_pos rfl] at hf
      exact absurd (h.fam c' b h2 hb hf.symm) h1
    · obtain ⟨h1, h2, h3⟩ := hal c hne hc
      rw [h3, hne', hg, if_pos rfl] at hf
      exact absurd (h.fam c b h2 hb hf) h1
    · obtain ⟨h1, h2, h3⟩ := hal c hne hc
      obtain ⟨h1', h2', h3'⟩ := hal c' hne' hc'
      rw [h3, h3'] at hf
      exact h.fam c c' h2 h2' hf
  · intro c hc
    show _ < T.sz + 1
    by_cases hne : c = T.sz
    · rw [hne, hg, if_pos rfl]; have := h.flt b hb; simp; omega
    · obtain ⟨h1, h2, h3⟩ := hal c hne hc
      rw [h3]; have := h.flt c h2; omega
abbrev Res := Option (AV × TH)
abbrev Knt := AV → TH → Res
abbrev FOrc := Nat → List AV → TH → Res
def OrcSim (forc : FOrc) (orc : Orc) : Prop := ∀ f args T r T', forc f args T = some (r, T') → ∀ H, Rep T H → ∃ H', orc f args H = some (r, H') ∧ Rep T' H'
noncomputable def frc1 {β : Type} (v : AV) : (AV → β) → β :=
  AV.rec (motive_1 := fun _ => (AV → β) → β) (motive_2 := fun _ => Unit) (fun b f => f (.bool b)) (fun k n f => f (.int k n)) (fun s f => f (.str s)) (fun f => f .nptr) (fun b o f => f (.ptr b o)) (fun cs _ f => f (.rp cs)) (fun f => f .nslice)
    (fun b o l c z f => f (.slice b o l c z)) (fun n z cs _ f => f (.rs n z cs)) (fun f => f .nmap) (fun b f => f (.map b)) (fun fn a b _ _ f => f (.func fn a b)) (fun f => f .nfunc) (fun t v _ f => f (.iface t v)) (fun f => f .niface)
    (fun cs _ f => f (.agg cs)) (fun vs _ f => f (.tuple vs)) () (fun _ _ _ _ => ()) v
theorem frc1_eq {β : Type} (v : AV) (f : AV → β) : frc1 v f = f v := by cases v <;> rfl
noncomputable def onInt {β : Type} (v : AV) : (IntKind → Int → β) → β → β :=
  AV.rec (motive_1 := fun _ => (IntKind → Int → β) → β → β) (motive_2 := fun _ => Unit) (fun _ _ d => d) (fun k n f _ => f k n) (fun _ _ d => d) (fun _ d => d) (fun _ _ _ d => d) (fun _ _ _ d => d) (fun _ d => d)
    (fun _ _ _ _ _ _ d => d) (fun _ _ _ _ _ d => d) (fun _ d => d) (fun _ _ d => d) (fun _ _ _ _ _ _ d => d) (fun _ d => d) (fun _ _ _ _ d => d) (fun _ d => d)
    (fun _ _ _ d => d) (fun _ _ _ d => d) () (fun _ _ _ _ => ()) v
theorem onInt_cases {β : Type} (v : AV) (f : IntKind → Int → β) (d : β) : (∃ k n, v = .int k n ∧ onInt v f d = f k n) ∨ onInt v f d = d := by
  cases v <;> first | exact .inl ⟨_, _, rfl, rfl⟩ | exact .inr rfl
noncomputable def onBool {β : Type} (v : AV) : (Bool → β) → β → β :=
  AV.rec (motive_1 := fun _ => (Bool → β) → β → β) (motive_2 := fun _ => Unit) (fun b f _ => f b) (fun _ _ _ d => d) (fun _ _ d => d) (fun _ d => d) (fun _ _ _ d => d) (fun _ _ _ d => d) (fun _ d => d)
    (fun _ _ _ _ _ _ d => d) (fun _ _ _ _ _ d => d) (fun _ d => d) (fun _ _ d => d) (fun _ _ _ _ _ _ d => d) (fun _ d => d) (fun _ _ _ _ d => d) (fun _ d => d)
    (fun _ _ _ d => d) (fun _ _ _ d => d) () (fun _ _ _ _ => ()) v
theorem onBool_cases {β : Type} (v : AV) (f : Bool → β) (d : β) : (∃ b, v = .bool b ∧ onBool v f d = f b) ∨ ((∀ b, v ≠ .bool b) ∧ onBool v f d = d) := by
  cases v <;> first | exact .inl ⟨_, rfl, rfl⟩ | exact .inr ⟨fun b h => (by cases h), rfl⟩
noncomputable def onStr {β : Type} (v : AV) : (List UInt8 → β) → β → β :=
  AV.rec (motive_1 := fun _ => (List UInt8 → β) → β → β) (motive_2 := fun _ => Unit) (fun _ _ d => d) (fun _ _ _ d => d) (fun s f _ => f s) (fun _ d => d) (fun _ _ _ d => d) (fun _ _ _ d => d) (fun _ d => d)
    (fun _ _ _ _ _ _ d => d) (fun _ _ _ _ _ d => d) (fun _ d => d) (fun _ _ d => d) (fun _ _ _ _ _ _ d => d) (fun _ d => d) (fun _ _ _ _ d => d) (fun _ d => d)
    (fun _ _ _ d => d) (fun _ _ _ d => d) () (fun _ _ _ _ => ()) v
theorem onStr_cases {β : Type} (v : AV) (f : List UInt8 → β) (d : β) : (∃ b, v = .str b ∧ onStr v f d = f b) ∨ onStr v f d = d := by
  cases v <;> first | exact .inl ⟨_, rfl, rfl⟩ | exact .inr rfl
noncomputable def onPtr {β : Type} (v : AV) : (Nat → Nat → β) → (List AV → β) → β → β :=
  AV.rec (motive_1 := fun _ => (Nat → Nat → β) → (List AV → β) → β → β) (motive_2 := fun _ => Unit) (fun _ _ _ d => d) (fun _ _ _ _ d => d) (fun _ _ _ d => d) (fun _ _ d => d) (fun b o f _ _ => f b o) (fun cs _ _ g _ => g cs) (fun _ _ d => d)
    (fun _ _ _ _ _ _ _ d => d) (fun _ _ _ _ _ _ d => d) (fun _ _ d => d) (fun _ _ _ d => d) (fun _ _ _ _ _ _ _ d => d) (fun _ _ d => d) (fun _ _ _ _ _ d => d) (fun _ _ d => d)
    (fun _ _ _ _ d => d) (fun _ _ _ _ d => d) () (fun _ _ _ _ => ()) v
theorem onPtr_cases {β : Type} (v : AV) (f : Nat → Nat → β) (g : List AV → β) (d : β) : (∃ b o, v = .ptr b o ∧ onPtr v f g d = f b o) ∨ (∃ cs, v = .rp cs ∧ onPtr v f g d = g cs) ∨ onPtr v f g d = d := by
  cases v <;> first | exact .inl ⟨_, _, rfl, rfl⟩ | exact .inr (.inl ⟨_, rfl, rfl⟩) | exact .inr (.inr rfl)
noncomputable def onSlice {β : Type} (v : AV) : (Nat → Nat → Nat → Nat → Nat → β) → (Nat → Nat → List AV → β) → β → β → β :=
  AV.rec (motive_1 := fun _ => (Nat → Nat → Nat → Nat → Nat → β) → (Nat → Nat → List AV → β) → β → β → β) (motive_2 := fun _ => Unit) (fun _ _ _ _ d => d) (fun _ _ _ _ _ d => d) (fun _ _ _ _ d => d) (fun _ _ _ d => d) (fun _ _ _ _ _ d => d) (fun _ _ _ _ _ d => d) (fun _ _ e _ => e)
    (fun b o l c z f _ _ _ => f b o l c z) (fun n z cs _ _ g _ _ => g n z cs) (fun _ _ _ d => d) (fun _ _ _ _ d => d) (fun _ _ _ _ _ _ _ _ d => d) (fun _ _ _ d => d) (fun _ _ _ _ _ _ d => d) (fun _ _ _ d => d)
    (fun _ _ _ _ _ d => d) (fun _ _ _ _ _ d => d) () (fun _ _ _ _ => ()) v
theorem onSlice_cases {β : Type} (v : AV) (f : Nat → Nat → Nat → Nat → Nat → β) (g : Nat → Nat → List AV → β) (e d : β) :
    (∃ b o l c z, v = .slice b o l c z ∧ onSlice v f g e d = f b o l c z) ∨ (∃ n z cs, v = .rs n z cs ∧ onSlice v f g e d = g n z cs) ∨ (v = .nslice ∧ onSlice v f g e d = e) ∨ onSlice v f g e d = d := by
  cases v <;> first | exact .inl ⟨_, _, _, _, _, rfl, rfl⟩ | exact .inr (.inl ⟨_, _, _, rfl, rfl⟩) | exact .inr (.inr (.inl ⟨rfl, rfl⟩)) | exact .inr (.inr (.inr rfl))
noncomputable def onTuple {β : Type} (v : AV) : (List AV → β) → β → β :=
  AV.rec (motive_1 := fun _ => (List AV → β) → β → β) (motive_2 := fun _ => Unit) (fun _ _ d => d) (fun _ _ _ d => d) (fun _ _ d => d) (fun _ d => d) (fun _ _ _ d => d) (fun _ _ _ d => d) (fun _ d => d)
    (fun _ _ _ _ _ _ d => d) (fun _ _ _ _ _ d => d) (fun _ d => d) (fun _ _ d => d) (fun _ _ _ _ _ _ d => d) (fun _ d => d) (fun _ _ _ _ d => d) (fun _ d => d)
    (fun _ _ _ d => d) (fun vs _ f _ => f vs) () (fun _ _ _ _ => ()) v
theorem onTuple_cases {β : Type} (v : AV) (f : List AV → β) (d : β) : (∃ b, v = .tuple b ∧ onTuple v f d = f b) ∨ onTuple v f d = d := by
  cases v <;> first | exact .inl ⟨_, rfl, rfl⟩ | exact .inr rfl
noncomputable def onAgg {β : Type} (v : AV) : (List AV → β) → β → β :=
  AV.rec (motive_1 := fun _ => (List AV → β) → β → β) (motive_2 := fun _ => Unit) (fun _ _ d => d) (fun _ _ _ d => d) (fun _ _ d => d) (fun _ d => d) (fun _ _ _ d => d) (fun _ _ _ d => d) (fun _ d => d)
    (fun _ _ _ _ _ _ d => d) (fun _ _ _ _ _ d => d) (fun _ d => d) (fun _ _ d => d) (fun _ _ _ _ _ _ d => d) (fun _ d => d) (fun _ _ _ _ d => d) (fun _ d => d)
    (fun vs _ f _ => f vs) (fun _ _ _ d => d) () (fun _ _ _ _ => ()) v
theorem onAgg_cases {β : Type} (v : AV) (f : List AV → β) (d : β) : (∃ b, v = .agg b ∧ onAgg v f d = f b) ∨ ((∀ b, v ≠ .agg b) ∧ onAgg v f d = d) := by
  cases v <;> first | exact .inl ⟨_, rfl, rfl⟩ | exact .inr ⟨fun b h => (by cases h), rfl⟩
noncomputable def onFunc {β : Type} (v : AV) : (Fn → List AV → List AV → β) → β → β :=
  AV.rec (motive_1 := fun _ => (Fn → List AV → List AV → β) → β → β) (motive_2 := fun _ => Unit) (fun _ _ d => d) (fun _ _ _ d => d) (fun _ _ d => d) (fun _ d => d) (fun _ _ _ d => d) (fun _ _ _ d => d) (fun _ d => d)
    (fun _ _ _ _ _ _ d => d) (fun _ _ _ _ _ d => d) (fun _ d => d) (fun _ _ d => d) (fun fn a b _ _ f _ => f fn a b) (fun _ d => d) (fun _ _ _ _ d => d) (fun _ d => d)
    (fun _ _ _ d => d) (fun _ _ _ d => d) () (fun _ _ _ _ => ()) v
theorem onFunc_cases {β : Type} (v : AV) (f : Fn → List AV → List AV → β) (d : β) : (∃ fn a b, v = .func fn a b ∧ onFunc v f d = f fn a b) ∨ onFunc v f d = d := by
  cases v <;> first | exact .inl ⟨_, _, _, rfl, rfl⟩ | exact .inr rfl
noncomputable def onNat {β : Type} (v : AV) (f : IntKind → Nat → β) (d : β) : β := onInt v (fun k n => Int.rec (fun m => f k m) (fun _ => d) n) d
theorem onNat_cases {β : Type} (v : AV) (f : IntKind → Nat → β) (d : β) : (∃ k n, v = .int k (Int.ofNat n) ∧ onNat v f d = f k n) ∨ onNat v f d = d := by
  unfold onNat
  rcases onInt_cases v (fun k n => (Int.rec (fun m => f k m) (fun _ => d) n : β)) d with ⟨k, n, rfl, h⟩ | h
  · cases n with
    | ofNat m => exact .inl ⟨k, m, rfl, h⟩
    | negSucc m => exact .inr h
  · exact .inr h
noncomputable def onCells {β : Type} (o : AObj) : (Nat → Nat → List AV → TypeId → β) → β → β :=
  AObj.rec (fun alive fam sh body f d => Bool.rec d (ABody.rec (motive := fun _ => (Nat → Nat → List AV → TypeId → β) → β → β) (fun cs ty f _ => f fam sh cs ty) (fun _ _ _ d => d) (fun _ _ _ d => d) (fun _ _ _ d => d) body f d) alive) o
theorem onCells_cases {β : Type} (o : AObj) (f : Nat → Nat → List AV → TypeId → β) (d : β) : (∃ fam sh cs ty, o = ⟨true, fam, sh, .cells cs ty⟩ ∧ onCells o f d = f fam sh cs ty) ∨ onCells o f d = d := by
  obtain ⟨alive, fam, sh, body⟩ := o
  cases alive with
  | false => exact .inr rfl
  | true => cases body <;> first | exact .inl ⟨_, _, _, _, rfl, rfl⟩ | exact .inr rfl
noncomputable def onMap {β : Type} (o : AObj) : (Nat → Nat → List (AV × AV × Nat) → Nat → β) → β → β :=
  AObj.rec (fun alive fam sh body f d => Bool.rec d (ABody.rec (motive := fun _ => (Nat → Nat → List (AV × AV × Nat) → Nat → β) → β → β) (fun _ _ _ d => d) (fun es c f _ => f fam sh es c) (fun _ _ _ d => d) (fun _ _ _ d => d) body f d) alive) o
theorem onMap_cases {β : Type} (o : AObj) (f : Nat → Nat → List (AV × AV × Nat) → Nat → β) (d : β) : (∃ fam sh es c, o = ⟨true, fam, sh, .map es c⟩ ∧ onMap o f d = f fam sh es c) ∨ onMap o f d = d := by
  obtain ⟨alive, fam, sh, body⟩ := o
  cases alive with
  | false => exact .inr rfl
  | true => cases body <;> first | exact .inl ⟨_, _, _, _, rfl, rfl⟩ | exact .inr rfl
noncomputable def iff' {β : Type} (b : Bool) (x y : β) : β := Bool.rec y x b
theorem iff'_eq {β : Type} (b : Bool) (x y : β) : iff' b x y = if b = true then x else y := by cases b <;> rfl
noncomputable def getR {α β : Type} (l : List α) : Nat → (α → β) → β → β :=
  List.rec (motive := fun _ => Nat → (α → β) → β → β) (fun _ _ d => d) (fun v _ ih n f d => Nat.rec (f v) (fun m _ => ih m f d) n) l
theorem getR_cases {α β : Type} : ∀ (l : List α) (n : Nat) (f : α → β) (d : β), (∃ v, l[n]? = some v ∧ getR l n f d = f v) ∨ getR l n f d = d
  | [], n, f, d => .inr rfl
  | v :: l, 0, f, d => .inl ⟨v, rfl, rfl⟩
  | v :: l, n + 1, f, d => by
    rcases getR_cases l n f d with ⟨x, h1, h2⟩ | h
    · exact .inl ⟨x, by simpa using h1, h2⟩
    · exact .inr h
noncomputable def dropR {α : Type} (l : List α) : Nat → List α :=
  List.rec (motive := fun _ => Nat → List α) (fun _ => []) (fun v l ih n => Nat.rec (v :: l) (fun m _ => ih m) n) l
theorem dropR_eq {α : Type} : ∀ (l : List α) (n : Nat), dropR l n = l.drop n
  | [], n => by cases n <;> rfl
  | v :: l, 0 => rfl
  | v :: l, n + 1 => dropR_eq l n
noncomputable def takeK {α β : Type} (l : List α) : Nat → (List α → β) → β :=
  List.rec (motive := fun _ => Nat → (List α → β) → β) (fun _ f => f []) (fun v _ ih n f => Nat.rec (f []) (fun m _ => ih m fun r => f (v :: r)) n) l
theorem takeK_eq {α β : Type} : ∀ (l : List α) (n : Nat) (f : List α → β), takeK l n f = f (l.take n)
  | [], n, f => by cases n <;> rfl
  | v :: l, 0, f => rfl
  | v :: l, n + 1, f => takeK_eq l n _
noncomputable def tkR {β : Type} (n : Nat) : List AV → (List AV → β) → β → β :=
  Nat.rec (motive := fun _ => List AV → (List AV → β) → β → β) (fun _ f _ => f []) (fun _ ih l f d => List.rec (motive := fun _ => β) d (fun c l _ => ih l (fun r => f (c :: r)) d) l) n
theorem tkR_cases {β : Type} : ∀ (n : Nat) (l : List AV) (f : List AV → β) (d : β), (∃ r, tk n l = some r ∧ tkR n l f d = f r) ∨ tkR n l f d = d
  | 0, l, f, d => .inl ⟨[], by cases l <;> rfl, rfl⟩
  | n + 1, [], f, d => .inr rfl
  | n + 1, c :: l, f, d => by
    rcases tkR_cases n l (fun r => f (c :: r)) d with ⟨r, h1, h2⟩ | h
    · exact .inl ⟨c :: r, by simp [tk, h1], h2⟩
    · exact .inr h
noncomputable def splR {β : Type} (l : List AV) : Nat → List AV → (List AV → β) → β → β :=
  List.rec (motive := fun _ => Nat → List AV → (List AV → β) → β → β) (fun n vs f d => Nat.rec (List.rec (f []) (fun _ _ _ => d) vs) (fun _ _ => d) n)
    (fun c l ih n vs f d => Nat.rec (List.rec (f (c :: l)) (fun v vs _ => ih 0 vs (fun r => f (v :: r)) d) vs) (fun m _ => ih m vs (fun r => f (c :: r)) d) n) l
theorem splR_cases {β : Type} : ∀ (l : List AV) (n : Nat) (vs : List AV) (f : List AV → β) (d : β), (∃ r, spl l n vs = some r ∧ splR l n vs f d = f r) ∨ splR l n vs f d = d
  | [], 0, [], f, d => .inl ⟨[], rfl, rfl⟩
  | [], 0, _ :: _, f, d => .inr rfl
  | [], n + 1, vs, f, d => .inr rfl
  | c :: l, 0, [], f, d => .inl ⟨c :: l, by simp [spl], rfl⟩
  | c :: l, 0, v :: vs, f, d => by
    rcases splR_cases l 0 vs (fun r => f (v :: r)) d with ⟨r, h1, h2⟩ | h
    · exact .inl ⟨v :: r, by simp [spl, h1], h2⟩
    · exact .inr h
  | c :: l, n + 1, vs, f, d => by
    rcases splR_cases l n vs (fun r => f (c :: r)) d with ⟨r, h1, h2⟩ | h
    · exact .inl ⟨c :: r, by simp [spl, h1], h2⟩
    · exact .inr h
noncomputable def lenR {α : Type} (l : List α) : Nat := List.rec 0 (fun _ _ ih => Nat.succ ih) l
theorem lenR_eq {α : Type} : ∀ (l : List α), lenR l = l.length
  | [] => rfl
  | _ :: l => congrArg Nat.succ (lenR_eq l)
noncomputable def eqS (l : List UInt8) : List UInt8 → Bool :=
  List.rec (motive := fun _ => List UInt8 → Bool) (fun m => List.rec true (fun _ _ _ => false) m) (fun c l ih m => List.rec false (fun c' m _ => Bool.rec false (ih m) (Nat.beq (UInt8.toNat c) (UInt8.toNat c'))) m) l
theorem eqS_eq : ∀ (l m : List UInt8), eqS l m = (l == m)
  | [], [] => rfl
  | [], _ :: _ => rfl
  | _ :: _, [] => rfl
  | c :: l, c' :: m => by
    show (Bool.rec false (eqS l m) (Nat.beq (UInt8.toNat c) (UInt8.toNat c')) : Bool) = _
    rw [eqS_eq l m, List.cons_beq_cons]
    by_cases h : c = c'
    · subst h; simp
    · have h2 : Nat.beq (UInt8.toNat c) (UInt8.toNat c') = false := by cases hq : Nat.beq (UInt8.toNat c) (UInt8.toNat c') with | false => rfl | true => exact absurd (UInt8.toNat_inj.1 (Nat.eq_of_beq_eq_true hq)) h
      rw [h2]; simp [h]
end Go.Abs
end


section

set_option linter.unusedSimpArgs false
set_option linter.unusedVariables false
namespace Go.Abs
open Go.RowKit
noncomputable def frcIR {β : Type} (n : Int) : (Int → β) → β := Int.rec (motive := fun _ => (Int → β) → β) (fun m f => Nat.rec (motive := fun _ => β) (f (.ofNat 0)) (fun m _ => f (.ofNat (Nat.succ m))) m) (fun m f => Nat.rec (motive := fun _ => β) (f (.negSucc 0)) (fun m _ => f (.negSucc (Nat.succ m))) m) n
theorem frcIR_eq {β : Type} (n : Int) (f : Int → β) : frcIR n f = f n := by cases n with | ofNat m => cases m <;> rfl | negSucc m => cases m <;> rfl
noncomputable def frcNR {β : Type} (n : Nat) : (Nat → β) → β := Nat.rec (motive := fun _ => (Nat → β) → β) (fun f => f 0) (fun m _ f => f (Nat.succ m)) n
theorem frcNR_eq {β : Type} (n : Nat) (f : Nat → β) : frcNR n f = f n := by cases n <;> rfl
noncomputable def frcBR {β : Type} (b : Bool) : (Bool → β) → β := Bool.rec (motive := fun _ => (Bool → β) → β) (fun f => f false) (fun f => f true) b
theorem frcBR_eq {β : Type} (b : Bool) (f : Bool → β) : frcBR b f = f b := by cases b <;> rfl
noncomputable def frcSR {β : Type} (s : List UInt8) : (List UInt8 → β) → β := List.rec (motive := fun _ => (List UInt8 → β) → β) (fun f => f []) (fun c _ ih f => ih fun l => f (c :: l)) s
theorem frcSR_eq {β : Type} : ∀ (s : List UInt8) (f : List UInt8 → β), frcSR s f = f s
  | [], f => rfl
  | c :: s, f => by show frcSR s (fun l => f (c :: l)) = _; rw [frcSR_eq s]
noncomputable def frcVR {β : Type} (v : AV) : (AV → β) → β :=
  AV.rec (motive_1 := fun _ => (AV → β) → β) (motive_2 := fun _ => (List AV → β) → β) (fun b f => frcBR b fun b => f (.bool b)) (fun k n f => frcIR n fun n => f (.int k n)) (fun s f => frcSR s fun s => f (.str s)) (fun f => f .nptr)
    (fun b o f => frcNR b fun b => frcNR o fun o => f (.ptr b o)) (fun cs _ f => f (.rp cs)) (fun f => f .nslice)
    (fun b o l c z f => frcNR b fun b => frcNR o fun o => frcNR l fun l => frcNR c fun c => frcNR z fun z => f (.slice b o l c z)) (fun n z cs _ f => frcNR n fun n => f (.rs n z cs)) (fun f => f .nmap) (fun b f => frcNR b fun b => f (.map b))
    (fun fn _ _ iha ihb f => iha fun a => ihb fun b => f (.func fn a b)) (fun f => f .nfunc) (fun t _ ih f => ih fun v => f (.iface t v)) (fun f => f .niface)
    (fun _ ih f => ih fun cs => f (.agg cs)) (fun _ ih f => ih fun vs => f (.tuple vs)) (fun f => f []) (fun _ _ ihv ihl f => ihv fun v => ihl fun l => f (v :: l)) v
noncomputable def frcVLI {β : Type} (l : List AV) : (List AV → β) → β :=
  AV.rec_1 (motive_1 := fun _ => (AV → β) → β) (motive_2 := fun _ => (List AV → β) → β) (fun b f => frcBR b fun b => f (.bool b)) (fun k n f => frcIR n fun n => f (.int k n)) (fun s f => frcSR s fun s => f (.str s)) (fun f => f .nptr)
    (fun b o f => frcNR b fun b => frcNR o fun o => f (.ptr b o)) (fun cs _ f => f (.rp cs)) (fun f => f .nslice)
    (fun b o l c z f => frcNR b fun b => frcNR o fun o => frcNR l fun l => frcNR c fun c => frcNR z fun z => f (.slice b o l c z)) (fun n z cs _ f => frcNR n fun n => f (.rs n z cs)) (fun f => f .nmap) (fun b f => frcNR b fun b => f (.map b))
    (fun fn _ _ iha ihb f => iha fun a => ihb fun b => f (.func fn a b)) (fun f => f .nfunc) (fun t _ ih f => ih fun v => f (.iface t v)) (fun f => f .niface)
    (fun _ ih f => ih fun cs => f (.agg cs)) (fun _ ih f => ih fun vs => f (.tuple vs)) (fun f => f []) (fun _ _ ihv ihl f => ihv fun v => ihl fun l => f (v :: l)) l
noncomputable def frcVLR {β : Type} (l : List AV) : (List AV → β) → β := List.rec (motive := fun _ => (List AV → β) → β) (fun f => f []) (fun v _ ih f => frcVR v fun v => ih fun l => f (v :: l)) l
mutual
theorem frcVR_eq {β : Type} : ∀ (v : AV) (f : AV → β), frcVR v f = f v
  | .bool b, f => frcBR_eq b _
  | .int k n, f => frcIR_eq n _
  | .str s, f => frcSR_eq s _
  | .nptr, f => rfl
  | .ptr b o, f => by show (frcNR b fun b => frcNR o fun o => f (.ptr b o)) = _; simp only [frcNR_eq]
  | .rp cs, f => rfl
  | .nslice, f => rfl
  | .slice b o l c z, f => by show (frcNR b fun b => frcNR o fun o => frcNR l fun l => frcNR c fun c => frcNR z fun z => f (.slice b o l c z)) = _; simp only [frcNR_eq]
  | .rs n z cs, f => frcNR_eq n _
  | .nmap, f => rfl
  | .map b, f => frcNR_eq b _
  | .func fn a b, f => by show (frcVLI a fun a => frcVLI b fun b => f (.func fn a b)) = _; simp only [frcVLI_eq]
  | .nfunc, f => rfl
  | .iface t v, f => frcVR_eq v _
  | .niface, f => rfl
  | .agg cs, f => frcVLI_eq cs _
  | .tuple vs, f => frcVLI_eq vs _
theorem frcVLI_eq {β : Type} : ∀ (l : List AV) (f : List AV → β), frcVLI l f = f l
  | [], f => rfl
  | v :: l, f => by show (frcVR v fun v => frcVLI l fun l => f (v :: l)) = _; rw [frcVR_eq v]; exact frcVLI_eq l _
end
theorem frcVLR_eq {β : Type} : ∀ (l : List AV) (f : List AV → β), frcVLR l f = f l
  | [], f => rfl
  | v :: l, f => by show (frcVR v fun v => frcVLR l fun l => f (v :: l)) = _; rw [frcVR_eq v]; exact frcVLR_eq l _
noncomputable def copd (gl : Glob) (d n : Nat) (x : Operand) : Option (Tre AV d → AV) :=
  match x with
  | .tmp t => iff' (Nat.blt t n) (Bx.rec (fun g => some g) (getB AV d t)) none
  | .const v => match ofV v with | some c => frcVR c fun c => some fun _ => c | none => none
  | .global g => match gl g with | some cs => some fun _ => .rp cs | none => none
  | .func f => some fun _ => .func (.func f) [] []
noncomputable def rhoE (gl : Glob) (d n : Nat) (E : Tre AV d) (x : Operand) : Option AV := match copd gl d n x with | some g => some (g E) | none => none
theorem rhoE_of {gl : Glob} {d n : Nat} {E : Tre AV d} {x : Operand} {g : Tre AV d → AV} (h : copd gl d n x = some g) : rhoE gl d n E x = some (g E) := by
  simp [rhoE, h]
def EnvSim (d n : Nat) (E : Tre AV d) (tm : Tr) : Prop := ∀ t, tget tm t = if t < n then some (teget d t E) else none
theorem rhoE_eq {gl : Glob} {d n : Nat} {E : Tre AV d} {tm : Tr} (h : EnvSim d n E tm) : rhoE gl d n E = aeval gl tm := by
  funext x
  unfold rhoE copd aeval
  cases x with
  | tmp t =>
    simp only [h t, iff'_eq]
    by_cases ht : t < n
    · have hb : Nat.blt t n = true := by simpa [Nat.blt_eq] using ht
      rw [if_pos hb, if_pos ht]
      show some ((getB AV d t).v E) = _
      rw [getB_eq]
    · have hb : ¬ Nat.blt t n = true := by simpa [Nat.blt_eq] using ht
      rw [if_neg hb, if_neg ht]
  | const v => cases hv : ofV v <;> simp [frcVR_eq, hv]
  | global g => cases hg : gl g <;> simp [hg]
  | func f => rfl
abbrev OpF (d : Nat) := FOrc → Tre AV d → TH → Knt → Res
def OpOK (P : Program) (gl : Glob) (d n : Nat) (o : Oper) (F : OpF d) : Prop :=
  ∀ forc orc E T k out H, OrcSim forc orc → Rep T H → F forc E T k = some out → ∃ r T' H', aop P orc (rhoE gl d n E) o H = some (r, H') ∧ Rep T' H' ∧ k r T' = some out
section ok
variable {P : Program} {gl : Glob} {d n : Nat} {orc : Orc} {ρ : Operand → Option AV} {H : AHeap} {o : Oper}
theorem callee_none {c : Call} {b : Builtin} (h : c.callee = .builtin b) : callee ρ c = none := by simp [callee, h]
theorem aop_low (h : kind o < 3) : aop P orc ρ o H = (match apure' P ρ H o with | some r => some (r, H) | none => aeff P ρ H o) := by
  have hc : ∀ c, o.op = .call c → callee ρ c = none := by
    intro c ho
    unfold kind at h
    simp only [ho] at h
    cases hc : c.callee with
    | builtin b => exact callee_none hc
    | value f => simp [hc] at h
    | invoke r m => simp [hc] at h
  unfold aop
  split
  · rename_i g args hx
    split at hx
    · rename_i c ho; rw [hc c ho] at hx; cases hx
    · cases hx
  · rfl
theorem aop_pure (hk : kind o < 3) {r : AV} (h : apure' P ρ H o = some r) : aop P orc ρ o H = some (r, H) := by
  rw [aop_low hk, h]
theorem aop_new (hk : kind o = 2) {mk : Nat → AV} {body : ABody} (h : aallocF P ρ o = some (mk, body)) : aop P orc ρ o H = some (mk H.length, H ++ [⟨true, H.length, 0, body⟩]) := by
  rw [aop_low (by omega)]
  have hp : apure' P ρ H o = none := by
    unfold kind at hk
    unfold apure' apure
    cases ho : o.op with
    | call c =>
      simp only [ho] at hk ⊢
      cases hc : c.callee with
      | builtin b => cases b <;> simp [hc] at hk
      | value f => simp [hc] at hk
      | invoke r m => simp [hc] at hk
    | _ => simp [ho] at hk ⊢
  simp only [hp]
  unfold aallocF at h
  unfold aeff
  cases ho : o.op with
  | alloc e =>
    simp only [ho] at h ⊢
    split at h <;> simp at h
    rename_i z hz
    obtain ⟨rfl, rfl⟩ := h
    simp [aAlloc, hz, newBlk]
  | box e x =>
    simp only [ho] at h ⊢
    split at h <;> simp at h
    rename_i z hz
    obtain ⟨rfl, rfl⟩ := h
    simp [hz, aBox, newBlk]
  | buildSlice t len ps =>
    simp only [ho] at h ⊢
    split at h <;> try (simp at h; done)
    rename_i us hus
    split at h <;> simp at h
    rename_i cs e z hz
    obtain ⟨rfl, rfl⟩ := h
    simp [hus, aBuildSlice, hz, newBlk]
  | makeSlice t l c =>
    simp only [ho] at h ⊢
    split at h <;> try (simp at h; done)
    rename_i a b ha hb
    split at h <;> simp at h
    rename_i zs e z ln cp hz
    obtain ⟨rfl, rfl⟩ := h
    simp [ha, hb, aMakeSlice, hz, newBlk]
  | makeMap t r =>
    cases r with
    | none =>
      simp only [ho] at h ⊢
      simp at h
      obtain ⟨rfl, rfl⟩ := h
      simp
    | some x => simp [ho] at h
  | _ => simp [ho] at h
noncomputable def slowP (P : Program) (gl : Glob) (d n : Nat) (o : Oper) : OpF d := fun _ E T k => match apure' P (rhoE gl d n E) [] o with | some r => frcVR r fun r => k r T | none => none
theorem apure_cnv {src dst : TypeId} {x : Operand} (ho : o.op = .convert src dst x) {r : AV} (h : apure' P ρ [] o = some r) : apure' P ρ H o = some r := by
  unfold apure' at h ⊢
  simp only [ho] at h ⊢
  split at h
  · rename_i b off len cap z hx
    split at h
    · simp [aConvR] at h
    · cases h
  · simpa only [apure, ho] using h
theorem slowC_ok {src dst : TypeId} {x : Operand} (ho : o.op = .convert src dst x) : OpOK P gl d n o (slowP P gl d n o) := by
  intro forc orc E T k out H hO hR h
  unfold slowP at h
  split at h <;> try (simp at h; done)
  rename_i r hr
  rw [frcVR_eq] at h
  exact ⟨r, T, H, aop_pure (by simp [kind, ho]) (apure_cnv ho hr), hR, h⟩
theorem slowP_ok (hk : kind o = 0) : OpOK P gl d n o (slowP P gl d n o) := by
  intro forc orc E T k out H hO hR h
  unfold slowP at h
  split at h <;> try (simp at h; done)
  rename_i r hr
  rw [frcVR_eq] at h
  exact ⟨r, T, H, aop_pure (by omega) (by rw [← pure0 hk [] H]; exact hr), hR, h⟩
end ok
noncomputable def kix (k : IntKind) : Nat := IntKind.rec 0 1 2 3 4 5 6 7 k
theorem kix_inj {k k' : IntKind} (h : Nat.beq (kix k) (kix k') = true) : k = k' := by
  cases k <;> cases k' <;> first | rfl | (exact absurd (show Nat.beq (kix _) (kix _) = false from rfl) (by rw [h]; simp))
noncomputable def kmx (k : IntKind) : Nat := IntKind.rec 127 32767 2147483647 9223372036854775807 255 65535 4294967295 18446744073709551615 k
theorem kmx_wrap {k : IntKind} {s : Nat} (h : s ≤ kmx k) : k.wrap (s : Int) = s := by
  cases k with
  | i8 => exact IntWalk.i8_in _ (by have : s ≤ 127 := h; omega)
  | i16 => exact IntWalk.i16_in _ (by have : s ≤ 32767 := h; omega)
  | i32 => exact IntWalk.i32_in _ (by have : s ≤ 2147483647 := h; omega)
  | i64 => exact IntWalk.i64_in _ (by have : s ≤ 9223372036854775807 := h; omega)
  | u8 => exact IntWalk.u8_in _ (by have : s ≤ 255 := h; omega)
  | u16 => exact IntWalk.u16_in _ (by have : s ≤ 65535 := h; omega)
  | u32 => exact IntWalk.u32_in _ (by have : s ≤ 4294967295 := h; omega)
  | u64 => exact IntWalk.u64_in _ (by have : s ≤ 18446744073709551615 := h; omega)
abbrev BinF := AV → AV → (AV → Res) → Res → Res
def BinOK (P : Program) (op : BinOp) (t : TypeId) (F : BinF) : Prop := ∀ x y k dd out, F x y k dd = some out → (∃ r, aBin P op t x y = some r ∧ k r = some out) ∨ dd = some out
noncomputable def cmpF (c : Nat → Nat → Bool) : BinF := fun x y k dd =>
  onNat x (fun kx a => onNat y (fun ky b => iff' (Nat.beq (kix kx) (kix ky)) (iff' (c a b) (k (.bool true)) (k (.bool false))) dd) dd) dd
theorem cmpF_ok {P : Program} {op : BinOp} {t : TypeId} {c : Nat → Nat → Bool} (h1 : op ≠ .shl) (h2 : op ≠ .shr) (hc : ∀ k (a b : Nat), aBinInt op k (a : Int) (b : Int) = some (.bool (c a b))) : BinOK P op t (cmpF c) := by
  intro x y k dd out h
  unfold cmpF at h
  rcases onNat_cases x (fun kx a => onNat y (fun ky b => iff' (Nat.beq (kix kx) (kix ky)) (iff' (c a b) (k (.bool true)) (k (.bool false))) dd) dd) dd with ⟨kx, a, rfl, e⟩ | e
  · rw [e] at h
    rcases onNat_cases y (fun ky b => iff' (Nat.beq (kix kx) (kix ky)) (iff' (c a b) (k (.bool true)) (k (.bool false))) dd) dd with ⟨ky, b, rfl, e'⟩ | e'
    · rw [e', iff'_eq] at h
      split at h
      · rename_i hk
        have := kix_inj hk; subst this
        refine .inl ⟨.bool (c a b), ?_, ?_⟩
        · have := hc kx a b
          cases op <;> first | exact (h1 rfl).elim | exact (h2 rfl).elim | simpa [aBin] using this
        · rw [iff'_eq] at h; cases hcab : c a b <;> simpa [hcab] using h
      · exact .inr h
    · rw [e'] at h; exact .inr h
  · rw [e] at h; exact .inr h
noncomputable def ariF (f : Nat → Nat → Nat) (g : Nat → Nat → Bool) : BinF := fun x y k dd =>
  onNat x (fun kx a => onNat y (fun ky b => iff' (Nat.beq (kix kx) (kix ky)) (iff' (g a b) (iff' (Nat.ble (f a b) (kmx kx)) (frcN (f a b) fun s => k (.int kx (.ofNat s))) dd) dd) dd) dd) dd
theorem frcN_eq' {β : Type} (m : Nat) (f : Nat → β) : frcN m f = f m := by cases m <;> rfl
theorem ariF_ok {P : Program} {op : BinOp} {t : TypeId} {f : Nat → Nat → Nat} {g : Nat → Nat → Bool} (h1 : op ≠ .shl) (h2 : op ≠ .shr)
    (hc : ∀ k (a b : Nat), g a b = true → aBinInt op k (a : Int) (b : Int) = some (.int k (k.wrap (f a b : Nat)))) : BinOK P op t (ariF f g) := by
  intro x y k dd out h
  unfold ariF at h
  rcases onNat_cases x (fun kx a => onNat y (fun ky b => iff' (Nat.beq (kix kx) (kix ky)) (iff' (g a b) (iff' (Nat.ble (f a b) (kmx kx)) (frcN (f a b) fun s => k (.int kx (.ofNat s))) dd) dd) dd) dd) dd with ⟨kx, a, rfl, e⟩ | e
  · rw [e] at h
    rcases onNat_cases y (fun ky b => iff' (Nat.beq (kix kx) (kix ky)) (iff' (g a b) (iff' (Nat.ble (f a b) (kmx kx)) (frcN (f a b) fun s => k (.int kx (.ofNat s))) dd) dd) dd) dd with ⟨ky, b, rfl, e'⟩ | e'
    · rw [e', iff'_eq] at h
      split at h
      · rename_i hk
        have := kix_inj hk; subst this
        rw [iff'_eq] at h
        split at h
        · rename_i hg
          rw [iff'_eq] at h
          split at h
          · rename_i hle
            rw [frcN_eq'] at h
            refine .inl ⟨_, ?_, h⟩
            have := hc kx a b hg
            rw [kmx_wrap (Nat.le_of_ble_eq_true hle)] at this
            cases op <;> first | exact (h1 rfl).elim | exact (h2 rfl).elim | simpa [aBin] using this
          · exact .inr h
        · exact .inr h
      · exact .inr h
    · rw [e'] at h; exact .inr h
  · rw [e] at h; exact .inr h
noncomputable def eqF (want : Bool) : BinF := fun x y k dd =>
  cmpF (fun a b => iff' (Nat.beq a b) want (!want)) x y k (onStr x (fun s => onStr y (fun s' => iff' (eqS s s') (k (.bool want)) (k (.bool (!want)))) dd) dd)
theorem eqF_ok {P : Program} {op : BinOp} {t : TypeId} {want : Bool} (hop : (op = .eql ∧ want = true) ∨ (op = .neq ∧ want = false)) : BinOK P op t (eqF want) := by
  intro x y k dd out h
  have hci : ∀ k (a b : Nat), aBinInt op k (a : Int) (b : Int) = some (.bool (iff' (Nat.beq a b) want (!want))) := by
    intro k a b
    have hab : Nat.beq a b = decide ((a : Int) = (b : Int)) := by
      by_cases e : a = b
      · subst e; simp
      · have : ¬ ((a : Int) = b) := by omega
        have h3 : Nat.beq a b = false := by cases hq : Nat.beq a b with | false => rfl | true => exact absurd (Nat.eq_of_beq_eq_true hq) e
        rw [h3]; simp [this]
    rcases hop with ⟨rfl, rfl⟩ | ⟨rfl, rfl⟩
    · simp only [aBinInt, iff'_eq, hab]; by_cases e : (a : Int) = b <;> simp [e]
    · simp only [aBinInt, iff'_eq, hab]; by_cases e : (a : Int) = b <;> simp [e]
  rcases cmpF_ok (P := P) (t := t) (by rcases hop with ⟨rfl, _⟩ | ⟨rfl, _⟩ <;> simp) (by rcases hop with ⟨rfl, _⟩ | ⟨rfl, _⟩ <;> simp) hci x y k _ out h with h1 | h1
  · exact .inl h1
  · rcases onStr_cases x (fun s => onStr y (fun s' => iff' (eqS s s') (k (.bool want)) (k (.bool (!want)))) dd) dd with ⟨s, rfl, e⟩ | e
    · rw [e] at h1
      rcases onStr_cases y (fun s' => iff' (eqS s s') (k (.bool want)) (k (.bool (!want)))) dd with ⟨s', rfl, e'⟩ | e'
      · rw [e', iff'_eq, eqS_eq] at h1
        rcases hop with ⟨rfl, rfl⟩ | ⟨rfl, rfl⟩
        · refine .inl ⟨.bool (s == s'), by simp [aBin, aBinStr], ?_⟩
          cases hs : (s == s') <;> simpa [hs] using h1
        · refine .inl ⟨.bool !(s == s'), by simp [aBin, aBinStr], ?_⟩
          cases hs : (s == s') <;> simpa [hs] using h1
      · rw [e'] at h1; exact .inr h1
    · rw [e] at h1; exact .inr h1
noncomputable def binF (op : BinOp) : Option BinF :=
  match op with
  | .add => some (ariF (fun a b => Nat.add a b) (fun _ _ => true))
  | .sub => some (ariF (fun a b => Nat.sub a b) (fun a b => Nat.ble b a))
  | .mul => some (ariF (fun a b => Nat.mul a b) (fun _ _ => true))
  | .eql => some (eqF true)
  | .neq => some (eqF false)
  | .lss => some (cmpF fun a b => Nat.blt a b)
  | .leq => some (cmpF fun a b => Nat.ble a b)
  | .gtr => some (cmpF fun a b => Nat.blt b a)
  | .geq => some (cmpF fun a b => Nat.ble b a)
  | _ => none
theorem binF_ok {P : Program} {op : BinOp} {t : TypeId} {F : BinF} (h : binF op = some F) : BinOK P op t F := by
  unfold binF at h
  cases op <;> simp at h <;> subst h
  · exact ariF_ok (by simp) (by simp) fun k a b _ => by simp only [aBinInt]; rfl
  · refine ariF_ok (by simp) (by simp) fun k a b hg => ?_
    have := Nat.le_of_ble_eq_true hg
    simp only [aBinInt]
    have e : ((a : Int) - (b : Int)) = ((Nat.sub a b : Nat) : Int) := by show _ = ((a - b : Nat) : Int); omega
    rw [e]; rfl
  · exact ariF_ok (by simp) (by simp) fun k a b _ => by simp only [aBinInt]; rfl
  · exact eqF_ok (.inl ⟨rfl, rfl⟩)
  · exact eqF_ok (.inr ⟨rfl, rfl⟩)
  · refine cmpF_ok (by simp) (by simp) fun k a b => ?_
    simp only [aBinInt]; congr 2
    by_cases e : a < b
    · have h2 : Nat.blt a b = true := by simpa [Nat.blt_eq] using e
      rw [h2]; simp [e]
    · have h2 : Nat.blt a b = false := by cases hq : Nat.blt a b with | false => rfl | true => exact absurd (by simpa [Nat.blt_eq] using hq) e
      rw [h2]; simp [e]
  · refine cmpF_ok (by simp) (by simp) fun k a b => ?_
    simp only [aBinInt]; congr 2
    by_cases e : a ≤ b
    · have h2 : Nat.ble a b = true := Nat.ble_eq_true_of_le e
      rw [h2]; simp [e]
    · have h2 : Nat.ble a b = false := by cases hq : Nat.ble a b with | false => rfl | true => exact absurd (Nat.le_of_ble_eq_true hq) e
      rw [h2]; simp [e]
  · refine cmpF_ok (by simp) (by simp) fun k a b => ?_
    simp only [aBinInt]; congr 2
    by_cases e : b < a
    · have h2 : Nat.blt b a = true := by simpa [Nat.blt_eq] using e
      rw [h2]; simp [e]
    · have h2 : Nat.blt b a = false := by cases hq : Nat.blt b a with | false => rfl | true => exact absurd (by simpa [Nat.blt_eq] using hq) e
      rw [h2]; simp [e]
  · refine cmpF_ok (by simp) (by simp) fun k a b => ?_
    simp only [aBinInt]; congr 2
    by_cases e : b ≤ a
    · have h2 : Nat.ble b a = true := Nat.ble_eq_true_of_le e
      rw [h2]; simp [e]
    · have h2 : Nat.ble b a = false := by cases hq : Nat.ble b a with | false => rfl | true => exact absurd (Nat.le_of_ble_eq_true hq) e
      rw [h2]; simp [e]
end Go.Abs
end


section

set_option linter.unusedSimpArgs false
set_option linter.unusedVariables false
namespace Go.Abs
open Go.RowKit
section some
variable {γ : Type} {v : AV} {out : γ}
theorem onNat_some {f : IntKind → Nat → Option γ} {dd : Option γ} (h : onNat v f dd = some out) : (∃ k n, v = .int k (Int.ofNat n) ∧ f k n = some out) ∨ dd = some out := by
  rcases onNat_cases v f dd with ⟨k, n, rfl, e⟩ | e <;> rw [e] at h
  · exact .inl ⟨k, n, rfl, h⟩
  · exact .inr h
theorem onBool_some {f : Bool → Option γ} {dd : Option γ} (h : onBool v f dd = some out) : (∃ b, v = .bool b ∧ f b = some out) ∨ ((∀ b, v ≠ .bool b) ∧ dd = some out) := by
  rcases onBool_cases v f dd with ⟨b, rfl, e⟩ | ⟨e', e⟩ <;> rw [e] at h
  · exact .inl ⟨b, rfl, h⟩
  · exact .inr ⟨e', h⟩
theorem onStr_some {f : List UInt8 → Option γ} {dd : Option γ} (h : onStr v f dd = some out) : (∃ b, v = .str b ∧ f b = some out) ∨ dd = some out := by
  rcases onStr_cases v f dd with ⟨b, rfl, e⟩ | e <;> rw [e] at h
  · exact .inl ⟨b, rfl, h⟩
  · exact .inr h
theorem onPtr_some {f : Nat → Nat → Option γ} {g : List AV → Option γ} {dd : Option γ} (h : onPtr v f g dd = some out) : (∃ b o, v = .ptr b o ∧ f b o = some out) ∨ (∃ cs, v = .rp cs ∧ g cs = some out) ∨ dd = some out := by
  rcases onPtr_cases v f g dd with ⟨b, o, rfl, e⟩ | ⟨cs, rfl, e⟩ | e <;> rw [e] at h
  · exact .inl ⟨b, o, rfl, h⟩
  · exact .inr (.inl ⟨cs, rfl, h⟩)
  · exact .inr (.inr h)
theorem onSlice_some {f : Nat → Nat → Nat → Nat → Nat → Option γ} {g : Nat → Nat → List AV → Option γ} {e dd : Option γ} (h : onSlice v f g e dd = some out) :
    (∃ b o l c z, v = .slice b o l c z ∧ f b o l c z = some out) ∨ (∃ n z cs, v = .rs n z cs ∧ g n z cs = some out) ∨ (v = .nslice ∧ e = some out) ∨ dd = some out := by
  rcases onSlice_cases v f g e dd with ⟨b, o, l, c, z, rfl, e⟩ | ⟨n, z, cs, rfl, e⟩ | ⟨rfl, e⟩ | e <;> rw [e] at h
  · exact .inl ⟨b, o, l, c, z, rfl, h⟩
  · exact .inr (.inl ⟨n, z, cs, rfl, h⟩)
  · exact .inr (.inr (.inl ⟨rfl, h⟩))
  · exact .inr (.inr (.inr h))
theorem onTuple_some {f : List AV → Option γ} {dd : Option γ} (h : onTuple v f dd = some out) : (∃ b, v = .tuple b ∧ f b = some out) ∨ dd = some out := by
  rcases onTuple_cases v f dd with ⟨b, rfl, e⟩ | e <;> rw [e] at h
  · exact .inl ⟨b, rfl, h⟩
  · exact .inr h
theorem onAgg_some {f : List AV → Option γ} {dd : Option γ} (h : onAgg v f dd = some out) : (∃ b, v = .agg b ∧ f b = some out) ∨ ((∀ b, v ≠ .agg b) ∧ dd = some out) := by
  rcases onAgg_cases v f dd with ⟨b, rfl, e⟩ | ⟨e', e⟩ <;> rw [e] at h
  · exact .inl ⟨b, rfl, h⟩
  · exact .inr ⟨e', h⟩
theorem onFunc_some {f : Fn → List AV → List AV → Option γ} {dd : Option γ} (h : onFunc v f dd = some out) : (∃ fn a b, v = .func fn a b ∧ f fn a b = some out) ∨ dd = some out := by
  rcases onFunc_cases v f dd with ⟨fn, a, b, rfl, e⟩ | e <;> rw [e] at h
  · exact .inl ⟨fn, a, b, rfl, h⟩
  · exact .inr h
theorem onCells_some {o : AObj} {f : Nat → Nat → List AV → TypeId → Option γ} (h : onCells o f none = some out) : ∃ fam sh cs ty, o = ⟨true, fam, sh, .cells cs ty⟩ ∧ f fam sh cs ty = some out := by
  rcases onCells_cases o f none with ⟨a, b, c, d, rfl, e⟩ | e <;> rw [e] at h
  · exact ⟨a, b, c, d, rfl, h⟩
  · cases h
theorem onMap_some {o : AObj} {f : Nat → Nat → List (AV × AV × Nat) → Nat → Option γ} (h : onMap o f none = some out) : ∃ fam sh cs ty, o = ⟨true, fam, sh, .map cs ty⟩ ∧ f fam sh cs ty = some out := by
  rcases onMap_cases o f none with ⟨a, b, c, d, rfl, e⟩ | e <;> rw [e] at h
  · exact ⟨a, b, c, d, rfl, h⟩
  · cases h
theorem iff_some {b : Bool} {x : Option γ} (h : iff' b x none = some out) : b = true ∧ x = some out := by
  cases b
  · cases h
  · exact ⟨rfl, h⟩
theorem getR_some {α : Type} {l : List α} {n : Nat} {f : α → Option γ} (h : getR l n f none = some out) : ∃ v, l[n]? = some v ∧ f v = some out := by
  rcases getR_cases l n f none with ⟨v, h1, e⟩ | e <;> rw [e] at h
  · exact ⟨v, h1, h⟩
  · cases h
theorem tkR_some {n : Nat} {l : List AV} {f : List AV → Option γ} (h : tkR n l f none = some out) : ∃ r, tk n l = some r ∧ f r = some out := by
  rcases tkR_cases n l f none with ⟨v, h1, e⟩ | e <;> rw [e] at h
  · exact ⟨v, h1, h⟩
  · cases h
theorem splR_some {l : List AV} {n : Nat} {vs : List AV} {f : List AV → Option γ} (h : splR l n vs f none = some out) : ∃ r, spl l n vs = some r ∧ f r = some out := by
  rcases splR_cases l n vs f none with ⟨v, h1, e⟩ | e <;> rw [e] at h
  · exact ⟨v, h1, h⟩
  · cases h
end some
theorem tk_one {l : List AV} {n : Nat} {v : AV} (h : l[n]? = some v) : tk 1 (l.drop n) = some [v] := by
  obtain ⟨hn, rfl⟩ := List.getElem?_eq_some_iff.1 h
  rw [List.drop_eq_getElem_cons hn]; simp [tk]
noncomputable def onTH {β : Type} (T : TH) (f : Nat → BT AObj 12 → β) : β := TH.rec f T
noncomputable def putK (T : TH) (b : Nat) (o : AObj) (f : TH → Res) : Res := onTH T fun sz tr => btputK 12 b o tr fun tr' => f ⟨sz, tr'⟩
theorem putK_eq (T : TH) (b : Nat) (o : AObj) (f : TH → Res) : putK T b o f = f (T.set b o) := by
  obtain ⟨sz, tr⟩ := T
  show btputK 12 b o tr (fun tr' => f ⟨sz, tr'⟩) = _
  rw [btputK_eq]; rfl
noncomputable def newK (T : TH) (bd : ABody) (f : Nat → TH → Res) : Res :=
  onTH T fun sz tr => iff' (Nat.blt sz 4096) (btputK 12 sz ⟨true, sz, 0, bd⟩ tr fun tr' => frcN (Nat.add sz 1) fun s => f sz ⟨s, tr'⟩) none
theorem newK_some {T : TH} {bd : ABody} {f : Nat → TH → Res} {out : AV × TH} (h : newK T bd f = some out) : T.sz < 4096 ∧ f T.sz (T.push ⟨true, T.sz, 0, bd⟩) = some out := by
  obtain ⟨sz, tr⟩ := T
  obtain ⟨h1, h2⟩ := iff_some (show iff' (Nat.blt sz 4096) (btputK 12 sz ⟨true, sz, 0, bd⟩ tr fun tr' => frcN (Nat.add sz 1) fun s => f sz ⟨s, tr'⟩) none = some out from h)
  rw [btputK_eq, frcN_eq'] at h2
  exact ⟨by simpa [Nat.blt_eq] using h1, h2⟩
section ops
variable {P : Program} {gl : Glob} {d n : Nat} {o : Oper}
noncomputable def movF (g : Tre AV d → AV) : OpF d := fun _ E T k => frc1 (g E) fun v => k v T
theorem movF_ok {x : Operand} {g : Tre AV d → AV} (ho : o.op = .move x ∨ o.op = .assign x) (hg : copd gl d n x = some g) : OpOK P gl d n o (movF g) := by
  intro forc orc E T k out H hO hR h
  simp only [movF, frc1_eq] at h
  refine ⟨g E, T, H, aop_pure (by rcases ho with e | e <;> simp [kind, e]) ?_, hR, h⟩
  rcases ho with e | e <;> simp [apure', apure, e, rhoE_of hg]
noncomputable def pickF (gc ga gb : Tre AV d → AV) : OpF d := fun _ E T k => onBool (gc E) (fun b => iff' b (frc1 (ga E) fun v => k v T) (frc1 (gb E) fun v => k v T)) none
theorem pickF_ok {c a b : Operand} {gc ga gb : Tre AV d → AV} (ho : o.op = .pick c a b) (hc : copd gl d n c = some gc) (ha : copd gl d n a = some ga) (hb : copd gl d n b = some gb) : OpOK P gl d n o (pickF gc ga gb) := by
  intro forc orc E T k out H hO hR h
  simp only [pickF, frc1_eq] at h
  rcases onBool_some h with ⟨w, e, h⟩ | ⟨_, h⟩ <;> try (cases h; done)
  cases w with
  | true => exact ⟨ga E, T, H, aop_pure (by simp [kind, ho]) (by simp [apure', apure, ho, rhoE_of hc, rhoE_of ha, e]), hR, h⟩
  | false => exact ⟨gb E, T, H, aop_pure (by simp [kind, ho]) (by simp [apure', apure, ho, rhoE_of hc, rhoE_of hb, e]), hR, h⟩
noncomputable def bopF (F : BinF) (gx gy : Tre AV d → AV) (s : OpF d) : OpF d := fun forc E T k => F (gx E) (gy E) (fun r => k r T) (s forc E T k)
theorem bopF_ok {op : BinOp} {t t2 : TypeId} {x y : Operand} {F : BinF} {gx gy : Tre AV d → AV} {s : OpF d} (ho : o.op = .binOp op t x y t2) (hF : binF op = some F) (hx : copd gl d n x = some gx) (hy : copd gl d n y = some gy)
    (hs : OpOK P gl d n o s) : OpOK P gl d n o (bopF F gx gy s) := by
  intro forc orc E T k out H hO hR h
  rcases binF_ok (P := P) (t := t) hF _ _ _ _ _ h with ⟨r, h1, h2⟩ | h
  · exact ⟨r, T, H, aop_pure (by simp [kind, ho]) (by simp [apure', ho, rhoE_of hx, rhoE_of hy, aBin2_of h1]), hR, h2⟩
  · exact hs forc orc E T k out H hO hR h
noncomputable def notF (g : Tre AV d → AV) : OpF d := fun _ E T k => onBool (g E) (fun b => iff' b (k (.bool false) T) (k (.bool true) T)) none
theorem notF_ok {t : TypeId} {x : Operand} {g : Tre AV d → AV} (ho : o.op = .unOp .not t x) (hg : copd gl d n x = some g) : OpOK P gl d n o (notF g) := by
  intro forc orc E T k out H hO hR h
  rcases onBool_some h with ⟨w, e, h⟩ | ⟨_, h⟩ <;> try (cases h; done)
  refine ⟨.bool !w, T, H, aop_pure (by simp [kind, ho]) (by simp [apure', apure, ho, rhoE_of hg, e, aUn]), hR, ?_⟩
  cases w <;> exact h
noncomputable def loadF1 (g : Tre AV d → AV) : OpF d := fun _ E T k =>
  onPtr (g E) (fun b off => onCells (T.get b) (fun _ _ cs _ => getR cs off (fun v => k v T) none) none) (fun cs => getR cs 0 (fun v => k v T) none) none
theorem loadF1_ok {t : TypeId} {x : Operand} {g : Tre AV d → AV} (ho : o.op = .load t x) (ht : tagg P t = some false) (hg : copd gl d n x = some g) : OpOK P gl d n o (loadF1 g) := by
  intro forc orc E T k out H hO hR h
  rcases onPtr_some h with ⟨b, off, e, h⟩ | ⟨cs, e, h⟩ | h <;> try (cases h; done)
  · obtain ⟨fam, sh, cs, ty, e2, h⟩ := onCells_some h
    obtain ⟨v, h1, h2⟩ := getR_some h
    have hH := hR.obj b (by rw [e2])
    rw [e2] at hH
    exact ⟨v, T, H, aop_pure (by simp [kind, ho]) (by simp [apure', apure, ho, rhoE_of hg, e, aload, ht, rd, hH, tk_one h1]), hR, h2⟩
  · obtain ⟨v, h1, h2⟩ := getR_some h
    have := tk_one h1
    exact ⟨v, T, H, aop_pure (by simp [kind, ho]) (by simp [apure', apure, ho, rhoE_of hg, e, aload, ht, rd, show tk 1 cs = some [v] by simpa using this]), hR, h2⟩
noncomputable def loadFn (m : Nat) (g : Tre AV d → AV) : OpF d := fun _ E T k =>
  onPtr (g E) (fun b off => onCells (T.get b) (fun _ _ cs _ => tkR m (dropR cs off) (fun l => k (.agg l) T) none) none) (fun cs => tkR m cs (fun l => k (.agg l) T) none) none
theorem loadFn_ok {t : TypeId} {x : Operand} {m : Nat} {g : Tre AV d → AV} (ho : o.op = .load t x) (ht : tagg P t = some true) (hm : tsz P t = some m) (hg : copd gl d n x = some g) : OpOK P gl d n o (loadFn m g) := by
  intro forc orc E T k out H hO hR h
  rcases onPtr_some h with ⟨b, off, e, h⟩ | ⟨cs, e, h⟩ | h <;> try (cases h; done)
  · obtain ⟨fam, sh, cs, ty, e2, h⟩ := onCells_some h
    obtain ⟨v, h1, h2⟩ := tkR_some h
    have hH := hR.obj b (by rw [e2])
    rw [e2] at hH
    rw [dropR_eq] at h1
    exact ⟨.agg v, T, H, aop_pure (by simp [kind, ho]) (by simp [apure', apure, ho, rhoE_of hg, e, aload, ht, hm, rd, hH, h1]), hR, h2⟩
  · obtain ⟨v, h1, h2⟩ := tkR_some h
    exact ⟨.agg v, T, H, aop_pure (by simp [kind, ho]) (by simp [apure', apure, ho, rhoE_of hg, e, aload, ht, hm, rd, h1]), hR, h2⟩
noncomputable def fadF (c : Nat) (g : Tre AV d → AV) : OpF d := fun _ E T k => onPtr (g E) (fun b off => frcN (Nat.add off c) fun w => k (.ptr b w) T) (fun cs => k (.rp (dropR cs c)) T) none
theorem fadF_ok {s : TypeId} {x : Operand} {f m : Nat} {fd : Field} {g : Tre AV d → AV} (ho : o.op = .fieldAddr s x f) (hf : fieldOf P s f = some fd) (hz : tsz P fd.type = some (m + 1)) (hg : copd gl d n x = some g) : OpOK P gl d n o (fadF fd.offset g) := by
  intro forc orc E T k out H hO hR h
  rcases onPtr_some h with ⟨b, off, e, h⟩ | ⟨cs, e, h⟩ | h <;> try (cases h; done)
  · rw [frcN_eq'] at h
    exact ⟨_, T, H, aop_pure (by simp [kind, ho]) (by simp only [apure', apure, ho, rhoE_of hg, e, aFieldAddr, hf, hz]; rfl), hR, h⟩
  · rw [dropR_eq] at h
    exact ⟨_, T, H, aop_pure (by simp [kind, ho]) (by simp only [apure', apure, ho, rhoE_of hg, e, aFieldAddr, hf, hz]), hR, h⟩
noncomputable def iadF (z : Nat) (gx gi : Tre AV d → AV) : OpF d := fun _ E T k =>
  onNat (gi E) (fun _ i => onSlice (gx E) (fun b off len _ z' => iff' (Nat.blt i len) (iff' (Nat.beq z' z) (frcN (Nat.add off (Nat.mul i z)) fun w => k (.ptr b w) T) none) none)
    (fun m z' cs => iff' (Nat.blt i m) (iff' (Nat.beq z' z) (k (.rp (dropR cs (Nat.mul i z))) T) none) none) none none) none
theorem iadF_ok {t e : TypeId} {x i : Operand} {z : Nat} {gx gi : Tre AV d → AV} (ho : o.op = .indexAddr t x i) (ht : P.underlying t = some (.slice e)) (hz : tsz P e = some z) (hx : copd gl d n x = some gx) (hi : copd gl d n i = some gi) : OpOK P gl d n o (iadF z gx gi) := by
  intro forc orc E T k out H hO hR h
  rcases onNat_some h with ⟨kk, m, e1, h⟩ | h <;> try (cases h; done)
  rcases onSlice_some h with ⟨b, off, l, c, z', e2, h⟩ | ⟨l, z', cs, e2, h⟩ | ⟨_, h⟩ | h <;> try (cases h; done)
  · obtain ⟨h1, h⟩ := iff_some h
    obtain ⟨h2, h⟩ := iff_some h
    have h1' : m < l := by simpa [Nat.blt_eq] using h1
    have h2' := Nat.eq_of_beq_eq_true h2
    subst h2'
    rw [frcN_eq'] at h
    refine ⟨_, T, H, aop_pure (by simp [kind, ho]) ?_, hR, h⟩
    have hc : (0 : Int) ≤ Int.ofNat m ∧ Int.ofNat m < (l : Int) := ⟨Int.natCast_nonneg m, by show (m : Int) < l; omega⟩
    simp only [apure', apure, ho, rhoE_of hx, rhoE_of hi, e1, e2, aIndexAddr, ht, hz, if_pos hc, if_true]
    rfl
  · obtain ⟨h1, h⟩ := iff_some h
    obtain ⟨h2, h⟩ := iff_some h
    have h1' : m < l := by simpa [Nat.blt_eq] using h1
    have h2' := Nat.eq_of_beq_eq_true h2
    subst h2'
    rw [dropR_eq] at h
    refine ⟨_, T, H, aop_pure (by simp [kind, ho]) ?_, hR, h⟩
    have hc : (0 : Int) ≤ Int.ofNat m ∧ Int.ofNat m < (l : Int) := ⟨Int.natCast_nonneg m, by show (m : Int) < l; omega⟩
    simp only [apure', apure, ho, rhoE_of hx, rhoE_of hi, e1, e2, aIndexAddr, ht, hz, if_pos hc, if_true]
    rfl
noncomputable def idxF (gx gi : Tre AV d → AV) : OpF d := fun _ E T k =>
  onNat (gi E) (fun _ i => onStr (gx E) (fun s => getR s i (fun c => frcN (UInt8.toNat c) fun w => k (.int .u8 (.ofNat w)) T) none) none) none
theorem idxF_ok {t : TypeId} {x i : Operand} {gx gi : Tre AV d → AV} (ho : o.op = .index t x i) (ht : P.underlying t = some .string) (hx : copd gl d n x = some gx) (hi : copd gl d n i = some gi) : OpOK P gl d n o (idxF gx gi) := by
  intro forc orc E T k out H hO hR h
  rcases onNat_some h with ⟨kk, m, e1, h⟩ | h <;> try (cases h; done)
  rcases onStr_some h with ⟨s, e2, h⟩ | h <;> try (cases h; done)
  obtain ⟨c, h1, h⟩ := getR_some h
  rw [frcN_eq'] at h
  refine ⟨_, T, H, aop_pure (by simp [kind, ho]) ?_, hR, h⟩
  have hc : (0 : Int) ≤ Int.ofNat m := Int.natCast_nonneg m
  have ht' : (Int.ofNat m).toNat = m := rfl
  simp only [apure', apure, ho, rhoE_of hx, rhoE_of hi, e1, e2, aIndex, ht, if_pos hc, ht', h1]
  rfl
noncomputable def extF (i : Nat) (g : Tre AV d → AV) : OpF d := fun _ E T k => onTuple (g E) (fun vs => getR vs i (fun v => k v T) none) none
theorem extF_ok {x : Operand} {i : Nat} {g : Tre AV d → AV} (ho : o.op = .extract x i) (hg : copd gl d n x = some g) : OpOK P gl d n o (extF i g) := by
  intro forc orc E T k out H hO hR h
  rcases onTuple_some h with ⟨vs, e, h⟩ | h <;> try (cases h; done)
  obtain ⟨v, h1, h2⟩ := getR_some h
  exact ⟨v, T, H, aop_pure (by simp [kind, ho]) (by simp [apure', apure, ho, rhoE_of hg, e, aExtract, h1]), hR, h2⟩
noncomputable def nilF (g : Tre AV d → AV) (s : OpF d) : OpF d := fun forc E T k => onPtr (g E) (fun b off => k (.ptr b off) T) (fun cs => k (.rp cs) T) (s forc E T k)
theorem nilF_ok {x : Operand} {g : Tre AV d → AV} {s : OpF d} (ho : o.op = .nilCheck x) (hg : copd gl d n x = some g) (hs : OpOK P gl d n o s) : OpOK P gl d n o (nilF g s) := by
  intro forc orc E T k out H hO hR h
  rcases onPtr_some h with ⟨b, off, e, h⟩ | ⟨cs, e, h⟩ | h
  · exact ⟨_, T, H, aop_pure (by simp [kind, ho]) (by simp [apure', apure, ho, rhoE_of hg, e, aNil]), hR, h⟩
  · exact ⟨_, T, H, aop_pure (by simp [kind, ho]) (by simp [apure', apure, ho, rhoE_of hg, e, aNil]), hR, h⟩
  · exact hs forc orc E T k out H hO hR h
noncomputable def lenSF (g : Tre AV d → AV) : OpF d := fun _ E T k => onStr (g E) (fun s => frcN (lenR s) fun m => k (.int .i64 (.ofNat m)) T) none
noncomputable def lenF (g : Tre AV d → AV) : OpF d := fun _ E T k => onSlice (g E) (fun _ _ l _ _ => k (.int .i64 (.ofNat l)) T) (fun m _ _ => k (.int .i64 (.ofNat m)) T) (k (.int .i64 (.ofNat 0)) T) none
noncomputable def lenMF (g : Tre AV d → AV) : OpF d := fun _ E T k => frc1 (g E) fun v => match v with
  | .nmap => k (.int .i64 (.ofNat 0)) T
  | .map b => onMap (T.get b) (fun _ _ es _ => frcN (lenR es) fun m => k (.int .i64 (.ofNat m)) T) none
  | _ => none
theorem kind_len {c : Call} (ho : o.op = .call c) (hc : c.callee = .builtin .len) : kind o = 1 := by simp [kind, ho, hc]
theorem lenSF_ok {c : Call} {x : Operand} {t : TypeId} {ts : List TypeId} {g : Tre AV d → AV} (ho : o.op = .call c) (hc : c.callee = .builtin .len) (ha : c.args.toList = [x]) (ht : c.argTypes.toList = t :: ts) (hu : P.underlying t = some .string)
    (hg : copd gl d n x = some g) : OpOK P gl d n o (lenSF g) := by
  intro forc orc E T k out H hO hR h
  rcases onStr_some h with ⟨s, e, h⟩ | h <;> try (cases h; done)
  rw [frcN_eq', lenR_eq] at h
  exact ⟨_, T, H, aop_pure (by rw [kind_len ho hc]; omega) (by simp only [apure', apure, ho, hc, ha, ht, rhoE_of hg, e, aLen, hu]; rfl), hR, h⟩
theorem lenF_ok {c : Call} {x : Operand} {t el : TypeId} {ts : List TypeId} {g : Tre AV d → AV} (ho : o.op = .call c) (hc : c.callee = .builtin .len) (ha : c.args.toList = [x]) (ht : c.argTypes.toList = t :: ts) (hu : P.underlying t = some (.slice el))
    (hg : copd gl d n x = some g) : OpOK P gl d n o (lenF g) := by
  intro forc orc E T k out H hO hR h
  rcases onSlice_some h with ⟨b, off, l, c', z', e, h⟩ | ⟨l, z', cs, e, h⟩ | ⟨e, h⟩ | h <;> try (cases h; done)
  all_goals exact ⟨_, T, H, aop_pure (by rw [kind_len ho hc]; omega) (by simp only [apure', apure, ho, hc, ha, ht, rhoE_of hg, e, aLen, hu]; rfl), hR, h⟩
theorem lenMF_ok {c : Call} {x : Operand} {t kt el : TypeId} {ts : List TypeId} {g : Tre AV d → AV} (ho : o.op = .call c) (hc : c.callee = .builtin .len) (ha : c.args.toList = [x]) (ht : c.argTypes.toList = t :: ts) (hu : P.underlying t = some (.map kt el))
    (hg : copd gl d n x = some g) : OpOK P gl d n o (lenMF g) := by
  intro forc orc E T k out H hO hR h
  simp only [lenMF, frc1_eq] at h
  split at h <;> try (cases h; done)
  · rename_i e
    exact ⟨_, T, H, aop_pure (by rw [kind_len ho hc]; omega) (by simp only [apure', apure, ho, hc, ha, ht, rhoE_of hg, e, aLen, hu]; rfl), hR, h⟩
  · rename_i b e
    obtain ⟨fam, sh, es, cl, e2, h⟩ := onMap_some h
    have hH := hR.obj b (by rw [e2])
    rw [e2] at hH
    rw [frcN_eq', lenR_eq] at h
    exact ⟨_, T, H, aop_pure (by rw [kind_len ho hc]; omega) (by simp only [apure', apure, ho, hc, ha, ht, rhoE_of hg, e, aLen, hu, mapObj, hH]; rfl), hR, h⟩
noncomputable def newF (mk : Nat → AV) (bd : ABody) (k : Knt) (T : TH) : Res := newK T bd fun sz T' => frc1 (mk sz) fun v => k v T'
noncomputable def frcBd {β : Type} (b : ABody) (f : ABody → β) : β := match b with
  | .cells cs ty => frcVLR cs fun cs => f (.cells cs ty)
  | b => f b
theorem frcBd_eq {β : Type} (b : ABody) (f : ABody → β) : frcBd b f = f b := by cases b <;> simp [frcBd, frcVLR_eq]
noncomputable def slowN (P : Program) (gl : Glob) (d n : Nat) (o : Oper) : OpF d := fun _ E T k => match aallocF P (rhoE gl d n E) o with | some (mk, bd) => frcBd bd fun bd => newF mk bd k T | none => none
theorem newF_ok {E : Tre AV d} {orc : Orc} {T : TH} {k : Knt} {out : AV × TH} {H : AHeap} {mk : Nat → AV} {bd : ABody} (hk : kind o = 2) (ha : aallocF P (rhoE gl d n E) o = some (mk, bd)) (hR : Rep T H) (h : newF mk bd k T = some out) :
    ∃ r T' H', aop P orc (rhoE gl d n E) o H = some (r, H') ∧ Rep T' H' ∧ k r T' = some out := by
  obtain ⟨h1, h2⟩ := newK_some h
  rw [frc1_eq] at h2
  refine ⟨mk H.length, _, _, aop_new hk ha, hR.push h1 bd, ?_⟩
  rw [← hR.sz]; exact h2
theorem slowN_ok (hk : kind o = 2) : OpOK P gl d n o (slowN P gl d n o) := by
  intro forc orc E T k out H hO hR h
  unfold slowN at h
  split at h <;> try (simp at h; done)
  rename_i mk bd ha
  rw [frcBd_eq] at h
  exact newF_ok hk ha hR h
noncomputable def allF (bd : ABody) : OpF d := fun _ E T k => newF (fun m => .ptr m 0) bd k T
theorem allF_ok {e : TypeId} {z : AV} (ho : o.op = .alloc e) (hz : tzero P e = some z) : OpOK P gl d n o (allF (.cells z.cells e)) := by
  intro forc orc E T k out H hO hR h
  exact newF_ok (by simp [kind, ho]) (by simp [aallocF, ho, hz]) hR h
noncomputable def boxF (e : TypeId) (g : Tre AV d → AV) : OpF d := fun _ E T k => frc1 (g E) fun v => onAgg v (fun cs => newF (fun m => .ptr m 0) (.cells cs e) k T) (newF (fun m => .ptr m 0) (.cells [v] e) k T)
theorem cells_one {v : AV} (h : ∀ b, v ≠ .agg b) : v.cells = [v] := by cases v <;> first | rfl | exact (h _ rfl).elim
theorem boxF_ok {e : TypeId} {x : Operand} {g : Tre AV d → AV} (ho : o.op = .box e x) (hg : copd gl d n x = some g) : OpOK P gl d n o (boxF e g) := by
  intro forc orc E T k out H hO hR h
  simp only [boxF, frc1_eq] at h
  rcases onAgg_some h with ⟨cs, e1, h⟩ | ⟨hne, h⟩
  · exact newF_ok (by simp [kind, ho]) (by simp [aallocF, ho, rhoE_of hg, e1, AV.cells]) hR h
  · exact newF_ok (by simp [kind, ho]) (by simp [aallocF, ho, rhoE_of hg, cells_one hne]) hR h
noncomputable def cfill (gl : Glob) (d n : Nat) (place : Nat → Option (Nat × Nat)) : List (Nat × Operand) → Option (Tre AV d → List AV → (List AV → Res) → Res)
  | [] => some fun _ cs f => f cs
  | (i, x) :: l => match place i, copd gl d n x, cfill gl d n place l with
    | some (off, sz), some g, some G => frcNR off fun off => frcNR sz fun sz => some fun E cs f => frc1 (g E) fun v =>
        onAgg v (fun vs => iff' (Nat.beq (lenR vs) sz) (splR cs off vs (fun cs' => G E cs' f) none) none) (iff' (Nat.beq 1 sz) (splR cs off [v] (fun cs' => G E cs' f) none) none)
    | _, _, _ => none
theorem cfill_ok {place : Nat → Option (Nat × Nat)} : ∀ (l : List (Nat × Operand)) (G : Tre AV d → List AV → (List AV → Res) → Res), cfill gl d n place l = some G → ∀ E cs f out, G E cs f = some out →
    ∃ us cs', aparts (rhoE gl d n E) l = some us ∧ aFill place cs us = some cs' ∧ f cs' = some out
  | [], G, h, E, cs, f, out, he => by simp [cfill] at h; subst h; exact ⟨[], cs, rfl, rfl, he⟩
  | (i, x) :: l, G, h, E, cs, f, out, he => by
    simp only [cfill] at h
    split at h <;> try (simp at h; done)
    rename_i off sz g G' hp hg hG
    rw [frcNR_eq, frcNR_eq] at h
    simp at h; subst h
    simp only [frc1_eq] at he
    rcases onAgg_some he with ⟨vs, e, he2⟩ | ⟨hne, he2⟩
    · obtain ⟨h1, he3⟩ := iff_some he2
      have h1' := Nat.eq_of_beq_eq_true h1
      rw [lenR_eq] at h1'
      obtain ⟨cs1, h2, he4⟩ := splR_some he3
      obtain ⟨us, cs', k1, k2, k3⟩ := cfill_ok l G' hG E cs1 f out he4
      exact ⟨(i, .agg vs) :: us, cs', by simp [aparts, rhoE_of hg, e, k1], by simp [aFill, hp, AV.cells, h1', h2, k2], k3⟩
    · obtain ⟨h1, he3⟩ := iff_some he2
      have h1' := Nat.eq_of_beq_eq_true h1
      obtain ⟨cs1, h2, he4⟩ := splR_some he3
      obtain ⟨us, cs', k1, k2, k3⟩ := cfill_ok l G' hG E cs1 f out he4
      exact ⟨(i, g E) :: us, cs', by simp [aparts, rhoE_of hg, k1], by simp [aFill, hp, cells_one hne, ← h1', h2, k2], k3⟩
noncomputable def bldF (zs : List AV) (G : Tre AV d → List AV → (List AV → Res) → Res) : OpF d := fun _ E T k => G E zs fun cs => k (.agg cs) T
theorem bldF_ok {t : TypeId} {ps : Array (Nat × Operand)} {z : AV} {fs : Array Field} {G : Tre AV d → List AV → (List AV → Res) → Res} (ho : o.op = .build t ps) (hz : tzero P t = some z) (hu : P.underlying t = some (.struct fs)) (ha : allSized P t = true)
    (hG : cfill gl d n (fplace P t) ps.toList = some G) : OpOK P gl d n o (bldF z.cells G) := by
  intro forc orc E T k out H hO hR h
  obtain ⟨us, cs', h1, h2, h3⟩ := cfill_ok _ _ hG E _ _ _ h
  exact ⟨.agg cs', T, H, aop_pure (by simp [kind, ho]) (by simp [apure', apure, ho, h1, aBuild, hz, hu, ha, h2]), hR, h3⟩
noncomputable def bslF (len : Nat) (zs : List AV) (e : TypeId) (z : Nat) (G : Tre AV d → List AV → (List AV → Res) → Res) : OpF d := fun _ E T k => G E zs fun cs => newF (fun m => .slice m 0 len len z) (.cells cs e) k T
theorem bsCore_fill {t : TypeId} {len : Nat} {zs cs : List AV} {e : TypeId} {z : Nat} {us : List (Nat × AV)} (h : bsCore P t len [] = some (zs, e, z)) (hf : aFill (fun i => some (i * z, z)) zs us = some cs) : bsCore P t len us = some (cs, e, z) := by
  unfold bsCore at h ⊢
  split at h <;> try (simp at h; done)
  rename_i e' hu
  split at h <;> try (simp at h; done)
  rename_i z' hz
  split at h <;> try (simp at h; done)
  rename_i hle
  split at h <;> try (simp at h; done)
  rename_i zs' hzs
  simp only [aFill, Option.some.injEq, Prod.mk.injEq] at h
  obtain ⟨rfl, rfl, rfl⟩ := h
  simp only [hu, hz, if_pos hle, hzs, hf]
theorem bslF_ok {t : TypeId} {len : Nat} {ps : Array (Nat × Operand)} {zs : List AV} {e : TypeId} {z : Nat} {G : Tre AV d → List AV → (List AV → Res) → Res} (ho : o.op = .buildSlice t len ps) (hz : bsCore P t len [] = some (zs, e, z))
    (hG : cfill gl d n (fun i => some (i * z, z)) ps.toList = some G) : OpOK P gl d n o (bslF len zs e z G) := by
  intro forc orc E T k out H hO hR h
  obtain ⟨us, cs', h1, h2, h3⟩ := cfill_ok _ _ hG E _ _ _ h
  exact newF_ok (by simp [kind, ho]) (by simp [aallocF, ho, h1, bsCore_fill hz h2]) hR h3
noncomputable def cbnd (gl : Glob) (d n : Nat) : Option Operand → Option (Tre AV d → Nat → (Nat → Res) → Res)
  | none => some fun _ m f => f m
  | some x => match copd gl d n x with | some g => some fun E _ f => onNat (g E) (fun _ i => f i) none | none => none
theorem cbnd_ok {b : Option Operand} {B : Tre AV d → Nat → (Nat → Res) → Res} (h : cbnd gl d n b = some B) {E : Tre AV d} {m top : Nat} {f : Nat → Res} {out : AV × TH} (hm : m ≤ top) (he : B E m (fun i => iff' (Nat.ble i top) (f i) none) = some out) :
    ∃ ob i, aopt (rhoE gl d n E) b = some ob ∧ bnd ob m top = some i ∧ f i = some out := by
  cases b with
  | none =>
    simp [cbnd] at h; subst h
    obtain ⟨_, h2⟩ := iff_some he
    exact ⟨none, m, rfl, rfl, h2⟩
  | some x =>
    simp only [cbnd] at h
    split at h <;> simp at h
    rename_i g hg
    subst h
    rcases onNat_some he with ⟨kk, i, e, he2⟩ | he2 <;> try (cases he2; done)
    obtain ⟨h1, h2⟩ := iff_some he2
    have h1' : i ≤ top := Nat.le_of_ble_eq_true h1
    refine ⟨some (g E), i, by simp [aopt, rhoE_of hg], ?_, h2⟩
    have hc : (0 : Int) ≤ Int.ofNat i ∧ Int.ofNat i ≤ (top : Int) := ⟨Int.natCast_nonneg i, by show (i : Int) ≤ top; omega⟩
    simp only [bnd, e, if_pos hc]; rfl
noncomputable def slsF (gx : Tre AV d → AV) (lo hi : Tre AV d → Nat → (Nat → Res) → Res) : OpF d := fun _ E T k => onStr (gx E) (fun s => frcNR (lenR s) fun m => hi E m fun h => iff' (Nat.ble h m) (lo E 0 fun l => iff' (Nat.ble l h) (takeK (dropR s l) (Nat.sub h l) fun r => k (.str r) T) none) none) none
theorem slsF_ok {t : TypeId} {x : Operand} {lo hi : Option Operand} {gx : Tre AV d → AV} {L R : Tre AV d → Nat → (Nat → Res) → Res} (ho : o.op = .slice t x lo hi none) (ht : P.underlying t = some .string) (hx : copd gl d n x = some gx) (hL : cbnd gl d n lo = some L) (hH : cbnd gl d n hi = some R) :
    OpOK P gl d n o (slsF gx L R) := by
  intro forc orc E T k out H hO hR h
  rcases onStr_some h with ⟨s, e, h⟩ | h <;> try (cases h; done)
  rw [frcNR_eq, lenR_eq] at h
  obtain ⟨oh, i, a1, a2, h⟩ := cbnd_ok hH (Nat.le_refl _) h
  obtain ⟨ol, l, b1, b2, h⟩ := cbnd_ok hL (Nat.zero_le _) h
  rw [takeK_eq, dropR_eq] at h
  exact ⟨_, T, H, aop_pure (by simp [kind, ho]) (by simp only [apure', apure, ho, rhoE_of hx, a1, b1, e, aSlice, ht, a2, b2]; rfl), hR, h⟩
noncomputable def sliF (z : Nat) (gx : Tre AV d → AV) (lo hi : Tre AV d → Nat → (Nat → Res) → Res) : OpF d := fun _ E T k => onSlice (gx E)
  (fun b off len cap z' => iff' (Nat.ble len cap) (iff' (Nat.beq z z') (hi E len fun h => iff' (Nat.ble h cap) (lo E 0 fun l => iff' (Nat.ble l h) (frcNR (Nat.add off (Nat.mul l z')) fun o' => frcNR (Nat.sub h l) fun n' => frcNR (Nat.sub cap l) fun c' => k (.slice b o' n' c' z') T) none) none) none) none)
  (fun m z' cs => iff' (Nat.beq z z') (hi E m fun h => iff' (Nat.ble h m) (lo E 0 fun l => iff' (Nat.ble l h) (frcNR (Nat.sub h l) fun n' => takeK (dropR cs (Nat.mul l z')) (Nat.mul n' z') fun r => k (.rs n' z' r) T) none) none) none)
  (hi E 0 fun h => iff' (Nat.ble h 0) (lo E 0 fun l => iff' (Nat.ble l h) (k .nslice T) none) none) none
theorem sliF_ok {t e : TypeId} {x : Operand} {z : Nat} {lo hi : Option Operand} {gx : Tre AV d → AV} {L R : Tre AV d → Nat → (Nat → Res) → Res} (ho : o.op = .slice t x lo hi none) (ht : P.underlying t = some (.slice e)) (hz : tsz P e = some z) (hx : copd gl d n x = some gx)
    (hL : cbnd gl d n lo = some L) (hH : cbnd gl d n hi = some R) : OpOK P gl d n o (sliF z gx L R) := by
  intro forc orc E T k out H hO hR h
  rcases onSlice_some h with ⟨b, off, len, cap, z', e1, h1⟩ | ⟨m, z', cs, e1, h1⟩ | ⟨e1, h1⟩ | h1 <;> try (cases h1; done)
  · obtain ⟨g1, h1⟩ := iff_some h1
    obtain ⟨g2, h2⟩ := iff_some h1
    have g2' := Nat.eq_of_beq_eq_true g2
    obtain ⟨oh, i, a1, a2, h3⟩ := cbnd_ok hH (Nat.le_of_ble_eq_true g1) h2
    obtain ⟨ol, l, b1, b2, h4⟩ := cbnd_ok hL (Nat.zero_le _) h3
    simp only [frcNR_eq] at h4
    exact ⟨_, T, H, aop_pure (by simp [kind, ho]) (by simp only [apure', apure, ho, rhoE_of hx, a1, b1, e1, aSlice, ht, hz, if_pos g2', a2, b2]; rfl), hR, h4⟩
  · obtain ⟨g2, h2⟩ := iff_some h1
    have g2' := Nat.eq_of_beq_eq_true g2
    obtain ⟨oh, i, a1, a2, h3⟩ := cbnd_ok hH (Nat.le_refl _) h2
    obtain ⟨ol, l, b1, b2, h4⟩ := cbnd_ok hL (Nat.zero_le _) h3
    simp only [frcNR_eq] at h4
    rw [takeK_eq, dropR_eq] at h4
    exact ⟨_, T, H, aop_pure (by simp [kind, ho]) (by simp only [apure', apure, ho, rhoE_of hx, a1, b1, e1, aSlice, ht, hz, if_pos g2', a2, b2]; rfl), hR, h4⟩
  · obtain ⟨oh, i, a1, a2, h3⟩ := cbnd_ok hH (Nat.le_refl _) h1
    obtain ⟨ol, l, b1, b2, h4⟩ := cbnd_ok hL (Nat.zero_le _) h3
    exact ⟨_, T, H, aop_pure (by simp [kind, ho]) (by simp only [apure', apure, ho, rhoE_of hx, a1, b1, e1, aSlice, ht, hz, a2, b2]), hR, h4⟩
noncomputable def cnvF (kk : IntKind) (g : Tre AV d → AV) (s : OpF d) : OpF d := fun forc E T k => onNat (g E) (fun _ m => iff' (Nat.ble m (kmx kk)) (k (.int kk (.ofNat m)) T) (s forc E T k)) (s forc E T k)
theorem cnvF_ok {src dst : TypeId} {x : Operand} {kk : IntKind} {td : TypeDesc} {g : Tre AV d → AV} {s : OpF d} (ho : o.op = .convert src dst x) (hs : P.underlying src = some td) (hd : P.underlying dst = some (.int kk)) (hg : copd gl d n x = some g) (hsl : OpOK P gl d n o s) : OpOK P gl d n o (cnvF kk g s) := by
  intro forc orc E T k out H hO hR h
  rcases onNat_some h with ⟨k0, m, e, h1⟩ | h1
  · cases hb : Nat.ble m (kmx kk) with
    | true =>
      rw [hb] at h1
      have hw := kmx_wrap (Nat.le_of_ble_eq_true hb)
      have hw' : kk.wrap (Int.ofNat m) = Int.ofNat m := hw
      exact ⟨_, T, H, aop_pure (by simp [kind, ho]) (by simp only [apure', apure, ho, rhoE_of hg, e, aConv, hs, hd, hw']), hR, h1⟩
    | false =>
      rw [hb] at h1
      exact hsl forc orc E T k out H hO hR h1
  · exact hsl forc orc E T k out H hO hR h1
noncomputable def mapB (s : List UInt8) : List AV := List.rec [] (fun b _ ih => .int .u8 (Int.ofNat (UInt8.toNat b)) :: ih) s
theorem mapB_eq : ∀ s : List UInt8, mapB s = s.map fun b => .int .u8 b.toNat
  | [] => rfl
  | b :: s => by show _ :: mapB s = _; rw [mapB_eq s]; rfl
noncomputable def stbF (g : Tre AV d → AV) : OpF d := fun _ E T k => onStr (g E) (fun s => frcNR (lenR s) fun m => frcVLR (mapB s) fun cs => k (.rs m 1 cs) T) none
theorem stbF_ok {src dst x : _} {e : TypeId} {g : Tre AV d → AV} (ho : o.op = .convert src dst x) (hs : P.underlying src = some .string) (hd : P.underlying dst = some (.slice e)) (he : P.underlying e = some (.int .u8)) (hg : copd gl d n x = some g) : OpOK P gl d n o (stbF g) := by
  intro forc orc E T k out H hO hR h
  rcases onStr_some h with ⟨s, e1, h1⟩ | h1 <;> try (cases h1; done)
  rw [frcNR_eq, frcVLR_eq, mapB_eq, lenR_eq] at h1
  refine ⟨_, T, H, ?_, hR, h1⟩
  rw [aop_low (by simp [kind, ho])]
  simp [apure', apure, aeff, ho, rhoE_of hg, e1, aConv, hs, hd, aConvB, he]
noncomputable def oneR (v : AV) : Bool := onAgg v (fun _ => false) (onTuple v (fun _ => false) true)
theorem oneR_eq (v : AV) : oneR v = one v := by cases v <;> rfl
noncomputable def allOne (l : List AV) : Bool := List.rec true (fun v _ ih => iff' (oneR v) ih false) l
theorem allOne_eq : ∀ l : List AV, allOne l = l.all one
  | [] => rfl
  | v :: l => by
    show iff' (oneR v) (allOne l) false = _
    rw [allOne_eq l, oneR_eq, List.all_cons, iff'_eq]; cases one v <;> simp
noncomputable def wrF (a : AV) (vs : List AV) (T : TH) (f : TH → Res) : Res :=
  onPtr a (fun b off => onCells (T.get b) (fun fam sh cs ty => iff' (allOne vs) (splR cs off vs (fun cs' => putK T b ⟨true, fam, sh, .cells cs' ty⟩ f) none) none) none) (fun _ => none) none
theorem wrF_ok {T : TH} {H : AHeap} {a : AV} {vs : List AV} {f : TH → Res} {out : AV × TH} (hR : Rep T H) (h : wrF a vs T f = some out) : ∃ T' H', wr H a vs = some H' ∧ Rep T' H' ∧ f T' = some out := by
  unfold wrF at h
  rcases onPtr_some h with ⟨b, off, rfl, h⟩ | ⟨_, _, h⟩ | h <;> try (cases h; done)
  replace h : onCells (T.get b) _ none = some out := h
  obtain ⟨fam, sh, cs, ty, e2, h⟩ := onCells_some h
  have e2 : T.get b = ⟨true, fam, sh, .cells cs ty⟩ := e2
  obtain ⟨h1, h⟩ := iff_some h
  obtain ⟨cs', h2, h⟩ := splR_some h
  rw [putK_eq] at h
  have hH := hR.obj b (by rw [e2])
  have hs := hR.set' e2 (.cells cs' ty)
  rw [e2] at hH
  rw [allOne_eq] at h1
  exact ⟨_, _, by simp only [wr, hH, h1, if_true, h2], hs, h⟩
noncomputable def stoF (m : Nat) (ga gx : Tre AV d → AV) : OpF d := fun _ E T k =>
  frc1 (gx E) fun v => onAgg v (fun cs => iff' (Nat.beq (lenR cs) m) (wrF (ga E) cs T fun T' => k (.tuple []) T') none) (iff' (Nat.beq 1 m) (wrF (ga E) [v] T fun T' => k (.tuple []) T') none)
theorem kind_store {t : TypeId} {a x : Operand} (ho : o.op = .store t a x) {ρ : Operand → Option AV} {orc : Orc} {H H' : AHeap} {u v : AV} (ha : ρ a = some u) (hx : ρ x = some v) (h : aStore P t u v H = some H') : aop P orc ρ o H = some (.tuple [], H') := by
  simp [aop, apure', apure, aeff, ho, ha, hx, h]
theorem stoF_ok {t : TypeId} {a x : Operand} {m : Nat} {ga gx : Tre AV d → AV} (ho : o.op = .store t a x) (hm : tsz P t = some m) (ha : copd gl d n a = some ga) (hx : copd gl d n x = some gx) : OpOK P gl d n o (stoF m ga gx) := by
  intro forc orc E T k out H hO hR h
  simp only [stoF, frc1_eq] at h
  rcases onAgg_some h with ⟨cs, e, h⟩ | ⟨hne, h⟩
  · obtain ⟨h1, h⟩ := iff_some h
    have h1' := Nat.eq_of_beq_eq_true h1
    rw [lenR_eq] at h1'
    obtain ⟨T', H', g1, g2, g3⟩ := wrF_ok hR h
    exact ⟨_, T', H', kind_store ho (rhoE_of ha) (rhoE_of hx) (by simp [aStore, hm, e, AV.cells, h1', g1]), g2, g3⟩
  · obtain ⟨h1, h⟩ := iff_some h
    have h1' := Nat.eq_of_beq_eq_true h1
    obtain ⟨T', H', g1, g2, g3⟩ := wrF_ok hR h
    exact ⟨_, T', H', kind_store ho (rhoE_of ha) (rhoE_of hx) (by simp [aStore, hm, cells_one hne, ← h1', g1]), g2, g3⟩
end ops
end Go.Abs
end

