/-
  A verified abstract interpreter, part 15: a region that draws its order does in every order what was found in one.
-/
import Derived.Test.YtgbimoeclgfkfabGreatDoorAbs14
set_option linter.unusedSimpArgs false
set_option linter.unusedVariables false
namespace Go.Abs
open Go.RowKit

theorem refsB_cells {sn : Snap} {ι ι' : IMap} : ∀ (cs : List AV) (acc : List Nat), (∀ b, b ∈ refsL cs acc → ∀ p, ι b = some p → ι' b = some p) → ∀ (i : Nat) (c : AV) (v : Value), cs[i]? = some c → VR sn ι c v → VR sn ι' c v
  | [], acc, h, i, c, v, hc, hv => by simp at hc
  | x :: cs, acc, h, 0, c, v, hc, hv => by simp at hc; subst hc; exact VR_refs x (refsL cs acc) v (fun b hb => h b (by simpa [refsL] using hb)) hv
  | x :: cs, acc, h, i + 1, c, v, hc, hv => refsB_cells cs acc (fun b hb => h b (by simp only [refsL]; exact refs_acc x _ b hb)) i c v (by simpa using hc) hv

theorem refsE_acc : ∀ (es : List (AV × AV × Nat)) (acc : List Nat) (x : Nat), x ∈ acc → x ∈ refsE es acc
  | [], acc, x, h => by simpa [refsE] using h
  | (k, v, n) :: es, acc, x, h => by simp only [refsE]; exact refs_acc k _ x (refs_acc v _ x (refsE_acc es acc x h))

theorem ER_refs {sn : Snap} {ι ι' : IMap} : ∀ (es : List (AV × AV × Nat)) (acc : List Nat) (l : List MapEntry), (∀ b, b ∈ refsE es acc → ∀ p, ι b = some p → ι' b = some p) → ER sn ι es l → ER sn ι' es l
  | [], acc, l, h, e => by simpa [ER] using e
  | (k, v, n) :: es, acc, l, h, e => by
    simp only [ER] at *; obtain ⟨x, l', h1, h2, h3, h4, h5⟩ := e
    exact ⟨x, l', h1, VR_refs k (refs v (refsE es acc)) _ (fun b hb => h b (by simpa [refsE] using hb)) h2,
      VR_refs v (refsE es acc) _ (fun b hb => h b (by simp only [refsE]; exact refs_acc k _ b hb)) h3, h4,
      ER_refs es acc l' (fun b hb => h b (by simp only [refsE]; exact refs_acc k _ b (refs_acc v _ b hb))) h5⟩

theorem OR_refs {sn : Snap} {ι ι' : IMap} {W : World} : ∀ (o : ABody) (p : Place), (∀ b, b ∈ refsB o [] → ∀ q, ι b = some q → ι' b = some q) → OR sn ι W o p → OR sn ι' W o p
  | .cells cs ty, p, h, e => by
    simp only [OR] at *; obtain ⟨arr, h1, h2, h3, h4⟩ := e
    refine ⟨arr, h1, h2, h3, fun i c hc => ?_⟩
    obtain ⟨v, e1, e2⟩ := h4 i c hc
    exact ⟨v, e1, refsB_cells cs [] (fun b hb => h b (by simpa [refsB] using hb)) i c v hc e2⟩
  | .map es clock, p, h, e => by
    simp only [OR] at *; obtain ⟨m, h1, h2⟩ := e
    exact ⟨m, h1, ER_refs es [] _ (fun b hb => h b (by simpa [refsB] using hb)) h2⟩
  | .siter s ps, p, h, e => by simpa [OR] using e

/-- A block that lies in the world already becomes one of ours. -/
theorem Stp.absorb {sn0 sn : Snap} {ι0 ι : IMap} {H0 B : AHeap} {W0 W : World} (h : Stp sn0 ι0 H0 W0 sn ι B W) (p : Place) (hp0 : p.sh = 0) (hw0 : W0.heap.size ≤ p.blk) (hlt : p.blk < W.heap.size)
    (hno : ∀ b q, ι b = some q → q.blk ≠ p.blk) (hsn : ∀ a v, sn a = some v → a.block ≠ p.blk) (body : ABody) (ho : OR sn ι W body p) :
    Stp sn0 ι0 H0 W0 sn (upd ι B.length p) (B ++ [⟨true, B.length, 0, body⟩]) W := by
  have hR := h.rel
  have hn := hR.fresh_none
  have hle : Le sn sn ι (Abs.upd ι B.length p) := Le.upd hn _
  have hcase : ∀ b q, Abs.upd ι B.length p b = some q → (b = B.length ∧ q = p) ∨ (b < B.length ∧ ι b = some q) := by
    intro b q hq
    unfold Abs.upd at hq
    split at hq
    · simp at hq; exact .inl ⟨by assumption, hq.symm⟩
    · exact .inr ⟨(hR.dom b).2 ⟨q, hq⟩, hq⟩
  have hget : ∀ (b : Nat) (x : AObj), (B ++ [⟨true, B.length, 0, body⟩])[b]? = some x → (b = B.length ∧ x = ⟨true, B.length, 0, body⟩) ∨ (b < B.length ∧ B[b]? = some x) := by
    intro b x hx
    rw [List.getElem?_append] at hx
    split at hx
    · exact .inr ⟨by assumption, hx⟩
    · rw [List.getElem?_singleton] at hx; split at hx
      · simp at hx; exact .inl ⟨by omega, hx.symm⟩
      · cases hx
  refine ⟨⟨?_, ?_, ?_, ?_, ?_, fun b x q hb hq hz => by
      rcases hcase b q hq with ⟨_, rfl⟩ | ⟨hlt', hq⟩
      · exact hp0
      · rcases hget b x hb with ⟨rfl, _⟩ | ⟨_, hb⟩
        · omega
        · exact hR.shz b x q hb hq hz⟩, h.le.trans hle, ?_, h.frame, h.size, h.os, h.tape, h.output, h.sfresh, ?_⟩
  · intro b
    simp only [List.length_append, List.length_singleton]
    constructor
    · intro hb
      by_cases hb' : b < B.length
      · obtain ⟨q, hq⟩ := (hR.dom b).1 hb'; exact ⟨q, hle.ι _ _ hq⟩
      · exact ⟨_, by unfold Abs.upd; rw [if_pos (by omega)]⟩
    · rintro ⟨q, hq⟩
      rcases hcase b q hq with ⟨rfl, _⟩ | ⟨hb, _⟩ <;> omega
  · intro b q hq
    rcases hcase b q hq with ⟨_, rfl⟩ | ⟨_, hq⟩
    · exact hlt
    · exact hR.blk b q hq
  · intro b x q hb ha hq
    rcases hget b x hb with ⟨rfl, rfl⟩ | ⟨hl, hb⟩
    · rcases hcase _ q hq with ⟨_, rfl⟩ | ⟨hl, _⟩
      · exact OR_mono hle rfl ho
      · omega
    · rcases hcase _ q hq with ⟨rfl, rfl⟩ | ⟨_, hq⟩
      · omega
      · exact OR_mono hle rfl (hR.obj b x q hb ha hq)
  · intro b b' x x' q q' hb hb' hq hq' e
    rcases hcase b q hq with ⟨rfl, rfl⟩ | ⟨hl, hq1⟩ <;> rcases hcase b' q' hq' with ⟨rfl, rfl⟩ | ⟨hl', hq1'⟩
    · rw [hb] at hb'; simp at hb'; subst hb'; exact ⟨rfl, rfl⟩
    · exact absurd e.symm (hno b' q' hq1')
    · exact absurd e (hno b q hq1)
    · have hq := hq1
      have hq' := hq1'
      rcases hget b x hb with ⟨rfl, _⟩ | ⟨_, hb⟩
      · omega
      rcases hget b' x' hb' with ⟨rfl, _⟩ | ⟨_, hb'⟩
      · omega
      exact hR.sep b b' x x' q q' hb hb' hq hq' e
  · intro a v hv
    obtain ⟨h1, h2, h3⟩ := hR.snap a v hv
    refine ⟨h1, h2, fun b x q hb ha hq => ?_⟩
    rcases hcase b q hq with ⟨rfl, rfl⟩ | ⟨hl, hq⟩
    · exact Ne.symm (hsn a v hv)
    · rcases hget b x hb with ⟨rfl, _⟩ | ⟨_, hb⟩
      · omega
      exact h3 b x q hb ha hq
  · intro b q hq
    rcases hcase b q hq with ⟨rfl, rfl⟩ | ⟨_, hq⟩
    · exact .inr (.inl hw0)
    · exact h.fresh b q hq
  · intro b o hb
    obtain ⟨o', e1, e2⟩ := h.evo b o hb
    have hl : b < B.length := (List.getElem?_eq_some_iff.1 e1).1
    exact ⟨o', by rw [List.getElem?_append_left hl]; exact e1, e2⟩

/-- A block that was made early. -/
structure PRec where
  op : Nat
  id : Nat
  blk : Nat
  n : Nat
  body : ABody
def PRec.pl (r : PRec) : Place := ⟨r.blk, 0, r.n⟩

/-- The names of early blocks beside the others. -/
def pex (ι : IMap) (pend : List PRec) : IMap := fun b => match ι b with | some q => some q | none => (pend.find? fun r => Nat.beq r.id b).map (·.pl)

theorem pex_le (sn : Snap) (ι : IMap) (pend : List PRec) : Le sn sn ι (pex ι pend) := ⟨fun _ _ h => h, fun b p h => by simp [pex, h]⟩

theorem pex_case {ι : IMap} {pend : List PRec} {b : Nat} {q : Place} (h : pex ι pend b = some q) : ι b = some q ∨ (ι b = none ∧ ∃ r ∈ pend, r.id = b ∧ r.pl = q) := by
  unfold pex at h
  split at h
  · exact .inl (by rw [← h]; assumption)
  · rename_i hn
    simp at h
    obtain ⟨r, hr, rfl⟩ := h
    exact .inr ⟨hn, r, List.mem_of_find?_eq_some hr, by have := List.find?_some hr; simpa using this, rfl⟩

def Apart (pend : List PRec) : Prop := pend.Pairwise fun r r' => r.pl.blk ≠ r'.pl.blk ∧ r.id ≠ r'.id

theorem apart_find : ∀ {pend : List PRec}, Apart pend → ∀ r ∈ pend, pend.find? (fun r' => Nat.beq r'.id r.id) = some r
  | [], h, r, hr => by simp at hr
  | x :: l, h, r, hr => by
    unfold Apart at h
    rw [List.pairwise_cons] at h
    rcases List.mem_cons.1 hr with rfl | hr
    · simp
    · have hne : x.id ≠ r.id := (h.1 r hr).2
      have : Nat.beq x.id r.id = false := by cases hq : Nat.beq x.id r.id with | false => rfl | true => exact absurd (Nat.eq_of_beq_eq_true hq) hne
      rw [List.find?_cons, this]
      exact apart_find h.2 r hr

theorem apart_ne {pend : List PRec} (h : Apart pend) {r r' : PRec} (hr : r ∈ pend) (hr' : r' ∈ pend) (hid : r.id ≠ r'.id) : r.pl.blk ≠ r'.pl.blk := by
  unfold Apart at h
  induction h with
  | nil => simp at hr
  | cons hx _ ih =>
    rcases List.mem_cons.1 hr with rfl | h1 <;> rcases List.mem_cons.1 hr' with rfl | h2
    · exact absurd rfl hid
    · exact (hx r' h2).1
    · exact Ne.symm (hx r h1).1
    · exact ih h1 h2

theorem pex_pend {ι : IMap} {pend : List PRec} (h : Apart pend) {r : PRec} (hr : r ∈ pend) (hn : ι r.id = none) : pex ι pend r.id = some r.pl := by
  simp [pex, hn, apart_find h r hr]

section sim
variable {P : Program} {gl : Glob} {orc : Orc} {ops : List Oper} {an : List Nat} {tm : Tr} {vals : List (Option AV)}

theorem At.uniq {i : Nat} {o o' : Oper} {env env' : List (Nat × AV)} {v v' : AV} (h : At ops an tm vals i o env v) (h' : At ops an tm vals i o' env' v') : o = o' ∧ env = env' ∧ v = v' := by
  have h1 := h.op; rw [h'.op] at h1; simp at h1; subst h1
  have h2 := h.env; rw [h'.env] at h2; simp at h2; subst h2
  have h3 := h.val; rw [h'.val] at h3; simp at h3; subst h3
  exact ⟨rfl, rfl, rfl⟩

/-- An operation that makes a block, the block's number, what it is. -/
def IdOf (P : Program) (gl : Glob) (ops : List Oper) (an : List Nat) (tm : Tr) (vals : List (Option AV)) (i id : Nat) (body : ABody) : Prop :=
  ∃ o env mk, At ops an tm vals i o env (mk id) ∧ kind o = 2 ∧ wantedE ops env o = true ∧ aallocF P (evalE gl env) o = some (mk, body)

theorem IdOf.uniq {i id id' : Nat} {body body' : ABody} (h : IdOf P gl ops an tm vals i id body) (h' : IdOf P gl ops an tm vals i id' body') : id = id' ∧ body = body' := by
  obtain ⟨o, env, mk, h1, h2, h3, h4⟩ := h
  obtain ⟨o', env', mk', k1, k2, k3, k4⟩ := h'
  obtain ⟨rfl, rfl, e⟩ := h1.uniq k1
  rw [h4] at k4; simp at k4; obtain ⟨rfl, rfl⟩ := k4
  exact ⟨aallocF_inj h4 e, rfl⟩

theorem Allocs.ids {B H : AHeap} {nw : List Nat} (k : Allocs P gl ops an tm vals B nw H) : ∀ i ∈ nw, ∃ id body, IdOf P gl ops an tm vals i id body ∧ B.length ≤ id ∧ id < H.length := by
  induction k with
  | nil => simp
  | snoc hk ha hkd hw he hr ih =>
    intro i hi
    rcases List.mem_append.1 hi with hi | hi
    · obtain ⟨id, body, h1, h2, h3⟩ := ih i hi
      exact ⟨id, body, h1, h2, by simp; omega⟩
    · simp at hi; subst hi
      have := hk.length
      exact ⟨_, _, ⟨_, _, _, ha, hkd, hw, he⟩, by omega, by simp⟩

theorem Allocs.inj {B H : AHeap} {nw : List Nat} (k : Allocs P gl ops an tm vals B nw H) : ∀ i ∈ nw, ∀ j ∈ nw, ∀ id b b', IdOf P gl ops an tm vals i id b → IdOf P gl ops an tm vals j id b' → i = j := by
  induction k with
  | nil => simp
  | snoc hk ha hkd hw he hr ih =>
    intro i hi j hj id b b' h1 h2
    have hnew : IdOf P gl ops an tm vals _ _ _ := ⟨_, _, _, ha, hkd, hw, he⟩
    rcases List.mem_append.1 hi with hi1 | hi1 <;> rcases List.mem_append.1 hj with hj1 | hj1
    · exact ih i hi1 j hj1 id b b' h1 h2
    · simp at hj1; subst hj1
      obtain ⟨rfl, _⟩ := h2.uniq hnew
      obtain ⟨id', _, k1, k2, k3⟩ := hk.ids i hi1
      obtain ⟨rfl, _⟩ := h1.uniq k1; omega
    · simp at hi1; subst hi1
      obtain ⟨rfl, _⟩ := h1.uniq hnew
      obtain ⟨id', _, k1, k2, k3⟩ := hk.ids j hj1
      obtain ⟨rfl, _⟩ := h2.uniq k1; omega
    · simp at hi1 hj1; rw [hi1, hj1]

def news : List (Nat × AHeap × List Nat) → List Nat
  | [] => []
  | (_, _, nw) :: l => nw ++ news l

theorem Chain.ids {B Bf H : AHeap} {l : List (Nat × AHeap × List Nat)} {nf : List Nat} (k : Chain P gl orc ops an tm vals B l Bf) (kf : Allocs P gl ops an tm vals Bf nf H) :
    ∀ i ∈ news l ++ nf, ∃ id body, IdOf P gl ops an tm vals i id body ∧ B.length ≤ id := by
  induction k with
  | nil B => intro i hi; simp [news] at hi; obtain ⟨id, b, h1, h2, _⟩ := kf.ids i hi; exact ⟨id, b, h1, h2⟩
  | cons ha he _ ih =>
    intro i hi
    simp only [news, List.append_assoc] at hi
    rcases List.mem_append.1 hi with hi | hi
    · obtain ⟨id, b, h1, h2, _⟩ := ha.ids i hi; exact ⟨id, b, h1, h2⟩
    · obtain ⟨id, b, h1, h2⟩ := ih kf i hi
      obtain ⟨o, env, v, _, _, _, _, hlen, _⟩ := he.ex
      have := ha.length
      exact ⟨id, b, h1, by omega⟩

theorem Chain.inj {B Bf H : AHeap} {l : List (Nat × AHeap × List Nat)} {nf : List Nat} (k : Chain P gl orc ops an tm vals B l Bf) (kf : Allocs P gl ops an tm vals Bf nf H) :
    ∀ i ∈ news l ++ nf, ∀ j ∈ news l ++ nf, ∀ id b b', IdOf P gl ops an tm vals i id b → IdOf P gl ops an tm vals j id b' → i = j := by
  induction k with
  | nil B => intro i hi j hj; simp [news] at hi hj; exact kf.inj i hi j hj
  | cons ha he hc ih =>
    intro i hi j hj id b b' h1 h2
    simp only [news, List.append_assoc] at hi hj
    obtain ⟨o, env, v, _, _, _, _, hlen, _⟩ := he.ex
    rcases List.mem_append.1 hi with hi | hi <;> rcases List.mem_append.1 hj with hj | hj
    · exact ha.inj i hi j hj id b b' h1 h2
    · obtain ⟨id1, _, k1, k2, k3⟩ := ha.ids i hi
      obtain ⟨id2, _, m1, m2⟩ := hc.ids kf j hj
      obtain ⟨rfl, _⟩ := h1.uniq k1
      obtain ⟨rfl, _⟩ := h2.uniq m1
      omega
    · obtain ⟨id1, _, k1, k2, k3⟩ := ha.ids j hj
      obtain ⟨id2, _, m1, m2⟩ := hc.ids kf i hi
      obtain ⟨rfl, _⟩ := h2.uniq k1
      obtain ⟨rfl, _⟩ := h1.uniq m1
      omega
    · exact ih kf i hi j hj id b b' h1 h2

theorem Chain.mem {B Bf : AHeap} {l : List (Nat × AHeap × List Nat)} (k : Chain P gl orc ops an tm vals B l Bf) : ∀ st ∈ l, ∃ H B', EffOK P gl orc ops an tm vals st.1 st.2.2 H B' := by
  induction k with
  | nil => simp
  | cons ha he _ ih =>
    intro st hst
    rcases List.mem_cons.1 hst with rfl | hst
    · exact ⟨_, _, he⟩
    · exact ih st hst

/-- Early blocks become ours, in the order in which the region was gone through. -/
theorem absorb_all {sn0 sn : Snap} {ι0 ι : IMap} {H0 B H : AHeap} {W0 W : World} {nw : List Nat} (k : Allocs P gl ops an tm vals B nw H) {pend : List PRec} (hap : Apart pend) (h : Stp sn0 ι0 H0 W0 sn ι B W)
    (hp : ∀ r ∈ pend, IdOf P gl ops an tm vals r.op r.id r.body ∧ W0.heap.size ≤ r.pl.blk ∧ r.pl.blk < W.heap.size ∧ (∀ b q, ι b = some q → q.blk ≠ r.pl.blk) ∧ (∀ a v, sn a = some v → a.block ≠ r.pl.blk) ∧ B.length ≤ r.id ∧ OR sn (pex ι pend) W r.body r.pl)
    (hc : ∀ i ∈ nw, ∃ r ∈ pend, r.op = i) :
    ∃ ι', Stp sn0 ι0 H0 W0 sn ι' H W ∧ (∀ b q, ι' b = some q → ι b = some q ∨ ∃ r ∈ pend, r.id = b ∧ r.pl = q ∧ b < H.length) ∧ (∀ b q, pex ι pend b = some q → b < H.length → ι' b = some q) ∧ Le sn sn ι ι' := by
  induction k with
  | nil => exact ⟨ι, h, fun b q hq => .inl hq, fun b q hq hlt => by
      rcases pex_case hq with hq | ⟨hn, r, hr, hid, _⟩
      · exact hq
      · have := (hp r hr).2.2.2.2.2.1; omega, Le.refl _ _⟩
  | @snoc H nw i o env mk body hk ha hkd hw he hr ih =>
    obtain ⟨ι1, s1, e1, e2, e3⟩ := ih fun j hj => hc j (by simp [hj])
    obtain ⟨r, hrm, hro⟩ := hc i (by simp)
    obtain ⟨q1, q2, q3, q4, q5, q6, q7⟩ := hp r hrm
    have hidof : IdOf P gl ops an tm vals i H.length body := ⟨o, env, mk, ha, hkd, hw, he⟩
    rw [hro] at q1
    obtain ⟨hid, hbody⟩ := q1.uniq hidof
    have hno : ∀ b q, ι1 b = some q → q.blk ≠ r.pl.blk := by
      intro b q hq
      rcases e1 b q hq with hq | ⟨r', hr', hid', rfl, hlt⟩
      · exact q4 b q hq
      · exact apart_ne hap hr' hrm (by omega)
    have hor : OR sn ι1 W r.body r.pl := OR_refs _ _ (fun b hb q hq => e2 b q hq (by rw [hbody] at hb; exact allLt_spec hr b hb)) q7
    have hs := s1.absorb r.pl rfl q2 q3 hno q5 body (hbody ▸ hor)
    have hn1 := s1.rel.fresh_none
    refine ⟨upd ι1 H.length r.pl, hs, ?_, ?_, e3.trans (Le.upd hn1 _)⟩
    · intro b q hq
      unfold upd at hq
      split at hq
      · rename_i hb; simp at hq; exact .inr ⟨r, hrm, by omega, hq, by simp; omega⟩
      · rcases e1 b q hq with h1 | ⟨r', h1, h2, h3, h4⟩
        · exact .inl h1
        · exact .inr ⟨r', h1, h2, h3, by simp; omega⟩
    · intro b q hq hlt
      unfold upd
      split
      · rename_i hb
        rcases pex_case hq with hq | ⟨hn, r', hr', hid', hpl⟩
        · have := (h.rel.dom b).2 ⟨q, hq⟩; omega
        · have : r' = r := by
            have f1 := apart_find hap r hrm
            have f2 := apart_find hap r' hr'
            rw [hid', hb] at f2; rw [hid] at f1
            rw [f1] at f2; simpa using f2.symm
          rw [← hpl, this]
      · rename_i hb
        exact e2 b q hq (by simp at hlt; omega)

/-- What a region's way through an order keeps. -/
structure Sim (P : Program) (gl : Glob) (orc : Orc) (ops : List Oper) (an : List Nat) (tm : Tr) (s : DSt) (sn0 : Snap) (ι0 : IMap) (H0 : AHeap) (W0 : World) (ds : List Deferred) (D : Nat → Bool) (a : Act) (W : World) : Prop where
  ex : ∃ (sn : Snap) (ι : IMap) (l1 l2 : List (Nat × AHeap × List Nat)) (B : AHeap) (pend : List PRec),
    s.sts = l1 ++ l2 ∧ Chain P gl orc ops an tm s.vals B l2 s.base ∧ (∀ i ∈ stFst l1, D i = true) ∧ (∀ i ∈ stFst l2, D i = false) ∧ Stp sn0 ι0 H0 W0 sn ι B W ∧ Apart pend ∧
    (∀ r ∈ pend, IdOf P gl ops an tm s.vals r.op r.id r.body ∧ D r.op = true ∧ r.op ∈ news l2 ++ s.new ∧ W0.heap.size ≤ r.pl.blk ∧ r.pl.blk < W.heap.size ∧ (∀ b q, ι b = some q → q.blk ≠ r.pl.blk) ∧
      (∀ a v, sn a = some v → a.block ≠ r.pl.blk) ∧ B.length ≤ r.id ∧ OR sn (pex ι pend) W r.body r.pl) ∧
    (∀ i ∈ news l2 ++ s.new, D i = true → ∃ r ∈ pend, r.op = i) ∧
    (∀ t u, lastW s.vals D t ops 0 (tget tm t) = some u → ∃ v, a.tmps[t]? = some v ∧ VR sn (pex ι pend) u v) ∧ a.defers = ds

theorem stFst_mem {l : List (Nat × AHeap × List Nat)} {st : Nat × AHeap × List Nat} (h : st ∈ l) : st.1 ∈ stFst l := by
  induction l with
  | nil => simp at h
  | cons x l ih =>
    obtain ⟨a, b, c⟩ := x
    rcases List.mem_cons.1 h with rfl | h
    · simp [stFst]
    · simp [stFst, ih h]

theorem news_mem {l : List (Nat × AHeap × List Nat)} {i : Nat} : i ∈ news l ↔ ∃ st ∈ l, i ∈ st.2.2 := by
  induction l with
  | nil => simp [news]
  | cons x l ih => obtain ⟨a, b, c⟩ := x; simp [news, ih]

theorem pure0 {ρ : Operand → Option AV} {o : Oper} (hk : kind o = 0) (H H' : AHeap) : apure' P ρ H o = apure' P ρ H' o := by
  unfold apure' apure
  unfold kind at hk
  cases hop : o.op <;> simp only [hop] at hk ⊢ <;> first | rfl | (cases hk; done) | skip
  case slice t x lo hi mx => cases mx <;> cases hi <;> rfl
  case call c =>
    split at hk <;> first | (cases hk; done) | (rename_i hc; rw [hc])

theorem kind_cases (o : Oper) : kind o = 0 ∨ kind o = 1 ∨ kind o = 2 ∨ kind o = 3 := by
  unfold kind
  split <;> first | (simp; done) | (split <;> simp)
end sim
end Go.Abs
