/-
  A verified abstract interpreter, part 12: a region that draws its order, gone through once.
-/
import Derived.Test.YtgbimoeclgfkfabGreatDoorAbs11
set_option linter.unusedSimpArgs false
set_option linter.unusedVariables false
namespace Go.Abs
open Go.RowKit

/-- Bit j of m. -/
def bit (m j : Nat) : Bool := Nat.beq (Nat.land (Nat.shiftRight m j) 1) 1

/-- 0: looks at values alone. 1: reads memory. 2: makes one new block. 3: else. -/
def kind (o : Oper) : Nat :=
  match o.op with
  | .move _ => 0 | .assign _ => 0 | .pick .. => 0 | .build .. => 0 | .nilCheck _ => 0 | .binOp .. => 0 | .unOp .. => 0 | .convert .. => 1
  | .makeInterface .. => 0 | .makeFunc .. => 0 | .slice .. => 0 | .fieldAddr .. => 0 | .field .. => 0 | .indexAddr .. => 0 | .index .. => 0 | .extract .. => 0
  | .load .. => 1 | .lookup .. => 1
  | .alloc _ => 2 | .box .. => 2 | .buildSlice .. => 2 | .makeSlice .. => 2 | .makeMap .. => 2
  | .call c => match c.callee with
    | .builtin .len => 1 | .builtin .max => 0 | .builtin .min => 0
    | _ => 3
  | _ => 3

def edgeMask (acc : List Nat) : List Edge → Nat
  | [] => 0
  | e :: es => if Region.binds .any e then Nat.lor (Nat.lor (2 ^ e.on) (acc.getD e.on 0)) (edgeMask acc es) else edgeMask acc es

/-- Of each operation those that must stand ahead of it, as bits. -/
def ancs : List Oper → List Nat → List Nat
  | [], acc => acc
  | o :: l, acc => ancs l (acc ++ [edgeMask acc o.after.toList])

/-- The effects, in the order of the text. -/
def effs : List Oper → Nat → List Nat
  | [], _ => []
  | o :: l, i => if Nat.beq (kind o) 3 then i :: effs l (i + 1) else effs l (i + 1)

def chainOk (an : List Nat) : List Nat → Bool
  | [] => true
  | [_] => true
  | e :: f :: l => bit (an.getD f 0) e && chainOk an (f :: l)

/-- The order in which the region is gone through: ahead of each effect what it needs, then it. -/
def stage (n m : Nat) (e : Nat) : Nat → Nat → List Nat × Nat
  | 0, done => ([e], Nat.lor done (2 ^ e))
  | k + 1, done =>
    let i := n - (k + 1)
    if bit m i && !bit done i then (let (l, d) := stage n m e k (Nat.lor done (2 ^ i)); (i :: l, d)) else stage n m e k done
def rest (n : Nat) : Nat → Nat → List Nat
  | 0, _ => []
  | k + 1, done => let i := n - (k + 1); if bit done i then rest n k done else i :: rest n k done
def canonFrom (n : Nat) (an : List Nat) : List Nat → Nat → List Nat
  | [], done => rest n n done
  | e :: es, done => let (l, d) := stage n (an.getD e 0) e n done; l ++ canonFrom n an es d

def opTmps (l : List Operand) : List Nat := match l with
  | [] => []
  | .tmp t :: l => t :: opTmps l
  | _ :: l => opTmps l

/-- The temporaries that an operation looks at, its guard's among them. -/
def looks (ops : List Oper) (o : Oper) : List Nat :=
  let l := opTmps o.op.operands.toList
  match o.guard with
  | none => l
  | some (j, _) => match ops[j]? with
    | some g => match g.dst with | some d => d :: l | none => l
    | none => l

def dstIs (o : Oper) (t : Nat) : Bool := match o.dst with | some d => Nat.beq d t | none => false

/-- What t holds, when those of D have run: the last one that sets it. -/
def lastW (vals : List (Option AV)) (D : Nat → Bool) (t : Nat) : List Oper → Nat → Option AV → Option AV
  | [], _, acc => acc
  | o :: l, i, acc => lastW vals D t l (i + 1) (if dstIs o t && D i then (match vals[i]? with | some v => v | none => none) else acc)

def envOf (tm : Tr) (vals : List (Option AV)) (ops : List Oper) (D : Nat → Bool) : List Nat → Option (List (Nat × AV))
  | [] => some []
  | t :: ts => match lastW vals D t ops 0 (tget tm t), envOf tm vals ops D ts with | some v, some e => some ((t, v) :: e) | _, _ => none

def alook (t : Nat) : List (Nat × AV) → Option AV
  | [] => none
  | (u, v) :: l => if Nat.beq u t then some v else alook t l

def evalE (gl : Glob) (env : List (Nat × AV)) : Operand → Option AV
  | .tmp t => alook t env
  | .const v => ofV v
  | .global g => match gl g with | some cs => some (.rp cs) | none => none
  | .func f => some (.func (.func f) [] [])

def wantedE (ops : List Oper) (env : List (Nat × AV)) (o : Oper) : Bool :=
  match o.guard with
  | none => true
  | some (j, want) => match ops[j]? with
    | some g => match g.dst with
      | some d => match alook d env with | some (.bool b) => b == want | _ => false
      | none => false
    | none => false

/-- On the way: the values so far, who has run, memory behind the last effect, what was made since, memory now, and of each effect how it stood. -/
structure DSt where
  vals : List (Option AV)
  done : Nat
  base : AHeap
  new : List Nat
  heap : AHeap
  sts : List (Nat × AHeap × List Nat)

def allBit (m : Nat) : List Nat → Bool
  | [] => true
  | i :: l => bit m i && allBit m l

def allLt (n : Nat) : List Nat → Bool
  | [] => true
  | i :: l => Nat.blt i n && allLt n l

def refsEnv : List (Nat × AV) → List Nat → List Nat
  | [], acc => acc
  | (_, v) :: l, acc => refs v (refsEnv l acc)

/-- What an operation that makes one block makes. -/
def aallocF (P : Program) (ρ : Operand → Option AV) (o : Oper) : Option ((Nat → AV) × ABody) :=
  match o.op with
  | .alloc e => match tzero P e with | some z => some (fun n => .ptr n 0, .cells z.cells e) | none => none
  | .box e x => match ρ x with | some v => some (fun n => .ptr n 0, .cells v.cells e) | none => none
  | .buildSlice t len ps => match aparts ρ ps.toList with
    | some us => match bsCore P t len us with
      | some (cs, e, z) => some (fun n => .slice n 0 len len z, .cells cs e)
      | none => none
    | none => none
  | .makeSlice t l c => match ρ l, ρ c with
    | some l, some c => match msCore P t l c with
      | some (zs, e, z, ln, cp) => some (fun n => .slice n 0 ln cp z, .cells zs e)
      | none => none
    | _, _ => none
  | .makeMap _ none => some (fun n => .map n, .map [] 0)
  | _ => none

def dstep (P : Program) (gl : Glob) (orc : Orc) (ops : List Oper) (an : List Nat) (tm : Tr) (i : Nat) (s : DSt) : Option DSt :=
  match ops[i]? with
  | none => none
  | some o => match envOf tm s.vals ops (bit (an.getD i 0)) (looks ops o) with
    | none => none
    | some env =>
      if bit s.done i then none else
      match kind o with
      | 2 =>
        if wantedE ops env o then
          match aallocF P (evalE gl env) o with
          | some (mk, body) => if allLt s.heap.length (refsB body []) then
              frcC o (mk s.heap.length) (s.heap ++ [⟨true, s.heap.length, 0, body⟩]) fun r H' => some ⟨s.vals.set i (some r), Nat.lor s.done (2 ^ i), s.base, s.new ++ [i], H', s.sts⟩
            else none
          | none => none
        else some ⟨s.vals.set i (some (.tuple [])), Nat.lor s.done (2 ^ i), s.base, s.new, s.heap, s.sts⟩
      | 3 =>
        if allBit (an.getD i 0) s.new && allLt s.heap.length (refsEnv env []) then
          if wantedE ops env o then
            match aop P orc (evalE gl env) o s.heap with
            | some (r, H') => frcC o r H' fun r H' => if Nat.ble s.heap.length H'.length then some ⟨s.vals.set i (some r), Nat.lor s.done (2 ^ i), H', [], H', s.sts ++ [(i, s.base, s.new)]⟩ else none
            | none => none
          else some ⟨s.vals.set i (some (.tuple [])), Nat.lor s.done (2 ^ i), s.heap, [], s.heap, s.sts ++ [(i, s.base, s.new)]⟩
        else none
      | _ =>
        if wantedE ops env o then
          match apure' P (evalE gl env) s.heap o with
          | some r => frcC o r s.heap fun r _ => some ⟨s.vals.set i (some r), Nat.lor s.done (2 ^ i), s.base, s.new, s.heap, s.sts⟩
          | none => none
        else some ⟨s.vals.set i (some (.tuple [])), Nat.lor s.done (2 ^ i), s.base, s.new, s.heap, s.sts⟩

def druns (P : Program) (gl : Glob) (orc : Orc) (ops : List Oper) (an : List Nat) (tm : Tr) : List Nat → DSt → Option DSt
  | [], s => some s
  | i :: l, s => match dstep P gl orc ops an tm i s with | some s' => druns P gl orc ops an tm l s' | none => none

/-- Whoever sets t is ahead of j or behind it. -/
def writersOk (an : List Nat) (j t : Nat) : List Oper → Nat → Bool
  | [], _ => true
  | o :: l, k => (!dstIs o t || Nat.beq k j || bit (an.getD j 0) k || bit (an.getD k 0) j) && writersOk an j t l (k + 1)

def tmpsOkAt (ops : List Oper) (an : List Nat) (j : Nat) (o : Oper) : Bool :=
  (looks ops o).all (fun t => writersOk an j t ops 0) && (match o.dst with | some d => writersOk an j d ops 0 | none => true)

def tmpsOk (ops : List Oper) (an : List Nat) : List Oper → Nat → Bool
  | [], _ => true
  | o :: l, j => tmpsOkAt ops an j o && tmpsOk ops an l (j + 1)

/-- Where an operation that reads memory may stand between the effects, it is asked in each memory: the value is one. -/
def stages (P : Program) (gl : Glob) (o : Oper) (env : List (Nat × AV)) (v : AV) (j : Nat) (an : List Nat) (aj : Nat) (eq : AV → AV → Bool) : List (Nat × AHeap × List Nat) → AHeap → Bool
  | [], H => (match apure' P (evalE gl env) H o with | some u => eq u v | none => false)
  | (e, B, _) :: l, H =>
    if bit aj e then stages P gl o env v j an aj eq l H else
    (match apure' P (evalE gl env) B o with | some u => eq u v | none => false) && (bit (an.getD e 0) j || stages P gl o env v j an aj eq l H)

mutual
def veq : AV → AV → Bool
  | .bool a, .bool b => a == b
  | .int k a, .int k' b => k == k' && a == b
  | .str a, .str b => a == b
  | .nptr, .nptr => true
  | .ptr a b, .ptr c d => Nat.beq a c && Nat.beq b d
  | .rp a, .rp b => veqL a b
  | .nslice, .nslice => true
  | .slice a b c d e, .slice a' b' c' d' e' => Nat.beq a a' && Nat.beq b b' && Nat.beq c c' && Nat.beq d d' && Nat.beq e e'
  | .rs n z a, .rs n' z' b => Nat.beq n n' && Nat.beq z z' && veqL a b
  | .nmap, .nmap => true
  | .map a, .map b => Nat.beq a b
  | .nfunc, .nfunc => true
  | .niface, .niface => true
  | .agg a, .agg b => veqL a b
  | .tuple a, .tuple b => veqL a b
  | .func f a b, .func f' a' b' => f == f' && veqL a a' && veqL b b'
  | .iface t a, .iface t' b => Nat.beq t t' && veq a b
  | _, _ => false
def veqL : List AV → List AV → Bool
  | [], [] => true
  | a :: l, b :: m => veq a b && veqL l m
  | _, _ => false
end

/-- Of the blocks that were made last, those at the beginning that an operation waits for. -/
def takeA (aj : Nat) : List Nat → AHeap → AHeap
  | j :: nw, o :: h => if bit aj j then o :: takeA aj nw h else []
  | _, _ => []
/-- Memory at a stage, and blocks that were made early. -/
def earlyB (aj : Nat) (base : AHeap) (nw : List Nat) (heap B : AHeap) : AHeap := if Nat.beq B.length base.length then B ++ takeA aj nw (heap.drop base.length) else B
def mapE (F : AHeap → AHeap) : List (Nat × AHeap × List Nat) → List (Nat × AHeap × List Nat)
  | [] => []
  | (e, B, nw) :: l => (e, F B, nw) :: mapE F l

def stagesOk (P : Program) (gl : Glob) (tm : Tr) (ops : List Oper) (an : List Nat) (s : DSt) : List Oper → Nat → Bool
  | [], _ => true
  | o :: l, j =>
    (if Nat.beq (kind o) 1 then
      match s.vals[j]?, envOf tm s.vals ops (bit (an.getD j 0)) (looks ops o) with
      | some (some v), some env => if wantedE ops env o then stages P gl o env v j an (an.getD j 0) veq s.sts s.base || stages P gl o env v j an (an.getD j 0) veq (mapE (earlyB (an.getD j 0) s.base s.new s.heap) s.sts) (earlyB (an.getD j 0) s.base s.new s.heap s.base) else true
      | _, _ => false
    else true) && stagesOk P gl tm ops an s l (j + 1)

def fillNone : List Oper → List (Option AV)
  | [] => []
  | _ :: l => none :: fillNone l

/-- What all temporaries hold behind the region. -/
def finTmps (vals : List (Option AV)) : List Oper → Nat → Tr → Option Tr
  | [], _, tm => some tm
  | o :: l, i, tm => match vals[i]? with
    | some (some v) => match putT o.dst v tm with | some tm' => finTmps vals l (i + 1) tm' | none => none
    | _ => none

def boundOk : List Nat → Nat → Bool
  | [], _ => true
  | a :: l, i => Nat.blt a (2 ^ i) && boundOk l (i + 1)

def stFst : List (Nat × AHeap × List Nat) → List Nat
  | [] => []
  | (i, _, _) :: l => i :: stFst l

/-- May the region be gone through in the order of its text: ahead of each effect no block is made that it does not wait for. -/
def textOkAt (an : List Nat) (m : Nat) : List Oper → Nat → Bool
  | [], _ => true
  | o :: l, i => (!Nat.beq (kind o) 2 || bit m i) && textOkAt an m l (i + 1)
def textOk (ops : List Oper) (an : List Nat) : List Oper → Nat → Bool
  | [], _ => true
  | o :: l, j => (!Nat.beq (kind o) 3 || textOkAt an (an.getD j 0) (ops.take j) 0) && textOk ops an l (j + 1)
def inText : Nat → Nat → List Nat
  | 0, _ => []
  | n + 1, k => k :: inText n (k + 1)
def ordOf (ops : List Oper) (an : List Nat) : List Nat :=
  if textOk ops an ops 0 then inText ops.length 0 else canonFrom ops.length an (effs ops 0) 0

def adraw (P : Program) (gl : Glob) (orc : Orc) (ops : List Oper) (tm : Tr) (H : AHeap) : Option (Tr × AHeap) :=
  let an := ancs ops []
  if tmpsOk ops an ops 0 && boundOk an 0 then
    match druns P gl orc ops an tm (ordOf ops an) ⟨fillNone ops, 0, H, [], H, []⟩ with
    | some s => if chainOk an (stFst s.sts) && Nat.beq (s.done + 1) (2 ^ ops.length) && stagesOk P gl tm ops an s ops 0 then
        match finTmps s.vals ops 0 tm with | some tm' => some (tm', s.heap) | none => none
      else none
    | none => none
  else none

/-! code -/
inductive AEx where
  | normal
  | exit (id : Nat)
  | ret

def loopN (f : Tr → AHeap → Option (AEx × Tr × AHeap)) : Nat → Tr → AHeap → Option (AEx × Tr × AHeap)
  | 0, _, _ => none
  | n + 1, tm, H => match f tm H with
    | some (.normal, tm', H') => loopN f n tm' H'
    | r => r

def aexec (P : Program) (gl : Glob) (orc : Orc) (fuel : Nat) : Code → Tr → AHeap → Option (AEx × Tr × AHeap)
  | .skip, tm, H => some (.normal, tm, H)
  | .region _ ops draw, tm, H =>
    match (if draw then adraw P gl orc ops.toList tm H else aseq P gl orc ops.toList ops.toList tm H) with
    | some (tm', H') => some (.normal, tm', H')
    | none => none
  | .seq a b, tm, H => match aexec P gl orc fuel a tm H with
    | some (.normal, tm', H') => aexec P gl orc fuel b tm' H'
    | r => r
  | .cond c a b, tm, H => match aeval gl tm c with
    | some (.bool true) => aexec P gl orc fuel a tm H
    | some (.bool false) => aexec P gl orc fuel b tm H
    | _ => none
  | .block id b, tm, H => match aexec P gl orc fuel b tm H with
    | some (.exit id', tm', H') => if Nat.beq id' id then some (.normal, tm', H') else some (.exit id', tm', H')
    | r => r
  | .loop b, tm, H => loopN (aexec P gl orc fuel b) fuel tm H
  | .exit id, tm, H => some (.exit id, tm, H)
  | .ret, tm, H => some (.ret, tm, H)
  | .scope b, tm, H => aexec P gl orc fuel b tm H
  | .label _, tm, H => some (.normal, tm, H)
  | _, _, _ => none

def aress (P : Program) (tm : Tr) (H : AHeap) : List ResultVar → Option (List AV)
  | [] => some []
  | .tmp t :: l => match tget tm t, aress P tm H l with | some v, some vs => some (v :: vs) | _, _ => none
  | .cell a t :: l => match tget tm a with
    | some (.ptr b off) => match aload P t (.ptr b off) H, aress P tm H l with | some v, some vs => some (v :: vs) | _, _ => none
    | _ => none

/-- The temporaries at the beginning: the arguments, then nothing. -/
def tini (args : List AV) (n m : Nat) (i : Nat) : Option AV := match args[i]? with | some v => some v | none => if Nat.blt i n then some (.tuple []) else none

/-- How deep a tree for n is. -/
def tdep : Nat → Nat → Nat
  | 0, _ => 0
  | k + 1, n => match n with | 0 => 0 | Nat.succ n => Nat.succ (tdep k (Nat.div (Nat.succ n) 2))

def afunc (P : Program) (gl : Glob) (orc : Orc) (fuel : Nat) (f : Nat) (args : List AV) (H : AHeap) : Option (AV × AHeap) :=
  match P.funcs[f]? with
  | some fn => match fn.body with
    | some c => frcVL args fun args => frcH H fun H =>
      match aexec P gl orc fuel c (tmk (tini args fn.ntmps args.length) (tdep 20 fn.ntmps)) H with
      | some (x, tm, H') => match x with
        | .exit _ => none
        | _ => match aress P tm H' fn.results.toList with
          | some [v] => some (v, H')
          | some vs => some (.tuple vs, H')
          | none => none
      | none => none
    | none => none
  | none => none

/-- Calls n deep. -/
def runs (P : Program) (gl : Glob) (fuel : Nat) : Nat → Orc
  | 0 => fun _ _ _ => none
  | n + 1 => fun f args H => afunc P gl (runs P gl fuel n) fuel f args H
end Go.Abs
