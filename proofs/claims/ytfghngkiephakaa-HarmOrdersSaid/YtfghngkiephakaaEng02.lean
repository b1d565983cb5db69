/- The evaluator of this proof, part 02. -/
import Derived.Test.YtfghngkiephakaaEng01
set_option linter.unnecessarySimpa false
set_option linter.unusedVariables false
set_option linter.unusedSimpArgs false
set_option linter.unusedSectionVars false
set_option linter.deprecated false
/- The evaluator: one operation, a region, a body; with fuel. -/
set_option autoImplicit false
namespace Go.Ex
variable (E : EP)

/-- may that pointer be read there? -/
def rtsOk : List (Nat × Nat) → Nat → TV → Bool
  | [], _, _ => true
  | (k, r) :: rest, d, p => bif Nat.beq k d then (match p with | .p l _ => Nat.beq r (l + 1) | .v _ => Nat.beq r 0) else rtsOk rest d p
def loadOk (cfg : Cfg) (d : Option Nat) (p : TV) : Bool :=
  match d with
  | some d => (bif elemN cfg.lld d then (match p with | .p _ _ => true | .v _ => false) else true) && rtsOk cfg.rts d p
  | none => true
/-- may that pointer be written there? -/
def storeOk (cfg : Cfg) (a : Operand) (p : TV) : Bool :=
  match a with
  | .tmp t => bif elemN cfg.loc t then (match p with | .p l _ => Nat.beq l t | .v _ => false) else true
  | _ => true

/-- an operation that calls nothing: what its result is, and the state behind it (before the result is put) -/
def stepOp (cfg : Cfg) (g : Gd) (o : Oper) (st : St) : Option (TV × St) :=
  match o.op with
  | .move x => match getP E o.type g st x with
    | some v => some (v, st)
    | none => none
  | .assign x => match o.dst with
    | some d => bif elemN cfg.own d then
        match x with
        | .const (.slice none 0 0) => some (.v (.hs st.heap.length (elSize E o.type) 0 0 0), newObj (.arr (elSize E o.type) [] true 0) st)
        | x => match getP E o.type g st x with
          | some v => some (v, st)
          | none => none
      else match getP E o.type g st x with
        | some v => some (v, st)
        | none => none
    | none => none
  | .alloc e => match E.ti e with
    | some i => match o.dst with
      | some d => bif elemN cfg.loc d then
          bif hasP d st.vals || hasG d st.tl || hasK st.locs d then none else some (.p d 0, { st with locs := aset i.zero st.locs d })
        else bif Nat.blt 0 i.size then some (.v (.hp st.heap.length i.size 1 0 0), newObj (.arr i.size [i.zero] false (lev.levs i.zero)) st) else none
      | none => none
    | none => none
  | .box e x => match getA E e g st x with
    | some v => bif Nat.blt 0 (cellsOf v).length then match o.dst with
      | some d => bif elemN cfg.loc d then
          bif hasP d st.vals || hasG d st.tl || hasK st.locs d then none else some (.p d 0, { st with locs := aset (cellsOf v) st.locs d })
        else some (.v (.hp st.heap.length (cellsOf v).length 1 0 0), newObj (.arr (cellsOf v).length [cellsOf v] false (lev v)) st)
      | none => none
      else none
    | none => none
  | .build t ps => match E.ti t with
    | some i => match i.kind with
      | 1 => match getParts E g st (fldTy i.flds) ps.toList with
        | some vs => match fillAV (fun f => match nth i.flds f with | some (off, ft) => some (off, sizeT E ft) | none => none) i.zero vs with
          | some cs => some (.v (.ag cs), st)
          | none => none
        | none => none
      | 2 => match getParts E g st (fun _ => i.el) ps.toList with
        | some vs => bif Nat.blt 0 (sizeT E i.el) then (match fillAV (fun f => some (f * sizeT E i.el, sizeT E i.el)) i.zero vs with
          | some cs => some (.v (.ag cs), st)
          | none => none) else none
        | none => none
      | _ => none
    | none => none
  | .buildSlice t len ps => match E.ti t with
    | some i => match getParts E g st (fun _ => i.el) ps.toList with
      | some vs => match rowsOf (elSize E t) 0 vs with
        | some rows => bif Nat.beq rows.length len && Nat.ble (len * elSize E t) 16777216 && Nat.blt 0 (elSize E t) && Nat.beq i.kind 3 then
            match o.dst with
            | some d => bif elemN cfg.own d then
                some (.v (.hs st.heap.length (elSize E t) 0 len len), newObj (.arr (elSize E t) rows false (levRows rows)) st)
              else bif Nat.ble (levRows rows) 1 then some (.v (.sl (elSize E t) rows true), st) else none
            | none => none
          else none
        | none => none
      | none => none
    | none => none
  | .load t a => match getP E 0 g st a with
    | some p => match loadOk cfg o.dst p with
      | true => match loadAt E t st p with
        | some v => some (.v v, st)
        | none => none
      | false => none
    | none => none
  | .store t a x => match getP E 0 g st a with
    | some p => match storeOk cfg a p with
      | true => match getA E t g st x with
        | some v => match storeAt E t st v p with
          | some st' => some (.v (.tp []), st')
          | none => none
        | none => none
      | false => none
    | none => none
  | .nilCheck x => match getP E 0 g st x with
    | some (.p l off) => some (.p l off, st)
    | some (.v (.hp o n tot row off)) => some (.v (.hp o n tot row off), st)
    | some (.v (.ep cs off)) => some (.v (.ep cs off), st)
    | some (.v (.fn f cs)) => some (.v (.fn f cs), st)
    | _ => none
  | .binOp op t x y _ => match getA E t g st x with
    | some a => match getA E t g st y with
      | some b => match binAV E op t a b with
        | some v => some (.v v, st)
        | none => none
      | none => none
    | none => none
  | .unOp op t x => match getA E t g st x with
    | some a => match unAV op a with
      | some v => some (.v v, st)
      | none => none
    | none => none
  | .convert src dst x => match getA E src g st x with
    | some (.i _ n) => match E.ti dst with
      | some i => bif Nat.beq i.kind 5 && kindIs E src 5 then some (.v (.i i.ik (i.ik.wrap n)), st) else none
      | none => none
    | _ => none
  | .makeFunc fn first cap => match fn, first.toList with
    | .func f, [] => match getAs E g st cap.toList [] with
      | some vs => some (.v (.fn f vs), st)
      | none => none
    | _, _ => none
  | .makeMap _ r => match r with
    | none => some (.v (.mp st.heap.length), newObj (.map [] 0) st)
    | some _ => none
  | .makeSlice t len cap => match getA E 0 g st len with
    | some (.i k n) => match getA E 0 g st cap with
      | some (.i _ m) => match E.ti t with
        | some i => match E.ti i.el with
          | some e => match k with
            | .i64 => if 0 ≤ n ∧ n * e.bytes ≤ 35184372088832 ∧ n ≤ 35184372088832 ∧ m = n ∧ 0 < e.size ∧ i.kind = 3 then
                match o.dst with
                | some d => bif elemN cfg.imm d then some (.v (.sl e.size (List.replicate n.toNat e.zero) true), st)
                  else some (.v (.hs st.heap.length e.size 0 n.toNat n.toNat), newObj (.arr e.size (List.replicate n.toNat e.zero) false (lev.levs e.zero)) st)
                | none => none
              else none
            | _ => none
          | none => none
        | none => none
      | _ => none
    | _ => none
  | .slice t x lo hi mx => match getA E t g st x with
    | some v => match E.ti t with
      | some i => match sliceAV E g st i.kind (elSize E t) v lo hi mx with
        | some u => some (.v u, st)
        | none => none
      | none => none
    | none => none
  | .fieldAddr t x f => match getP E 0 g st x with
    | some p => match E.ti t with
      | some i => match nth i.flds f with
        | some (off, ft) => bif Nat.blt 0 (sizeT E ft) && Nat.beq i.kind 1 then
            match fieldAt off p with
            | some q => some (q, st)
            | none => none
          else none
        | none => none
      | none => none
    | none => none
  | .field t x f => match getA E t g st x with
    | some (.ag cs) => match E.ti t with
      | some i => match nth i.flds f with
        | some (off, ft) => bif Nat.beq i.kind 1 then (match partA E ft cs off with
          | some v => some (.v v, st)
          | none => none) else none
        | none => none
      | none => none
    | _ => none
  | .indexAddr t x ix => match E.ti t with
    | some i => match i.kind with
      | 3 => match getA E t g st x with
        | some v => match getA E 0 g st ix with
          | some (.i _ n) => bif Nat.blt 0 (elSize E t) then (match indexAt (elSize E t) n v with
            | some p => some (.v p, st)
            | none => none) else none
          | _ => none
        | none => none
      | 2 => match getP E 0 g st x with
        | some p => match getA E 0 g st ix with
          | some (.i _ n) => if 0 ≤ n ∧ n * sizeT E i.el < i.size ∧ 0 < sizeT E i.el then
              match fieldAt (n.toNat * sizeT E i.el) p with
              | some q => some (q, st)
              | none => none
            else none
          | _ => none
        | none => none
      | _ => none
    | none => none
  | .index t x ix => match getA E t g st x with
    | some (.s b) => match getA E 0 g st ix with
      | some (.i _ n) => if 0 ≤ n ∧ kindIs E t 7 = true then (match b.data.toList[n.toNat]? with
        | some c => some (.v (.i .u8 c.toNat), st)
        | none => none) else none
      | _ => none
    | some (.ag cs) => match getA E 0 g st ix with
      | some (.i _ n) => match E.ti t with
        | some i => if 0 ≤ n ∧ n * sizeT E i.el < i.size ∧ 0 < sizeT E i.el ∧ i.kind = 2 then
            match partA E i.el cs (n.toNat * sizeT E i.el) with
            | some v => some (.v v, st)
            | none => none
          else none
        | none => none
      | _ => none
    | _ => none
  | .lookup t x ix ok => match getA E t g st x with
    | some m => match E.ti t with
      | some i => match E.ti i.el with
        | some e => match i.flds with
          | (kk, kt) :: _ => match getA E kt g st ix with
            | some k => bif keyIs kk k && Nat.beq i.kind 4 then
                match entries st m with
                | some es => match lookAV e k es with
                  | some (v, b) => match ok with
                    | true => some (.v (.tp [v, .b b]), st)
                    | false => some (.v v, st)
                  | none => none
                | none => none
              else none
            | none => none
          | [] => none
        | none => none
      | none => none
    | none => none
  | .mapUpdate t m k x => match getA E t g st m with
    | some (.mp o) => match E.ti t with
      | some i => match i.flds with
        | (kk, kt) :: _ => match getA E kt g st k with
          | some k => bif keyIs kk k && Nat.beq i.kind 4 then
              match getA E i.el g st x with
              | some v => match st.heap[o]? with
                | some (.map es lvl) => match mset k v es with
                  | some es' => some (.v (.tp []), { st with heap := st.heap.set o (.map es' (Nat.max lvl (lev v))) })
                  | none => none
                | _ => none
              | none => none
            else none
          | none => none
        | [] => none
      | none => none
    | _ => none
  | .extract x i => match getA E 0 g st x with
    | some (.tp vs) => match nth vs i with
      | some v => some (.v v, st)
      | none => none
    | _ => none
  | .range t x => match getA E t g st x with
    | some (.s s) => bif kindIs E t 7 then some (.v (.it st.heap.length), newObj (.sit s 0) st) else none
    | _ => none
  | .next x isString => match getA E 0 g st x with
    | some (.it o) => match isString with
      | true => match st.heap[o]? with
        | some (.sit s pos) => if pos < s.size then
            some (.v (.tp [.b true, .i .i64 pos, .i .i32 (Utf8.decode s pos).1]), { st with heap := st.heap.set o (.sit s (pos + (Utf8.decode s pos).2)) })
          else some (.v (.tp [.b false]), st)
        | _ => none
      | false => none
    | _ => none
  | .call c => match c.callee with
    | .builtin b => match b with
      | .len => match c.args.toList, c.argTypes.toList with
        | [x], [t] => match E.ti t with
          | some i => match getA E t g st x with
            | some v => match lenAV st i.kind v with
              | some n => some (.v (.i .i64 n), st)
              | none => none
            | none => none
          | none => none
        | _, _ => none
      | .max => match getAs E g st c.args.toList c.argTypes.toList with
        | some (x :: r) => match foldAV maxAV x r with
          | some v => some (.v v, st)
          | none => none
        | _ => none
      | .min => match getAs E g st c.args.toList c.argTypes.toList with
        | some (x :: r) => match foldAV minAV x r with
          | some v => some (.v v, st)
          | none => none
        | _ => none
      | .append => match c.args.toList, c.argTypes.toList with
        | [x, y], t :: u :: _ => match E.ti t with
          | some i => match E.ti i.el with
            | some e => match getA E t g st x with
              | some base => match getA E u g st y with
                | some new => bif Nat.beq i.kind 3 && kindIs E u 3 && Nat.blt 0 e.size && Nat.blt 0 e.bytes then
                    match elems e.size st new with
                    | some rows => match appendAV e.size e.bytes st base rows with
                      | some (st', v) => some (.v v, st')
                      | none => none
                    | none => none
                  else none
                | none => none
              | none => none
            | none => none
          | none => none
        | _, _ => none
      | .copy => match c.args.toList, c.argTypes.toList with
        | [x, y], t :: _ => match E.ti t with
          | some i => match E.ti i.el with
            | some e => match getA E t g st x with
              | some dst => match getA E t g st y with
                | some src => bif Nat.beq i.kind 3 && Nat.blt 0 e.size then
                    match elems e.size st src with
                    | some rows => match copyAV e.size st dst rows with
                      | some (st', n) => some (.v (.i .i64 n), st')
                      | none => none
                    | none => none
                  else none
                | none => none
              | none => none
            | none => none
          | none => none
        | _, _ => none
      | _ => none
    | _ => none
  | _ => none

/-- pick: the guarded arms stand for themselves -/
def pickAV (c : Nat) (g : Gd) (st : St) (a b : Operand) : Option AV :=
  match getG g st c with
  | some (.v (.b x)) =>
    match (match getA E 0 g st a with | some v => some v | none => getA E 0 (some (c, true)) st a), (match getA E 0 g st b with | some v => some v | none => getA E 0 (some (c, false)) st b) with
    | some (.b y), some (.b z) => some (.b (bif x then y else z))
    | some (.tp []), some (.b z) => bif x then none else some (.b z)
    | some (.b y), some (.tp []) => bif x then some (.b y) else none
    | _, _ => none
  | _ => none

def sortedB {α : Type} : List (Nat × α) → Bool
  | [] => true
  | (a, _) :: r => (match r with
    | [] => true
    | (b, _) :: _ => Nat.blt b a) && sortedB r
/-- the local variable that an operation makes -/
def allocD (cfg : Cfg) (o : Oper) : Option Nat :=
  match o.op with
  | .alloc _ => match o.dst with
    | some d => bif elemN cfg.loc d then some d else none
    | none => none
  | .box _ _ => match o.dst with
    | some d => bif elemN cfg.loc d then some d else none
    | none => none
  | _ => none
def freshAll (cfg : Cfg) (vals : List (Nat × TV)) (locs : List (Nat × List AV)) : List Oper → Bool
  | [] => true
  | o :: r => (match allocD cfg o with
    | some d => !hasP d vals && !hasK locs d
    | none => true) && freshAll cfg vals locs r
/-- what is asked ahead of a region that asks the tape -/
def drawChk (cfg : Cfg) (ops : List Oper) (vals : List (Nat × TV)) (locs : List (Nat × List AV)) : Bool := sortedB locs && freshAll cfg vals locs ops

/-- may the operation be carried out though its guard is not met? -/
def plainOp (cfg : Cfg) (o : Oper) : Bool :=
  match o.op with
  | .alloc _ | .box .. | .store .. | .makeMap .. | .mapUpdate .. | .makeSlice .. | .range .. | .next .. | .assign _ => false
  | .buildSlice .. => match o.dst with
    | some d => !elemN cfg.own d
    | none => true
  | .call c => match c.callee with
    | .builtin .append => false
    | .builtin .copy => false
    | _ => true
  | _ => true

/-- guard of an operation: the temporary that it looks at -/
def guardOf (ops : List Oper) (o : Oper) : Option Gd :=
  match o.guard with
  | none => some none
  | some (j, w) => match nth ops j with
    | some oj => match oj.dst with
      | some t => some (some (t, w))
      | none => none
    | none => none

/-- what a call hands back, in its caller's heap -/
def result (mode : Nat) (dirty : Bool) (r : AV) (h' : List OB) (st : St) : Option (AV × St) :=
  match mode with
  | 1 => match ro h' 8 r with
    | some v => bif !dirty || clean h' r then some (v, st) else none
    | none => none
  | 2 => match r with
    | .hs o n off len tot => match h'[o]? with
      | some (.arr m rows grow lvl) => bif Nat.beq m n && Nat.beq rows.length tot && Nat.beq off 0 && Nat.beq len tot && Nat.ble lvl (bif dirty then 0 else 1) then
          some (.hs st.heap.length n 0 len tot, newObj (.arr n rows grow lvl) st) else none
      | _ => none
    | _ => none
  | _ => none

/-- the temporaries that outlive a region -/
def kpOf (cfg : Cfg) (id : Nat) : List Nat :=
  match alook cfg.kp id with
  | some l => l
  | none => []

inductive Ec where
  | norm
  | exit (id : Nat)
  | ret

def resA (st : St) : ResultVar → Option AV
  | .tmp t => getA E 0 none st (.tmp t)
  | .cell a t => match getG none st a with
    | some p => loadAt E t st p
    | none => none

/-- the results of a body -/
def resultsOf (rs : List ResultVar) (st : St) : Option AV :=
  match rs with
  | [] => some (.tp [])
  | [.tmp t] => getA E 0 none st (.tmp t)
  | [.cell a t] => match getG none st a with
    | some p => loadAt E t st p
    | none => none
  | rs => (mapO (resA E st) rs).map .tp

def argVals : Nat → List AV → List (Nat × TV)
  | _, [] => []
  | n, v :: vs => argVals (n + 1) vs ++ [(n, .v v)]

mutual
/-- a call of function f: its result and the heap behind it -/
def runF : Nat → FuncId → List AV → List OB → Option (AV × List OB)
  | 0, _, _, _ => none
  | k + 1, f, args, h => match E.fn f with
    | some fi => match exec k fi.cfg fi.body ⟨argVals 0 args, [], h, []⟩ with
      | some (.norm, st) => (resultsOf E fi.results st).map fun r => (r, st.heap)
      | some (.ret, st) => (resultsOf E fi.results st).map fun r => (r, st.heap)
      | _ => none
    | none => none
/-- a call as an operation -/
def callF : Nat → FuncId → List AV → St → Option (AV × St)
  | 0, _, _, _ => none
  | k + 1, f, args, st => match E.fn f with
      | some fi => bif Nat.beq fi.mode 0 then (match runF k f args st.heap with
          | some (r, h) => some (r, { st with heap := h })
          | none => none)
        else (match mapO (ro st.heap 8) args with
          | some as => match runF k f as [] with
            | some (r, h) => result fi.mode (!Nat.ble (lev.levs args) 1) r h st
            | none => none
          | none => none)
      | none => match mapO (ro st.heap 8) args with
        | some as => match E.ext f as with
          | some r => bif Nat.ble (lev.levs args) 1 || Nat.beq (lev r) 0 then some (r, st) else none
          | none => none
        | none => none
/-- a region's operations in the order of their text -/
def runOps : Nat → Cfg → List Nat → Bool → List Oper → List Oper → St → Option St
  | 0, _, _, _, _, _, _ => none
  | _ + 1, _, _, _, _, [], st => some st
  | k + 1, cfg, kp, fork, all, o :: r, st => match guardOf all o with
    | none => none
    | some none => match runOp k cfg none o st with
      | some (x, st') => runOps k cfg kp fork all r (putTV kp o.dst x st')
      | none => none
    | some (some (t, w)) => match fork with
      | true => match getG none st t with
        | some (.v (.b x)) => bif x == w then
            (match runOp k cfg none o st with
            | some (x, st') => runOps k cfg kp fork all r (putTV kp o.dst x st')
            | none => none)
          else runOps k cfg kp fork all r (putTV kp o.dst (.v (.tp [])) st)
        | some (.v (.tp [])) => runOps k cfg kp fork all r (putTV kp o.dst (.v (.tp [])) st)
        | _ => none
      | false => match plainOp cfg o with
        | true => match runOp k cfg (some (t, w)) o st with
          | some (x, st') => match putC kp o.dst (t, w) x st' with
            | some st'' => runOps k cfg kp fork all r st''
            | none => none
          | none => none
        | false => none
/-- one operation: its result, and the state behind it but for the result -/
def runOp : Nat → Cfg → Gd → Oper → St → Option (TV × St)
  | 0, _, _, _, _ => none
  | k + 1, cfg, g, o, st => match o.op with
    | .pick (.tmp c) a b => match pickAV E c g st a b with
      | some v => some (.v v, st)
      | none => none
    | .call c => match c.callee with
      | .value x => match getA E 0 g st x with
        | some (.fn f caps) => match getAs E g st c.args.toList c.argTypes.toList with
          | some vs => match callF k f (vs ++ caps) st with
            | some (r, st') => (match g with
              | none => some (.v r, st')
              | some _ => match E.fn f with
                | some fi => bif Nat.beq fi.mode 1 then some (.v r, st') else none
                | none => some (.v r, st'))
            | none => none
          | none => none
        | _ => none
      | _ => stepOp E cfg g o st
    | _ => stepOp E cfg g o st
def exec : Nat → Cfg → Code → St → Option (Ec × St)
  | 0, _, _, _ => none
  | k + 1, cfg, c, st => match c with
    | .skip => some (.norm, st)
    | .region id ops draw => match !draw || drawChk cfg ops.toList st.vals st.locs with
      | true => match runOps k cfg (kpOf cfg id) (elemN cfg.fork id) ops.toList ops.toList { st with tl := [] } with
        | some st' => some (.norm, st')
        | none => none
      | false => none
    | .seq a b => match exec k cfg a st with
      | some (.norm, st') => exec k cfg b st'
      | r => r
    | .cond x a b => match getA E 0 none st x with
      | some (.b true) => exec k cfg a st
      | some (.b false) => exec k cfg b st
      | _ => none
    | .exit id => some (.exit id, st)
    | .ret => some (.ret, st)
    | .block id c => match exec k cfg c st with
      | some (.exit j, st') => bif Nat.beq j id then some (.norm, st') else some (.exit j, st')
      | r => r
    | .loop c => match exec k cfg c { st with tl := [] } with
      | some (.norm, st') => exec k cfg (.loop c) ⟨keepK st.vals st'.vals, keepK st.locs st'.locs, st'.heap, []⟩
      | r => r
    | .scope c => exec k cfg c st
    | _ => none
end

end Go.Ex
