/- The evaluator of this proof, part 01. -/
import GoSem.Core.Code
import GoSem.Core.View
import GoSem.Core.Utf8
set_option linter.unnecessarySimpa false
set_option linter.unusedVariables false
set_option linter.unusedSimpArgs false
set_option linter.unusedSectionVars false
set_option linter.deprecated false
/- The evaluator: abstract values, abstract states, what one operation does to them, what a body computes. Plain definitions: nothing is proved here. -/
set_option autoImplicit false
namespace Go.Ex

/-- Abstract values. sl: an immutable slice (cells of an element, the elements' cells, 'no spare room'). hp, hs, mp, it: into the abstract heap. ep: a pointer to immutable cells. im: an immutable map. -/
inductive AV where
  | b (x : Bool)
  | i (k : IntKind) (n : Int)
  | s (x : ByteArray)
  | sl (n : Nat) (es : List (List AV)) (clip : Bool)
  | ag (cs : List AV)
  | tp (vs : List AV)
  | np
  | hp (o n tot row off : Nat)
  | hs (o n off len tot : Nat)
  | ep (cs : List AV) (off : Nat)
  | fn (f : FuncId) (caps : List AV)
  | nf
  | mp (o : Nat)
  | im (es : List (AV × AV))
  | it (o : Nat)
  deriving Inhabited

/-- What a temporary holds: a value, or a pointer to a local variable. -/
inductive TV where
  | v (x : AV)
  | p (l off : Nat)

/-- The abstract heap's objects. -/
inductive OB where
  | arr (n : Nat) (rows : List (List AV)) (grow : Bool) (lvl : Nat)
  | map (es : List (AV × AV)) (lvl : Nat)
  | sit (s : ByteArray) (pos : Nat)

/-- a guard: a temporary and what it is to hold -/
abbrev Gd := Option (Nat × Bool)

/-- tl: the temporaries of the region, each with the guard under which it holds that -/
structure St where
  vals : List (Nat × TV)
  locs : List (Nat × List AV)
  heap : List OB
  tl : List (Nat × (Gd × TV))

/-- What is known of a type. kind: 0 other, 1 struct, 2 array, 3 slice, 4 map, 5 integer, 6 bool, 7 string, 8 pointer, 9 func. cmp: '==' goes cell by cell. -/
structure TI where
  kind : Nat
  size : Nat
  bytes : Nat
  zero : List AV
  flds : List (Nat × Nat)
  el : Nat
  ik : IntKind
  cmp : Bool

/-- loc: temporaries whose variable is local; own: nil slices and slice literals that become the heap's; imm: made slices that are immutable; kp: by region, the temporaries that outlive it; fork: regions whose guards are decided; lld: loads that read local variables alone; rts: loads that read local variable r alone (r + 1), or none (0). -/
structure Cfg where
  loc : List Nat
  own : List Nat
  imm : List Nat
  kp : List (Nat × List Nat)
  fork : List Nat
  lld : List Nat
  rts : List (Nat × Nat)

structure FI where
  body : Code
  results : List ResultVar
  cfg : Cfg
  /-- 0: runs in the caller's heap; 1: runs by itself; 2: by itself, its result becomes the caller's own -/
  mode : Nat

structure EP where
  ti : Nat → Option TI
  fn : FuncId → Option FI
  ext : FuncId → List AV → Option AV

def alook {α : Type} : List (Nat × α) → Nat → Option α
  | [], _ => none
  | (k, v) :: r, t => bif Nat.beq k t then some v else alook r t
/-- the entries stay sorted -/
def aset {α : Type} (v : α) : List (Nat × α) → Nat → List (Nat × α)
  | [], t => [(t, v)]
  | (k, u) :: r, t => bif Nat.beq k t then (k, v) :: r else bif Nat.blt k t then (t, v) :: (k, u) :: r else (k, u) :: aset v r t
def hasK {α : Type} : List (Nat × α) → Nat → Bool
  | [], _ => false
  | (k, _) :: r, t => bif Nat.beq k t then true else hasK r t
/-- the entries of those keys -/
def keepK {α β : Type} (old : List (Nat × α)) : List (Nat × β) → List (Nat × β)
  | [] => []
  | (k, x) :: r => bif hasK old k then (k, x) :: keepK old r else keepK old r
def elemN : List Nat → Nat → Bool
  | [], _ => false
  | k :: r, t => bif Nat.beq k t then true else elemN r t
/-- drops the pointers to local variable l -/
def dropP (l : Nat) : List (Nat × TV) → List (Nat × TV)
  | [] => []
  | (k, .v x) :: r => (k, .v x) :: dropP l r
  | (k, .p m off) :: r => bif Nat.beq m l then dropP l r else (k, .p m off) :: dropP l r
def dropG (l : Nat) : List (Nat × (Gd × TV)) → List (Nat × (Gd × TV))
  | [] => []
  | (k, g, .v x) :: r => (k, g, .v x) :: dropG l r
  | (k, g, .p m off) :: r => bif Nat.beq m l then dropG l r else (k, g, .p m off) :: dropG l r
/-- does anything point to local variable l? -/
def hasP (l : Nat) : List (Nat × TV) → Bool
  | [] => false
  | (_, .v _) :: r => hasP l r
  | (_, .p m _) :: r => bif Nat.beq m l then true else hasP l r
def hasG (l : Nat) : List (Nat × (Gd × TV)) → Bool
  | [] => false
  | (_, _, .v _) :: r => hasG l r
  | (_, _, .p m _) :: r => bif Nat.beq m l then true else hasG l r
/-- drops what is held of temporary t -/
def dropK {α : Type} (t : Nat) : List (Nat × α) → List (Nat × α)
  | [] => []
  | (k, x) :: r => bif Nat.beq k t then dropK t r else (k, x) :: dropK t r
def nth {α : Type} : List α → Nat → Option α
  | [], _ => none
  | x :: _, 0 => some x
  | _ :: r, n + 1 => nth r n
def setN {α : Type} : List α → Nat → α → List α
  | [], _, _ => []
  | _ :: r, 0, v => v :: r
  | x :: r, n + 1, v => x :: setN r n v
def dropN {α : Type} : List α → Nat → List α
  | l, 0 => l
  | [], _ + 1 => []
  | _ :: r, n + 1 => dropN r n
def takeN {α : Type} : List α → Nat → List α
  | _, 0 => []
  | [], _ + 1 => []
  | x :: r, n + 1 => x :: takeN r n
/-- vs laid over cs from off on; none where they do not fit -/
def lay (cs : List AV) (off : Nat) : List AV → Option (List AV)
  | [] => some cs
  | v :: vs => bif Nat.blt off cs.length then lay (setN cs off v) (off + 1) vs else none

def cellsOf : AV → List AV
  | .ag cs => cs
  | .tp _ => []
  | v => [v]

/-- 0: no memory behind it; 1: immutable memory at most; 2: may point into the abstract heap. -/
def lev : AV → Nat
  | .b _ => 0
  | .i _ _ => 0
  | .s _ => 0
  | .np => 0
  | .nf => 0
  | .sl _ _ _ => 1
  | .ep _ _ => 1
  | .im _ => 1
  | .hp .. => 2
  | .hs .. => 2
  | .mp _ => 2
  | .it _ => 2
  | .ag cs => levs cs
  | .tp vs => levs vs
  | .fn _ cs => levs cs
where levs : List AV → Nat
  | [] => 0
  | x :: r => Nat.max (lev x) (levs r)

/-- A constant as a cell of the zero value of element size n (used for nil slices). -/
def ofConst (n : Nat) : Value → Option AV
  | .bool b => some (.b b)
  | .int k n => some (.i k n)
  | .string s => some (.s s)
  | .slice none 0 0 => some (.sl n [] true)
  | .pointer none => some .np
  | .nilFunc => some .nf
  | .map none => some (.im [])
  | _ => none

variable (E : EP)

/-- cells of an element of a slice type -/
def elSize (t : Nat) : Nat :=
  match E.ti t with
  | some i => match E.ti i.el with
    | some e => e.size
    | none => 0
  | none => 0

def getTV (st : St) (t : Nat) : Option (Gd × TV) :=
  match alook st.tl t with
  | some x => some x
  | none => match alook st.vals t with
    | some x => some (none, x)
    | none => none

/-- what is held where guard g is met -/
def under (g : Gd) : Gd × TV → Option TV
  | (none, x) => some x
  | (some (t, w), x) => match g with
    | some (u, z) => bif Nat.beq t u && w == z then some x else none
    | none => none
def getG (g : Gd) (st : St) (t : Nat) : Option TV :=
  match getTV st t with
  | some x => under g x
  | none => none

/-- the value of an operand of type ty -/
def getA (ty : Nat) (g : Gd) (st : St) : Operand → Option AV
  | .tmp t => match getG g st t with
    | some (.v x) => some x
    | _ => none
  | .const v => ofConst (elSize E ty) v
  | .func f => some (.fn f [])
  | .global _ => none
/-- the same, where a pointer to a local variable may stand -/
def getP (ty : Nat) (g : Gd) (st : St) : Operand → Option TV
  | .tmp t => getG g st t
  | x => match getA E ty g st x with
    | some v => some (.v v)
    | none => none

def mapO {α β : Type} (f : α → Option β) : List α → Option (List β)
  | [] => some []
  | x :: r => match f x with
    | some y => match mapO f r with
      | some ys => some (y :: ys)
      | none => none
    | none => none

def getAs (g : Gd) (st : St) : List Operand → List Nat → Option (List AV)
  | [], _ => some []
  | x :: r, ts => match getA E (match ts with | t :: _ => t | [] => 0) g st x with
    | some v => match getAs g st r (match ts with | _ :: ts => ts | [] => []) with
      | some vs => some (v :: vs)
      | none => none
    | none => none

/-- the part of type t at off of cells -/
def partA (t : Nat) (cs : List AV) (off : Nat) : Option AV :=
  match E.ti t with
  | some i => match i.kind with
    | 1 => bif Nat.ble (off + i.size) cs.length then some (.ag (takeN (dropN cs off) i.size)) else none
    | 2 => bif Nat.ble (off + i.size) cs.length then some (.ag (takeN (dropN cs off) i.size)) else none
    | _ => nth cs off
  | none => none

/-- where the result of an operation goes -/
def putTV (kp : List Nat) (d : Option Nat) (x : TV) (st : St) : St :=
  match d with
  | none => st
  | some t => match alook st.vals t with
    | some _ => { st with vals := aset x st.vals t, tl := dropK t st.tl }
    | none => bif elemN kp t then { st with vals := aset x st.vals t, tl := dropK t st.tl } else { st with tl := aset (none, x) st.tl t }
/-- where a guarded result goes -/
def putC (kp : List Nat) (d : Option Nat) (g : Nat × Bool) (x : TV) (st : St) : Option St :=
  match d with
  | none => some st
  | some t => match alook st.vals t with
    | some _ => none
    | none => bif elemN kp t then none else some { st with tl := aset (some g, x) st.tl t }

def row? (rows : List (List AV)) (i : Int) : Option (List AV) := if 0 ≤ i then rows[i.toNat]? else none

def intBin (op : BinOp) (k : IntKind) (a b : Int) : Option AV :=
  match op with
  | .add => some (.i k (k.wrap (a + b)))
  | .sub => some (.i k (k.wrap (a - b)))
  | .mul => some (.i k (k.wrap (a * b)))
  | .quo => if b = 0 then none else some (.i k (k.wrap (a.tdiv b)))
  | .rem => if b = 0 then none else some (.i k (a.tmod b))
  | .eql => some (.b (a == b))
  | .neq => some (.b (a != b))
  | .lss => some (.b (decide (a < b)))
  | .leq => some (.b (decide (a ≤ b)))
  | .gtr => some (.b (decide (a > b)))
  | .geq => some (.b (decide (a ≥ b)))
  | .and => some (.i k (k.wrap ((BitVec.ofInt k.bits a &&& BitVec.ofInt k.bits b).toNat)))
  | .or => some (.i k (k.wrap ((BitVec.ofInt k.bits a ||| BitVec.ofInt k.bits b).toNat)))
  | .xor => some (.i k (k.wrap ((BitVec.ofInt k.bits a ^^^ BitVec.ofInt k.bits b).toNat)))
  | .andNot => some (.i k (k.wrap ((BitVec.ofInt k.bits a &&& ~~~ (BitVec.ofInt k.bits b)).toNat)))
  | _ => none

def ltBytes : List UInt8 → List UInt8 → Bool
  | _, [] => false
  | [], _ :: _ => true
  | a :: x, b :: y => a < b || (a == b && ltBytes x y)

/-- '==' of two cells -/
def cellEq : AV → AV → Option Bool
  | .b x, .b y => some (x == y)
  | .i k x, .i l y => if k = l then some (x == y) else none
  | .s x, .s y => some (x.toList == y.toList)
  | _, _ => none
/-- cells of the same kinds -/
def sameK : List AV → List AV → Bool
  | [], [] => true
  | x :: xs, y :: ys => (match x, y with
    | .b _, .b _ => true
    | .i k _, .i l _ => decide (k = l)
    | .s _, .s _ => true
    | _, _ => false) && sameK xs ys
  | _, _ => false
def cellsEq : List AV → List AV → Option Bool
  | [], [] => some true
  | x :: xs, y :: ys => match cellEq x y with
    | some c => match cellsEq xs ys with
      | some d => some (c && d)
      | none => none
    | none => none
  | _, _ => none

def strBin (op : BinOp) (x y : ByteArray) : Option AV :=
  match op with
  | .add => bif Nat.ble (x.size + y.size) 140737488355328 then some (.s (x ++ y)) else none
  | .eql => some (.b (x.toList == y.toList))
  | .neq => some (.b (!(x.toList == y.toList)))
  | .lss => some (.b (ltBytes x.toList y.toList))
  | .leq => some (.b (ltBytes x.toList y.toList || x.toList == y.toList))
  | .gtr => some (.b (!(ltBytes x.toList y.toList || x.toList == y.toList)))
  | .geq => some (.b (!(ltBytes x.toList y.toList)))
  | _ => none

/-- is it a pointer, and is it nil? -/
def isNil : AV → Option Bool
  | .np => some true
  | .hp .. => some false
  | .ep .. => some false
  | _ => none

/-- '==' and '!=' -/
def eqRes (op : BinOp) (c : Bool) : Option AV :=
  match op with
  | .eql => some (.b c)
  | .neq => some (.b (!c))
  | _ => none
def kindIs (t k : Nat) : Bool :=
  match E.ti t with
  | some i => Nat.beq i.kind k
  | none => false
def intOp (op : BinOp) (k l : IntKind) (a b : Int) : Option AV :=
  match op with
  | .shl => if b < 0 then none else some (.i k (k.wrap (a * 2 ^ (Nat.min b.toNat k.bits))))
  | .shr => if b < 0 then none else some (.i k (a.fdiv (2 ^ (Nat.min b.toNat k.bits))))
  | op => if k = l then intBin op k a b else none
def agOp (op : BinOp) (t : Nat) (xs ys : List AV) : Option AV :=
  match E.ti t with
  | some i => bif i.cmp && sameK i.zero xs && sameK i.zero ys then
      match cellsEq xs ys with
      | some c => eqRes op c
      | none => none
    else none
  | none => none
def nilOp (op : BinOp) (t : Nat) (x : AV) : Option AV :=
  match isNil x with
  | some c => bif kindIs E t 8 then eqRes op c else none
  | none => none
def binAV (op : BinOp) (t : Nat) : AV → AV → Option AV
  | .i k a, .i l b => intOp op k l a b
  | .s a, .s b => strBin op a b
  | .b a, .b b => bif kindIs E t 6 then eqRes op (a == b) else none
  | .ag xs, .ag ys => agOp E op t xs ys
  | x, .np => nilOp E op t x
  | .np, y => nilOp E op t y
  | _, _ => none

def unAV (op : UnOp) : AV → Option AV
  | .i k n => match op with
    | .neg => some (.i k (k.wrap (0 - n)))
    | .xor => some (.i k (k.wrap ((BitVec.ofInt k.bits (if k.signed then -1 else k.max) ^^^ BitVec.ofInt k.bits n).toNat)))
    | _ => none
  | .b x => match op with
    | .not => some (.b (!x))
    | _ => none
  | _ => none

/-- lays the parts of a composite over the zero cells: place ↦ (offset, size) -/
def fillAV (place : Nat → Option (Nat × Nat)) (cs : List AV) : List (Nat × AV) → Option (List AV)
  | [] => some cs
  | (i, v) :: r => match place i with
    | some (off, n) => bif Nat.beq (cellsOf v).length n && Nat.blt 0 n then
        match lay cs off (cellsOf v) with
        | some cs' => fillAV place cs' r
        | none => none
      else none
    | none => none

def sizeT (t : Nat) : Nat := match E.ti t with | some i => i.size | none => 0
def getParts (g : Gd) (st : St) (ty : Nat → Nat) : List (Nat × Operand) → Option (List (Nat × AV))
  | [] => some []
  | (i, x) :: r => match getA E (ty i) g st x with
    | some v => match getParts g st ty r with
      | some vs => some ((i, v) :: vs)
      | none => none
    | none => none
def fldTy (fs : List (Nat × Nat)) (i : Nat) : Nat := match nth fs i with | some (_, t) => t | none => 0

/-- the elements of a slice literal: each given once, in order, from place 0 on -/
def rowsOf (n : Nat) : Nat → List (Nat × AV) → Option (List (List AV))
  | _, [] => some []
  | k, (i, v) :: r => bif Nat.beq i k && Nat.beq (cellsOf v).length n then
      match rowsOf n (k + 1) r with
      | some rs => some (cellsOf v :: rs)
      | none => none
    else none

def levRows (rows : List (List AV)) : Nat := rows.foldr (fun r m => Nat.max (lev.levs r) m) 0

def newObj (ob : OB) (st : St) : St := { st with heap := st.heap ++ [ob] }

/-- memory reads -/
def loadAt (t : Nat) (st : St) : TV → Option AV
  | .p l off => match alook st.locs l with
    | some cs => partA E t cs off
    | none => none
  | .v (.ep cs off) => partA E t cs off
  | .v (.hp o n tot row off) => match st.heap[o]? with
    | some (.arr m rows _ _) => bif Nat.beq m n && Nat.beq rows.length tot then
        match rows[row]? with
        | some cs => partA E t cs off
        | none => none
      else none
    | _ => none
  | _ => none

def storeAt (t : Nat) (st : St) (x : AV) : TV → Option St
  | .p l off => match alook st.locs l with
    | some cs => bif Nat.beq (cellsOf x).length (sizeT E t) && Nat.blt 0 (sizeT E t) then
        match lay cs off (cellsOf x) with
        | some cs' => some { st with locs := aset cs' st.locs l }
        | none => none
      else none
    | none => none
  | .v (.hp o n tot row off) => match st.heap[o]? with
    | some (.arr m rows grow lvl) => bif Nat.beq m n && Nat.beq rows.length tot && Nat.beq (cellsOf x).length (sizeT E t) && Nat.blt 0 (sizeT E t) then
        match rows[row]? with
        | some cs => match lay cs off (cellsOf x) with
          | some cs' => some { st with heap := st.heap.set o (.arr m (rows.set row cs') grow (Nat.max lvl (lev x))) }
          | none => none
        | none => none
      else none
    | _ => none
  | _ => none

def fieldAt (off : Nat) : TV → Option TV
  | .p l o => some (.p l (o + off))
  | .v (.ep cs o) => some (.v (.ep cs (o + off)))
  | .v (.hp o n tot row f) => some (.v (.hp o n tot row (f + off)))
  | _ => none

/-- &x[i], x a slice -/
def indexAt (n : Nat) (i : Int) : AV → Option AV
  | .sl m es _ => bif Nat.beq m n then (match row? es i with
      | some cs => some (.ep cs 0)
      | none => none) else none
  | .hs o m off len tot => bif Nat.beq m n then (if 0 ≤ i ∧ i < len then some (.hp o n tot (off + i.toNat) 0) else none) else none
  | _ => none

/-- the elements of a slice as they lie now -/
def elems (k : Nat) (st : St) : AV → Option (List (List AV))
  | .sl n es _ => bif Nat.beq n k then some es else none
  | .hs o n off len tot => match st.heap[o]? with
    | some (.arr m rows _ _) => bif Nat.beq n k && Nat.beq m n && Nat.beq rows.length tot && Nat.ble (off + len) tot then some ((rows.drop off).take len) else none
    | _ => none
  | _ => none

def lenAV (st : St) (kind : Nat) (x : AV) : Option Int :=
  match kind with
  | 3 => match x with
    | .sl _ es _ => some es.length
    | .hs _ _ _ len _ => some len
    | _ => none
  | 7 => match x with
    | .s x => some x.size
    | _ => none
  | 4 => match x with
    | .im es => some es.length
    | .mp o => match st.heap[o]? with
      | some (.map es _) => some es.length
      | _ => none
    | _ => none
  | _ => none

def maxAV : AV → AV → Option AV
  | .i k x, .i l y => if k = l then some (.i k (if y > x then y else x)) else none
  | _, _ => none
def minAV : AV → AV → Option AV
  | .i k x, .i l y => if k = l then some (.i k (if y < x then y else x)) else none
  | _, _ => none
def foldAV (f : AV → AV → Option AV) : AV → List AV → Option AV
  | x, [] => some x
  | x, y :: r => match f x y with
    | some z => foldAV f z r
    | none => none

/-- keys that are found by looking -/
def keyEq : AV → AV → Option Bool
  | .b x, .b y => some (x == y)
  | .i k x, .i l y => if k = l then some (x == y) else none
  | .s x, .s y => some (x == y)
  | _, _ => none
def mfind (k : AV) : List (AV × AV) → Option (Option AV)
  | [] => some none
  | (a, v) :: r => match keyEq k a with
    | some true => some (some v)
    | some false => mfind k r
    | none => none
def mset (k v : AV) : List (AV × AV) → Option (List (AV × AV))
  | [] => some [(k, v)]
  | (a, u) :: r => match keyEq k a with
    | some true => some ((a, v) :: r)
    | some false => match mset k v r with
      | some r' => some ((a, u) :: r')
      | none => none
    | none => none
def entries (st : St) : AV → Option (List (AV × AV))
  | .im es => some es
  | .mp o => match st.heap[o]? with
    | some (.map es _) => some es
    | _ => none
  | _ => none
/-- is x a key of that kind? -/
def keyIs (k : Nat) (x : AV) : Bool :=
  match x with
  | .i _ _ => Nat.beq k 5
  | .b _ => Nat.beq k 6
  | .s _ => Nat.beq k 7
  | _ => false
/-- a map's value as one value again: a struct's cells, or one cell -/
def zeroV (i : TI) : Option AV :=
  match i.kind with
  | 1 => some (.ag i.zero)
  | 2 => some (.ag i.zero)
  | _ => nth i.zero 0

/-- what a map has under k (its zero value where it has nothing), and whether it has something -/
def lookAV (e : TI) (k : AV) (es : List (AV × AV)) : Option (AV × Bool) :=
  match mfind k es with
  | some (some v) => some (v, true)
  | some none => match zeroV e with
    | some z => some (z, false)
    | none => none
  | none => none

/-- a value without pointers into the abstract heap: what they point to, as it lies now -/
def ro (h : List OB) : Nat → AV → Option AV
  | 0, _ => none
  | d + 1, x => bif Nat.ble (lev x) 1 then some x else
    match x with
    | .hs o n off len tot => match h[o]? with
      | some (.arr m rows _ lvl) => bif Nat.beq m n && Nat.beq rows.length tot && Nat.ble (off + len) tot then
          match lvl with
          | 0 => some (.sl n ((rows.drop off).take len) false)
          | 1 => some (.sl n ((rows.drop off).take len) false)
          | _ => (mapO (mapO (ro h d)) ((rows.drop off).take len)).map fun es => .sl n es false
        else none
      | _ => none
    | .hp o n tot row off => match h[o]? with
      | some (.arr m rows _ _) => bif Nat.beq m n && Nat.beq rows.length tot then
          match rows[row]? with
          | some cs => (mapO (ro h d) cs).map fun cs => .ep cs off
          | none => none
        else none
      | _ => none
    | .mp o => match h[o]? with
      | some (.map es lvl) => bif Nat.ble lvl 1 then some (.im es) else none
      | _ => none
    | .ag cs => (mapO (ro h d) cs).map .ag
    | .tp vs => (mapO (ro h d) vs).map .tp
    | .fn f cs => (mapO (ro h d) cs).map (.fn f)
    | _ => none

/-- no memory behind it, but for what it owns whole -/
def clean (h : List OB) : AV → Bool
  | .hs o _ _ _ _ => match h[o]? with
    | some (.arr _ _ _ lvl) => Nat.beq lvl 0
    | _ => false
  | .tp vs => cleans h vs
  | x => Nat.beq (lev x) 0
where cleans (h : List OB) : List AV → Bool
  | [] => true
  | .hs o _ _ _ _ :: r => (match h[o]? with
    | some (.arr _ _ _ lvl) => Nat.beq lvl 0
    | _ => false) && cleans h r
  | x :: r => Nat.beq (lev x) 0 && cleans h r

/-- append: the base, the new elements -/
def appendAV (n bytes : Nat) (st : St) (base : AV) (new : List (List AV)) : Option (St × AV) :=
  match base with
  | .sl m es clip => bif clip && (bif es.isEmpty then true else Nat.beq m n && !new.isEmpty) && Nat.ble ((es.length + new.length) * bytes) 35184372088832 then
      some (newObj (.arr n (es ++ new) true (Nat.max (bif es.isEmpty then 0 else 1) (levRows new))) st, .hs st.heap.length n 0 (es ++ new).length (es ++ new).length)
    else bif Nat.beq m n && new.isEmpty && !es.isEmpty then some (st, .sl m es clip) else none
  | .hs o m off len tot => match st.heap[o]? with
    | some (.arr m' rows grow lvl) =>
      bif Nat.beq m n && Nat.beq m' n && Nat.beq rows.length tot && Nat.beq off 0 && grow && Nat.ble ((len + new.length) * bytes) 35184372088832 then
        (bif Nat.beq len tot then
          some ({ st with heap := st.heap.set o (.arr n (rows ++ new) true (Nat.max lvl (levRows new))) }, .hs o n 0 (rows ++ new).length (rows ++ new).length)
        else bif Nat.ble (len + new.length) tot then
          some ({ st with heap := st.heap.set o (.arr n (rows.take len ++ new ++ rows.drop (len + new.length)) true (Nat.max lvl (levRows new))) }, .hs o n 0 (len + new.length) tot)
        else none)
      else none
    | _ => none
  | _ => none

/-- copy: the destination, the new elements -/
def copyAV (n : Nat) (st : St) (dst : AV) (new : List (List AV)) : Option (St × Int) :=
  match dst with
  | .hs o m off len tot => match st.heap[o]? with
    | some (.arr m' rows grow lvl) => bif Nat.beq m n && Nat.beq m' n && Nat.beq rows.length tot && Nat.ble (off + len) tot then
        some ({ st with heap := st.heap.set o (.arr n (rows.take off ++ new.take len ++ rows.drop (off + Nat.min new.length len)) grow (Nat.max lvl (levRows new))) }, (Nat.min new.length len : Nat))
      else none
    | _ => none
  | _ => none

def bytesRows (l : List UInt8) : List (List AV) := l.map fun c => [.i .u8 c.toNat]

/-- low, high, max -/
def boundA (g : Gd) (st : St) (d : Int) : Option Operand → Option Int
  | none => some d
  | some x => match getA E 0 g st x with
    | some (.i _ n) => some n
    | _ => none

def sliceAV (g : Gd) (st : St) (kind n : Nat) (x : AV) (lo hi mx : Option Operand) : Option AV :=
  match x with
  | .sl m es clip => bif Nat.beq m n && Nat.blt 0 n && Nat.beq kind 3 then
      match boundA E g st 0 lo, boundA E g st es.length hi with
      | some l, some h => match mx with
        | none => if 0 ≤ l ∧ l ≤ h ∧ h ≤ es.length then some (.sl n ((es.take h.toNat).drop l.toNat) (clip && decide (h = es.length))) else none
        | some _ => match boundA E g st 0 mx with
          | some k => if 0 ≤ l ∧ l ≤ h ∧ h = k ∧ k ≤ es.length ∧ hi.isSome = true then some (.sl n ((es.take h.toNat).drop l.toNat) true) else none
          | none => none
      | _, _ => none
    else none
  | .hs o m off len tot => bif Nat.beq m n && Nat.blt 0 n && Nat.beq kind 3 then
      match boundA E g st 0 lo, boundA E g st len hi, mx, st.heap[o]? with
      | some l, some h, none, some (.arr _ rows _ _) => if 0 ≤ l ∧ l ≤ h ∧ h ≤ len ∧ rows.length = tot then some (.hs o n (off + l.toNat) (h - l).toNat tot) else none
      | _, _, _, _ => none
    else none
  | .s x => match boundA E g st 0 lo, boundA E g st x.size hi, mx with
    | some l, some h, none => if 0 ≤ l ∧ l ≤ h ∧ h ≤ x.size ∧ kind = 7 then some (.s (x.extract l.toNat h.toNat)) else none
    | _, _, _ => none
  | _ => none

end Go.Ex
