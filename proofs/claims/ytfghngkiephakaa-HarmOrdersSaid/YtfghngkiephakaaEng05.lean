/- The evaluator of this proof, part 05. -/
import Derived.Test.YtfghngkiephakaaEng04
import Derived.Attr
set_option linter.unnecessarySimpa false
set_option linter.unusedVariables false
set_option linter.unusedSimpArgs false
set_option linter.unusedSectionVars false
set_option linter.deprecated false
/- One operation, kind by kind: rules for simp. Written by program out of E2. -/
set_option autoImplicit false
set_option linter.unusedVariables false
namespace Go.Ex
variable (E : EP) (cfg : Cfg) (g : Gd) (st : St) (d : Option Tmp) (ty : TypeId) (pos : String) (af : Array Edge) (gu : Option (Nat × Bool))

theorem opV_move (x : _) : opV E cfg g ⟨d, .move x, ty, pos, af, gu⟩ st = (match getP E ty g st x with
    | some v => some (v, st)
    | none => none) := by rw [opV_eq]; rfl
theorem opV_assign (x : _) : opV E cfg g ⟨d, .assign x, ty, pos, af, gu⟩ st = (match d with
    | some d => bif elemN cfg.own d then
        match x with
        | .const (.slice none 0 0) => some (.v (.hs st.heap.length (elSize E ty) 0 0 0), newObj (.arr (elSize E ty) [] true 0) st)
        | x => match getP E ty g st x with
          | some v => some (v, st)
          | none => none
      else match getP E ty g st x with
        | some v => some (v, st)
        | none => none
    | none => none) := by rw [opV_eq]; rfl
theorem opV_alloc (e : _) : opV E cfg g ⟨d, .alloc e, ty, pos, af, gu⟩ st = (match E.ti e with
    | some i => match d with
      | some d => bif elemN cfg.loc d then
          bif hasP d st.vals || hasG d st.tl || hasK st.locs d then none else some (.p d 0, { st with locs := aset i.zero st.locs d })
        else bif Nat.blt 0 i.size then some (.v (.hp st.heap.length i.size 1 0 0), newObj (.arr i.size [i.zero] false (lev.levs i.zero)) st) else none
      | none => none
    | none => none) := by rw [opV_eq]; rfl
theorem opV_box (e : _) (x : _) : opV E cfg g ⟨d, .box e x, ty, pos, af, gu⟩ st = (match getA E e g st x with
    | some v => bif Nat.blt 0 (cellsOf v).length then match d with
      | some d => bif elemN cfg.loc d then
          bif hasP d st.vals || hasG d st.tl || hasK st.locs d then none else some (.p d 0, { st with locs := aset (cellsOf v) st.locs d })
        else some (.v (.hp st.heap.length (cellsOf v).length 1 0 0), newObj (.arr (cellsOf v).length [cellsOf v] false (lev v)) st)
      | none => none
      else none
    | none => none) := by rw [opV_eq]; rfl
theorem opV_build (t : _) (ps : _) : opV E cfg g ⟨d, .build t ps, ty, pos, af, gu⟩ st = (match E.ti t with
    | some i => match i.kind with
      | 1 => match getParts E g st (fldTy i.flds) ps.toList with
        | some vs => match fillAV (fun f => match nth i.flds f with | some (off, ft) => some (off, sizeT E ft) | none => none) i.zero vs with
          | some cs => some (.v (.ag cs), st)
          | none => none
        | none => none
      | 2 => match getParts E g st (fun _ => i.el) ps.toList with
        | some vs => bif Nat.blt 0 (sizeT E i.el) then (match fillAV (fun f => some (f * sizeT E i.el, sizeT E i.el)) i.zero vs with
          | some cs => some (.v (.ag cs), st)
          | none => none) else none
        | none => none
      | _ => none
    | none => none) := by rw [opV_eq]; rfl
theorem opV_buildSlice (t : _) (len : _) (ps : _) : opV E cfg g ⟨d, .buildSlice t len ps, ty, pos, af, gu⟩ st = (match E.ti t with
    | some i => match getParts E g st (fun _ => i.el) ps.toList with
      | some vs => match rowsOf (elSize E t) 0 vs with
        | some rows => bif Nat.beq rows.length len && Nat.ble (len * elSize E t) 16777216 && Nat.blt 0 (elSize E t) && Nat.beq i.kind 3 then
            match d with
            | some d => bif elemN cfg.own d then
                some (.v (.hs st.heap.length (elSize E t) 0 len len), newObj (.arr (elSize E t) rows false (levRows rows)) st)
              else bif Nat.ble (levRows rows) 1 then some (.v (.sl (elSize E t) rows true), st) else none
            | none => none
          else none
        | none => none
      | none => none
    | none => none) := by rw [opV_eq]; rfl
theorem opV_load (t : _) (a : _) : opV E cfg g ⟨d, .load t a, ty, pos, af, gu⟩ st = (match getP E 0 g st a with
    | some p => match loadOk cfg d p with
      | true => match loadAt E t st p with
        | some v => some (.v v, st)
        | none => none
      | false => none
    | none => none) := by rw [opV_eq]; rfl
theorem opV_store (t : _) (a : _) (x : _) : opV E cfg g ⟨d, .store t a x, ty, pos, af, gu⟩ st = (match getP E 0 g st a with
    | some p => match storeOk cfg a p with
      | true => match getA E t g st x with
        | some v => match storeAt E t st v p with
          | some st' => some (.v (.tp []), st')
          | none => none
        | none => none
      | false => none
    | none => none) := by rw [opV_eq]; rfl
theorem opV_nilCheck (x : _) : opV E cfg g ⟨d, .nilCheck x, ty, pos, af, gu⟩ st = (match getP E 0 g st x with
    | some (.p l off) => some (.p l off, st)
    | some (.v (.hp o n tot row off)) => some (.v (.hp o n tot row off), st)
    | some (.v (.ep cs off)) => some (.v (.ep cs off), st)
    | some (.v (.fn f cs)) => some (.v (.fn f cs), st)
    | _ => none) := by rw [opV_eq]; rfl
theorem opV_binOp (op : _) (t : _) (x : _) (y : _) (u4 : _) : opV E cfg g ⟨d, .binOp op t x y u4, ty, pos, af, gu⟩ st = (match getA E t g st x with
    | some a => match getA E t g st y with
      | some b => match binAV E op t a b with
        | some v => some (.v v, st)
        | none => none
      | none => none
    | none => none) := by rw [opV_eq]; rfl
theorem opV_unOp (op : _) (t : _) (x : _) : opV E cfg g ⟨d, .unOp op t x, ty, pos, af, gu⟩ st = (match getA E t g st x with
    | some a => match unAV op a with
      | some v => some (.v v, st)
      | none => none
    | none => none) := by rw [opV_eq]; rfl
theorem opV_convert (src : _) (dst : _) (x : _) : opV E cfg g ⟨d, .convert src dst x, ty, pos, af, gu⟩ st = (match getA E src g st x with
    | some (.i _ n) => match E.ti dst with
      | some i => bif Nat.beq i.kind 5 && kindIs E src 5 then some (.v (.i i.ik (i.ik.wrap n)), st) else none
      | none => none
    | _ => none) := by rw [opV_eq]; rfl
theorem opV_makeFunc (fn : _) (first : _) (cap : _) : opV E cfg g ⟨d, .makeFunc fn first cap, ty, pos, af, gu⟩ st = (match fn, first.toList with
    | .func f, [] => match getAs E g st cap.toList [] with
      | some vs => some (.v (.fn f vs), st)
      | none => none
    | _, _ => none) := by rw [opV_eq]; rfl
theorem opV_makeMap (u0 : _) (r : _) : opV E cfg g ⟨d, .makeMap u0 r, ty, pos, af, gu⟩ st = (match r with
    | none => some (.v (.mp st.heap.length), newObj (.map [] 0) st)
    | some _ => none) := by rw [opV_eq]; rfl
theorem opV_makeSlice (t : _) (len : _) (cap : _) : opV E cfg g ⟨d, .makeSlice t len cap, ty, pos, af, gu⟩ st = (match getA E 0 g st len with
    | some (.i k n) => match getA E 0 g st cap with
      | some (.i _ m) => match E.ti t with
        | some i => match E.ti i.el with
          | some e => match k with
            | .i64 => if 0 ≤ n ∧ n * e.bytes ≤ 35184372088832 ∧ n ≤ 35184372088832 ∧ m = n ∧ 0 < e.size ∧ i.kind = 3 then
                match d with
                | some d => bif elemN cfg.imm d then some (.v (.sl e.size (List.replicate n.toNat e.zero) true), st)
                  else some (.v (.hs st.heap.length e.size 0 n.toNat n.toNat), newObj (.arr e.size (List.replicate n.toNat e.zero) false (lev.levs e.zero)) st)
                | none => none
              else none
            | _ => none
          | none => none
        | none => none
      | _ => none
    | _ => none) := by rw [opV_eq]; rfl
theorem opV_slice (t : _) (x : _) (lo : _) (hi : _) (mx : _) : opV E cfg g ⟨d, .slice t x lo hi mx, ty, pos, af, gu⟩ st = (match getA E t g st x with
    | some v => match E.ti t with
      | some i => match sliceAV E g st i.kind (elSize E t) v lo hi mx with
        | some u => some (.v u, st)
        | none => none
      | none => none
    | none => none) := by rw [opV_eq]; rfl
theorem opV_fieldAddr (t : _) (x : _) (f : _) : opV E cfg g ⟨d, .fieldAddr t x f, ty, pos, af, gu⟩ st = (match getP E 0 g st x with
    | some p => match E.ti t with
      | some i => match nth i.flds f with
        | some (off, ft) => bif Nat.blt 0 (sizeT E ft) && Nat.beq i.kind 1 then
            match fieldAt off p with
            | some q => some (q, st)
            | none => none
          else none
        | none => none
      | none => none
    | none => none) := by rw [opV_eq]; rfl
theorem opV_field (t : _) (x : _) (f : _) : opV E cfg g ⟨d, .field t x f, ty, pos, af, gu⟩ st = (match getA E t g st x with
    | some (.ag cs) => match E.ti t with
      | some i => match nth i.flds f with
        | some (off, ft) => bif Nat.beq i.kind 1 then (match partA E ft cs off with
          | some v => some (.v v, st)
          | none => none) else none
        | none => none
      | none => none
    | _ => none) := by rw [opV_eq]; rfl
theorem opV_indexAddr (t : _) (x : _) (ix : _) : opV E cfg g ⟨d, .indexAddr t x ix, ty, pos, af, gu⟩ st = (match E.ti t with
    | some i => match i.kind with
      | 3 => match getA E t g st x with
        | some v => match getA E 0 g st ix with
          | some (.i _ n) => bif Nat.blt 0 (elSize E t) then (match indexAt (elSize E t) n v with
            | some p => some (.v p, st)
            | none => none) else none
          | _ => none
        | none => none
      | 2 => match getP E 0 g st x with
        | some p => match getA E 0 g st ix with
          | some (.i _ n) => if 0 ≤ n ∧ n * sizeT E i.el < i.size ∧ 0 < sizeT E i.el then
              match fieldAt (n.toNat * sizeT E i.el) p with
              | some q => some (q, st)
              | none => none
            else none
          | _ => none
        | none => none
      | _ => none
    | none => none) := by rw [opV_eq]; rfl
theorem opV_index (t : _) (x : _) (ix : _) : opV E cfg g ⟨d, .index t x ix, ty, pos, af, gu⟩ st = (match getA E t g st x with
    | some (.s b) => match getA E 0 g st ix with
      | some (.i _ n) => if 0 ≤ n ∧ kindIs E t 7 = true then (match b.data.toList[n.toNat]? with
        | some c => some (.v (.i .u8 c.toNat), st)
        | none => none) else none
      | _ => none
    | some (.ag cs) => match getA E 0 g st ix with
      | some (.i _ n) => match E.ti t with
        | some i => if 0 ≤ n ∧ n * sizeT E i.el < i.size ∧ 0 < sizeT E i.el ∧ i.kind = 2 then
            match partA E i.el cs (n.toNat * sizeT E i.el) with
            | some v => some (.v v, st)
            | none => none
          else none
        | none => none
      | _ => none
    | _ => none) := by rw [opV_eq]; rfl
theorem opV_lookup (t : _) (x : _) (ix : _) (ok : _) : opV E cfg g ⟨d, .lookup t x ix ok, ty, pos, af, gu⟩ st = (match getA E t g st x with
    | some m => match E.ti t with
      | some i => match E.ti i.el with
        | some e => match i.flds with
          | (kk, kt) :: _ => match getA E kt g st ix with
            | some k => bif keyIs kk k && Nat.beq i.kind 4 then
                match entries st m with
                | some es => match lookAV e k es with
                  | some (v, b) => match ok with
                    | true => some (.v (.tp [v, .b b]), st)
                    | false => some (.v v, st)
                  | none => none
                | none => none
              else none
            | none => none
          | [] => none
        | none => none
      | none => none
    | none => none) := by rw [opV_eq]; rfl
theorem opV_mapUpdate (t : _) (m : _) (k : _) (x : _) : opV E cfg g ⟨d, .mapUpdate t m k x, ty, pos, af, gu⟩ st = (match getA E t g st m with
    | some (.mp o) => match E.ti t with
      | some i => match i.flds with
        | (kk, kt) :: _ => match getA E kt g st k with
          | some k => bif keyIs kk k && Nat.beq i.kind 4 then
              match getA E i.el g st x with
              | some v => match st.heap[o]? with
                | some (.map es lvl) => match mset k v es with
                  | some es' => some (.v (.tp []), { st with heap := st.heap.set o (.map es' (Nat.max lvl (lev v))) })
                  | none => none
                | _ => none
              | none => none
            else none
          | none => none
        | [] => none
      | none => none
    | _ => none) := by rw [opV_eq]; rfl
theorem opV_extract (x : _) (i : _) : opV E cfg g ⟨d, .extract x i, ty, pos, af, gu⟩ st = (match getA E 0 g st x with
    | some (.tp vs) => match nth vs i with
      | some v => some (.v v, st)
      | none => none
    | _ => none) := by rw [opV_eq]; rfl
theorem opV_range (t : _) (x : _) : opV E cfg g ⟨d, .range t x, ty, pos, af, gu⟩ st = (match getA E t g st x with
    | some (.s s) => bif kindIs E t 7 then some (.v (.it st.heap.length), newObj (.sit s 0) st) else none
    | _ => none) := by rw [opV_eq]; rfl
theorem opV_next (x : _) (isString : _) : opV E cfg g ⟨d, .next x isString, ty, pos, af, gu⟩ st = (match getA E 0 g st x with
    | some (.it o) => match isString with
      | true => match st.heap[o]? with
        | some (.sit s pos) => if pos < s.size then
            some (.v (.tp [.b true, .i .i64 pos, .i .i32 (Utf8.decode s pos).1]), { st with heap := st.heap.set o (.sit s (pos + (Utf8.decode s pos).2)) })
          else some (.v (.tp [.b false]), st)
        | _ => none
      | false => none
    | _ => none) := by rw [opV_eq]; rfl
theorem opV_pick (c : Nat) (a b : Operand) : opV E cfg g ⟨d, .pick (.tmp c) a b, ty, pos, af, gu⟩ st = (match pickAV E c g st a b with
      | some v => some (.v v, st)
      | none => none) := by rw [opV_eq]; rfl
/-- a call's result, where it stands under a guard -/
def guardC (g : Gd) (f : FuncId) (p : Option (AV × St)) : Option (TV × St) :=
  match p with
  | some (r, st') => (match g with
    | none => some (.v r, st')
    | some _ => match E.fn f with
      | some fi => bif Nat.beq fi.mode 1 then some (.v r, st') else none
      | none => some (.v r, st'))
  | none => none
theorem guardC_none (f : FuncId) (r : AV) (st' : St) : guardC E none f (some (r, st')) = some (.v r, st') := rfl
theorem guardC_some (tw : Nat × Bool) (f : FuncId) (r : AV) (st' : St) : guardC E (some tw) f (some (r, st')) = (match E.fn f with
      | some fi => bif Nat.beq fi.mode 1 then some (.v r, st') else none
      | none => some (.v r, st')) := rfl
noncomputable def callC (g : Gd) (x : Option AV) (vs : Option (List AV)) (st : St) : Option (TV × St) :=
  match x with
  | some (.fn f caps) => match vs with
    | some vs => guardC E g f (callV E f (vs ++ caps) st)
    | none => none
  | _ => none
theorem callC_fn (g : Gd) (f : FuncId) (caps vs : List AV) (st : St) : callC E g (some (.fn f caps)) (some vs) st = guardC E g f (callV E f (vs ++ caps) st) := rfl
theorem opV_callv (x : Operand) (as : Array Operand) (ts : Array TypeId) : opV E cfg g ⟨d, .call ⟨.value x, as, ts⟩, ty, pos, af, gu⟩ st = callC E g (getA E 0 g st x) (getAs E g st as.toList ts.toList) st := by
  rw [opV_eq]
  simp only [callC]
  cases getA E 0 g st x with
  | none => rfl
  | some v =>
    cases v <;> try rfl
theorem opV_len (x : Operand) (t : TypeId) : opV E cfg g ⟨d, .call ⟨.builtin .len, #[x], #[t]⟩, ty, pos, af, gu⟩ st = (match E.ti t with
          | some i => match getA E t g st x with
            | some v => match lenAV st i.kind v with
              | some n => some (.v (.i .i64 n), st)
              | none => none
            | none => none
          | none => none) := by rw [opV_eq]; rfl
theorem opV_max (as : Array Operand) (ts : Array TypeId) : opV E cfg g ⟨d, .call ⟨.builtin .max, as, ts⟩, ty, pos, af, gu⟩ st = (match getAs E g st as.toList ts.toList with
        | some (x :: r) => match foldAV maxAV x r with
          | some v => some (.v v, st)
          | none => none
        | _ => none) := by rw [opV_eq]; rfl
theorem opV_min (as : Array Operand) (ts : Array TypeId) : opV E cfg g ⟨d, .call ⟨.builtin .min, as, ts⟩, ty, pos, af, gu⟩ st = (match getAs E g st as.toList ts.toList with
        | some (x :: r) => match foldAV minAV x r with
          | some v => some (.v v, st)
          | none => none
        | _ => none) := by rw [opV_eq]; rfl
theorem opV_append (x y : Operand) (t u : TypeId) : opV E cfg g ⟨d, .call ⟨.builtin .append, #[x, y], #[t, u]⟩, ty, pos, af, gu⟩ st = (match E.ti t with
          | some i => match E.ti i.el with
            | some e => match getA E t g st x with
              | some base => match getA E u g st y with
                | some new => bif Nat.beq i.kind 3 && kindIs E u 3 && Nat.blt 0 e.size && Nat.blt 0 e.bytes then
                    match elems e.size st new with
                    | some rows => match appendAV e.size e.bytes st base rows with
                      | some (st', v) => some (.v v, st')
                      | none => none
                    | none => none
                  else none
                | none => none
              | none => none
            | none => none
          | none => none) := by rw [opV_eq]; rfl
theorem opV_copy (x y : Operand) (t u : TypeId) : opV E cfg g ⟨d, .call ⟨.builtin .copy, #[x, y], #[t, u]⟩, ty, pos, af, gu⟩ st = (match E.ti t with
          | some i => match E.ti i.el with
            | some e => match getA E t g st x with
              | some dst => match getA E t g st y with
                | some src => bif Nat.beq i.kind 3 && Nat.blt 0 e.size then
                    match elems e.size st src with
                    | some rows => match copyAV e.size st dst rows with
                      | some (st', n) => some (.v (.i .i64 n), st')
                      | none => none
                    | none => none
                  else none
                | none => none
              | none => none
            | none => none
          | none => none) := by rw [opV_eq]; rfl
attribute [go_sem] opV_pick opV_callv opV_len opV_max opV_min opV_append opV_copy guardC_none guardC_some callC_fn     opV_build opV_buildSlice       opV_makeFunc opV_makeMap opV_makeSlice opV_slice   opV_indexAddr opV_index opV_lookup opV_mapUpdate  opV_range opV_next
end Go.Ex
/- The evaluator's steps once more, one thing after another: rules for simp that look at nothing ahead of its turn. -/
set_option autoImplicit false
set_option linter.unusedVariables false
namespace Go.Ex

def obind {α β : Type} (o : Option α) (k : α → Option β) : Option β :=
  match o with
  | some a => k a
  | none => none
theorem obind_some {α β : Type} (a : α) (k : α → Option β) : obind (some a) k = k a := rfl
theorem obind_none {α β : Type} (k : α → Option β) : obind none k = none := rfl
theorem obind_congr {α β : Type} {o o' : Option α} (h : o = o') (k : α → Option β) : obind o k = obind o' k := by rw [h]
def obind2 {α β γ : Type} (o : Option (α × β)) (k : α → β → Option γ) : Option γ :=
  match o with
  | some (a, b) => k a b
  | none => none
theorem obind2_some {α β γ : Type} (a : α) (b : β) (k : α → β → Option γ) : obind2 (some (a, b)) k = k a b := rfl
theorem obind2_none {α β γ : Type} (k : α → β → Option γ) : obind2 none k = none := rfl
theorem obind2_congr {α β γ : Type} {o o' : Option (α × β)} (h : o = o') (k : α → β → Option γ) : obind2 o k = obind2 o' k := by rw [h]
def bsel {α : Type} (c : Bool) (A B : α) : α := bif c then A else B
theorem bsel_t {α : Type} (A B : α) : bsel true A B = A := rfl
theorem bsel_f {α : Type} (A B : α) : bsel false A B = B := rfl
theorem bsel_congr {α : Type} {c c' : Bool} (h : c = c') (A B : α) : bsel c A B = bsel c' A B := by rw [h]
theorem obind_bsel {α β : Type} (c : Bool) (A B : Option α) (k : α → Option β) : obind (bsel c A B) k = bsel c (obind A k) (obind B k) := by cases c <;> rfl
theorem obind2_bsel {α β γ : Type} (c : Bool) (A B : Option (α × β)) (k : α → β → Option γ) : obind2 (bsel c A B) k = bsel c (obind2 A k) (obind2 B k) := by cases c <;> rfl
def oelse {α : Type} (o d : Option α) : Option α :=
  match o with
  | some x => some x
  | none => d
theorem oelse_some {α : Type} (x : α) (d : Option α) : oelse (some x) d = some x := rfl
theorem oelse_none {α : Type} (d : Option α) : oelse none d = d := rfl
theorem oelse_congr {α : Type} {o o' : Option α} (h : o = o') (d : Option α) : oelse o d = oelse o' d := by rw [h]
def oget {α β : Type} (o : Option α) (f : α → β) (d : β) : β :=
  match o with
  | some x => f x
  | none => d
theorem oget_some {α β : Type} (x : α) (f : α → β) (d : β) : oget (some x) f d = f x := rfl
theorem oget_none {α β : Type} (f : α → β) (d : β) : oget none f d = d := rfl
theorem oget_congr {α β : Type} {o o' : Option α} (h : o = o') (f : α → β) (d : β) : oget o f d = oget o' f d := by rw [h]
attribute [congr] obind_congr obind2_congr bsel_congr oelse_congr oget_congr

variable (E : EP) (cfg : Cfg) (g : Gd) (st : St) (ty : TypeId) (pos : String) (af : Array Edge) (gu : Option (Nat × Bool)) (d : Option Tmp)

theorem s_alook {α : Type} (k : Nat) (v : α) (r : List (Nat × α)) (t : Nat) : alook ((k, v) :: r) t = bsel (Nat.beq k t) (some v) (alook r t) := rfl
theorem s_alook0 {α : Type} (t : Nat) : alook ([] : List (Nat × α)) t = none := rfl
theorem s_aset {α : Type} (k : Nat) (u v : α) (r : List (Nat × α)) (t : Nat) : aset v ((k, u) :: r) t = bsel (Nat.beq k t) ((k, v) :: r) (bsel (Nat.blt k t) ((t, v) :: (k, u) :: r) ((k, u) :: aset v r t)) := rfl
theorem s_aset0 {α : Type} (v : α) (t : Nat) : aset v ([] : List (Nat × α)) t = [(t, v)] := rfl
theorem s_dropK {α : Type} (k : Nat) (x : α) (r : List (Nat × α)) (t : Nat) : dropK t ((k, x) :: r) = bsel (Nat.beq k t) (dropK t r) ((k, x) :: dropK t r) := rfl
theorem s_dropK0 {α : Type} (t : Nat) : dropK t ([] : List (Nat × α)) = [] := rfl
theorem s_hasK {α : Type} (k : Nat) (x : α) (r : List (Nat × α)) (t : Nat) : hasK ((k, x) :: r) t = bsel (Nat.beq k t) true (hasK r t) := rfl
theorem s_hasK0 {α : Type} (t : Nat) : hasK ([] : List (Nat × α)) t = false := rfl
theorem s_elemN (k : Nat) (r : List Nat) (t : Nat) : elemN (k :: r) t = bsel (Nat.beq k t) true (elemN r t) := rfl
theorem s_elemN0 (t : Nat) : elemN [] t = false := rfl
theorem s_keepK {α β : Type} (old : List (Nat × α)) (k : Nat) (x : β) (r : List (Nat × β)) : keepK old ((k, x) :: r) = bsel (hasK old k) ((k, x) :: keepK old r) (keepK old r) := rfl
theorem s_keepK0 {α β : Type} (old : List (Nat × α)) : keepK old ([] : List (Nat × β)) = [] := rfl
theorem s_hasPv (l k : Nat) (x : AV) (r : List (Nat × TV)) : hasP l ((k, .v x) :: r) = hasP l r := rfl
theorem s_hasPp (l k m off : Nat) (r : List (Nat × TV)) : hasP l ((k, .p m off) :: r) = bsel (Nat.beq m l) true (hasP l r) := rfl
theorem s_hasP0 (l : Nat) : hasP l [] = false := rfl
theorem s_hasGv (l k : Nat) (gd : Gd) (x : AV) (r : List (Nat × (Gd × TV))) : hasG l ((k, gd, .v x) :: r) = hasG l r := rfl
theorem s_hasGp (l k : Nat) (gd : Gd) (m off : Nat) (r : List (Nat × (Gd × TV))) : hasG l ((k, gd, .p m off) :: r) = bsel (Nat.beq m l) true (hasG l r) := rfl
theorem s_hasG0 (l : Nat) : hasG l [] = false := rfl

theorem s_getTV (t : Nat) : getTV st t = oelse (alook st.tl t) (obind (alook st.vals t) fun x => some (none, x)) := by
  unfold getTV
  cases alook st.tl t with
  | some x => rfl
  | none => cases alook st.vals t <;> rfl
theorem s_getG (t : Nat) : getG g st t = obind (getTV st t) (under g) := by
  unfold getG
  cases getTV st t <;> rfl
theorem s_under0 (g : Gd) (x : TV) : under g (none, x) = some x := rfl
theorem s_under1 (t u : Nat) (w z : Bool) (x : TV) : under (some (u, z)) (some (t, w), x) = bsel (Nat.beq t u && w == z) (some x) none := rfl
theorem s_under2 (t : Nat) (w : Bool) (x : TV) : under none (some (t, w), x) = none := rfl
def valOf : TV → Option AV
  | .v x => some x
  | .p _ _ => none
theorem valOf_v (x : AV) : valOf (.v x) = some x := rfl
theorem valOf_p (l off : Nat) : valOf (.p l off) = none := rfl
theorem s_getA_tmp (t : Nat) : getA E ty g st (.tmp t) = obind (getG g st t) valOf := by
  unfold getA
  simp only
  cases getG g st t with
  | none => rfl
  | some x => cases x <;> rfl
theorem s_getA_b (x : Bool) : getA E ty g st (.const (.bool x)) = some (.b x) := rfl
theorem s_getA_i (k : IntKind) (n : Int) : getA E ty g st (.const (.int k n)) = some (.i k n) := rfl
theorem s_getA_s (x : ByteArray) : getA E ty g st (.const (.string x)) = some (.s x) := rfl
theorem s_getA_sl : getA E ty g st (.const (.slice none 0 0)) = some (.sl (elSize E ty) [] true) := rfl
theorem s_getA_np : getA E ty g st (.const (.pointer none)) = some .np := rfl
theorem s_getA_nf : getA E ty g st (.const .nilFunc) = some .nf := rfl
theorem s_getA_im : getA E ty g st (.const (.map none)) = some (.im []) := rfl
theorem s_getA_fn (f : FuncId) : getA E ty g st (.func f) = some (.fn f []) := rfl
theorem s_getP_tmp (t : Nat) : getP E ty g st (.tmp t) = getG g st t := rfl
theorem s_getP_const (v : Value) : getP E ty g st (.const v) = obind (getA E ty g st (.const v)) fun x => some (.v x) := by
  unfold getP
  simp only
  cases getA E ty g st (.const v) <;> rfl
theorem s_getP_fn (f : FuncId) : getP E ty g st (.func f) = some (.v (.fn f [])) := rfl
theorem s_sizeT (t : Nat) : sizeT E t = oget (E.ti t) (·.size) 0 := by unfold sizeT; cases E.ti t <;> rfl
theorem s_elSize (t : Nat) : elSize E t = oget (E.ti t) (fun i => oget (E.ti i.el) (·.size) 0) 0 := by
  unfold elSize
  cases E.ti t with
  | none => rfl
  | some i => simp only [oget]; cases E.ti i.el <;> rfl
theorem s_kindIs (t k : Nat) : kindIs E t k = oget (E.ti t) (fun i => Nat.beq i.kind k) false := by unfold kindIs; cases E.ti t <;> rfl
def partK (i : TI) (cs : List AV) (off : Nat) : Option AV :=
  match i.kind with
  | 1 => bsel (Nat.ble (off + i.size) cs.length) (some (.ag (takeN (dropN cs off) i.size))) none
  | 2 => bsel (Nat.ble (off + i.size) cs.length) (some (.ag (takeN (dropN cs off) i.size))) none
  | _ => nth cs off
theorem s_partA (t : Nat) (cs : List AV) (off : Nat) : partA E t cs off = obind (E.ti t) fun i => partK i cs off := by
  unfold partA
  cases E.ti t <;> rfl
theorem s_loadP (t l off : Nat) : loadAt E t st (.p l off) = obind (alook st.locs l) fun cs => partA E t cs off := by
  unfold loadAt; simp only; cases alook st.locs l <;> rfl
theorem s_loadE (t : Nat) (cs : List AV) (off : Nat) : loadAt E t st (.v (.ep cs off)) = partA E t cs off := rfl
def hpK (E : EP) (t n tot row off : Nat) : OB → Option AV
  | .arr m rows _ _ => bsel (Nat.beq m n && Nat.beq rows.length tot) (obind rows[row]? fun cs => partA E t cs off) none
  | _ => none
theorem s_loadH (t o n tot row off : Nat) : loadAt E t st (.v (.hp o n tot row off)) = obind st.heap[o]? (hpK E t n tot row off) := by
  unfold loadAt
  simp only
  cases st.heap[o]? with
  | none => rfl
  | some ob =>
    cases ob <;> try rfl
    rename_i m rows gr lvl
    simp only [obind, hpK, bsel]
    cases (Nat.beq m n && Nat.beq rows.length tot) <;> try rfl
    simp only [cond_true]
    cases rows[row]? <;> rfl
theorem s_storeP (t : Nat) (x : AV) (l off : Nat) : storeAt E t st x (.p l off) = obind (alook st.locs l) fun cs => bsel (Nat.beq (cellsOf x).length (sizeT E t) && Nat.blt 0 (sizeT E t)) (obind (lay cs off (cellsOf x)) fun cs' => some { st with locs := aset cs' st.locs l }) none := by
  unfold storeAt
  simp only
  cases alook st.locs l with
  | none => rfl
  | some cs =>
    simp only [obind, bsel]
    cases (Nat.beq (cellsOf x).length (sizeT E t) && Nat.blt 0 (sizeT E t)) <;> try rfl
    simp only [cond_true]
    cases lay cs off (cellsOf x) <;> rfl
def hsK (E : EP) (t : Nat) (st : St) (x : AV) (o n tot row off : Nat) : OB → Option St
  | .arr m rows grow lvl => bsel (Nat.beq m n && Nat.beq rows.length tot && Nat.beq (cellsOf x).length (sizeT E t) && Nat.blt 0 (sizeT E t)) (obind rows[row]? fun cs => obind (lay cs off (cellsOf x)) fun cs' =>
      some { st with heap := st.heap.set o (.arr m (rows.set row cs') grow (Nat.max lvl (lev x))) }) none
  | _ => none
theorem s_storeH (t : Nat) (x : AV) (o n tot row off : Nat) : storeAt E t st x (.v (.hp o n tot row off)) = obind st.heap[o]? (hsK E t st x o n tot row off) := by
  unfold storeAt
  simp only
  cases st.heap[o]? with
  | none => rfl
  | some ob =>
    cases ob <;> try rfl
    rename_i m rows gr lvl
    simp only [obind, hsK, bsel]
    cases (Nat.beq m n && Nat.beq rows.length tot && Nat.beq (cellsOf x).length (sizeT E t) && Nat.blt 0 (sizeT E t)) <;> try rfl
    simp only [cond_true]
    cases rows[row]? with
    | none => rfl
    | some cs => simp only; cases lay cs off (cellsOf x) <;> rfl
theorem s_lay (cs : List AV) (off : Nat) (v : AV) (vs : List AV) : lay cs off (v :: vs) = bsel (Nat.blt off cs.length) (lay (setN cs off v) (off + 1) vs) none := rfl
theorem s_lay0 (cs : List AV) (off : Nat) : lay cs off [] = some cs := rfl

theorem s_putTV (kp : List Nat) (t : Nat) (x : TV) : putTV kp (some t) x st = bsel ((alook st.vals t).isSome || elemN kp t) { st with vals := aset x st.vals t, tl := dropK t st.tl } { st with tl := aset (none, x) st.tl t } := by
  unfold putTV
  cases hv : alook st.vals t with
  | some y => simp [hv, bsel]
  | none => cases hb : elemN kp t <;> simp [hv, hb, bsel]
theorem s_putTV0 (kp : List Nat) (x : TV) : putTV kp none x st = st := rfl
theorem s_putC (kp : List Nat) (t : Nat) (gw : Nat × Bool) (x : TV) : putC kp (some t) gw x st = bsel ((alook st.vals t).isSome || elemN kp t) none (some { st with tl := aset (some gw, x) st.tl t }) := by
  unfold putC
  cases hv : alook st.vals t with
  | some y => simp [hv, bsel]
  | none => cases hb : elemN kp t <;> simp [hv, hb, bsel]
theorem s_putC0 (kp : List Nat) (gw : Nat × Bool) (x : TV) : putC kp none gw x st = some st := rfl
theorem s_getAs (x : Operand) (r : List Operand) (t : Nat) (ts : List Nat) : getAs E g st (x :: r) (t :: ts) = obind (getA E t g st x) fun v => obind (getAs E g st r ts) fun vs => some (v :: vs) := by
  rw [getAs]
  cases getA E t g st x with
  | none => rfl
  | some v => simp only [obind]; cases getAs E g st r ts <;> rfl
theorem s_getAs1 (x : Operand) (r : List Operand) : getAs E g st (x :: r) [] = obind (getA E 0 g st x) fun v => obind (getAs E g st r []) fun vs => some (v :: vs) := by
  rw [getAs]
  cases getA E 0 g st x with
  | none => rfl
  | some v => simp only [obind]; cases getAs E g st r [] <;> rfl
theorem s_getAs0 (ts : List Nat) : getAs E g st [] ts = some [] := by rw [getAs]
theorem s_getParts (tf : Nat → Nat) (i : Nat) (x : Operand) (r : List (Nat × Operand)) : getParts E g st tf ((i, x) :: r) = obind (getA E (tf i) g st x) fun v => obind (getParts E g st tf r) fun vs => some ((i, v) :: vs) := by
  rw [getParts]
  cases getA E (tf i) g st x with
  | none => rfl
  | some v => simp only [obind]; cases getParts E g st tf r <;> rfl
theorem s_getParts0 (tf : Nat → Nat) : getParts E g st tf [] = some [] := by rw [getParts]
theorem s_mapO {α β : Type} (f : α → Option β) (x : α) (r : List α) : mapO f (x :: r) = obind (f x) fun y => obind (mapO f r) fun ys => some (y :: ys) := by
  rw [mapO]
  cases f x with
  | none => rfl
  | some y => simp only [obind]; cases mapO f r <;> rfl
theorem s_mapO0 {α β : Type} (f : α → Option β) : mapO f [] = some [] := by rw [mapO]
theorem s_ro (h : List OB) (n : Nat) (x : AV) (hx : Nat.ble (lev x) 1 = true) : ro h (n + 1) x = some x := by
  unfold ro; rw [hx]; rfl

def roK (h : List OB) (n m off len tot : Nat) : OB → Option AV
  | .arr k rows _ lvl => bsel (Nat.beq k m && Nat.beq rows.length tot && Nat.ble (off + len) tot) (match lvl with
      | 0 => some (.sl m ((rows.drop off).take len) false)
      | 1 => some (.sl m ((rows.drop off).take len) false)
      | _ => (mapO (mapO (ro h n)) ((rows.drop off).take len)).map fun es => .sl m es false) none
  | _ => none
theorem s_roH (h : List OB) (n o m off len tot : Nat) : ro h (n + 1) (.hs o m off len tot) = obind h[o]? (roK h n m off len tot) := by
  unfold ro
  have h1 : Nat.ble (lev (.hs o m off len tot)) 1 = false := rfl
  rw [h1]
  simp only [cond_false]
  cases h[o]? with
  | none => rfl
  | some ob => cases ob <;> rfl

-- operations
theorem s_move (x : Operand) : opV E cfg g ⟨d, .move x, ty, pos, af, gu⟩ st = obind (getP E ty g st x) fun v => some (v, st) := by
  rw [opV_eq]; simp only [stepOp]; cases getP E ty g st x <;> rfl
def ownA (E : EP) (g : Gd) (st : St) (ty : TypeId) : Operand → Option (TV × St)
  | .const (.slice none 0 0) => some (.v (.hs st.heap.length (elSize E ty) 0 0 0), newObj (.arr (elSize E ty) [] true 0) st)
  | x => obind (getP E ty g st x) fun v => some (v, st)
theorem s_assign (t : Nat) (x : Operand) : opV E cfg g ⟨some t, .assign x, ty, pos, af, gu⟩ st = bsel (elemN cfg.own t) (ownA E g st ty x) (obind (getP E ty g st x) fun v => some (v, st)) := by
  rw [opV_eq]
  simp only [stepOp, bsel]
  cases elemN cfg.own t with
  | false => simp only [cond_false]; cases getP E ty g st x <;> rfl
  | true =>
    simp only [cond_true]
    split
    · rfl
    · rename_i h
      have : ownA E g st ty x = obind (getP E ty g st x) fun v => some (v, st) := by
        unfold ownA
        split
        · rename_i h2; first | exact (h h2).elim | exact (h rfl).elim | (exfalso; simp_all)
        · rfl
      rw [this]
      cases getP E ty g st x <;> rfl
theorem s_alloc (e t : Nat) : opV E cfg g ⟨some t, .alloc e, ty, pos, af, gu⟩ st = obind (E.ti e) fun i => bsel (elemN cfg.loc t) (bsel (hasP t st.vals || hasG t st.tl || hasK st.locs t) none (some (.p t 0, { st with locs := aset i.zero st.locs t })))
    (bsel (Nat.blt 0 i.size) (some (.v (.hp st.heap.length i.size 1 0 0), newObj (.arr i.size [i.zero] false (lev.levs i.zero)) st)) none) := by
  rw [opV_eq]; simp only [stepOp]; cases E.ti e <;> rfl
theorem s_box (e t : Nat) (x : Operand) : opV E cfg g ⟨some t, .box e x, ty, pos, af, gu⟩ st = obind (getA E e g st x) fun v => bsel (Nat.blt 0 (cellsOf v).length) (bsel (elemN cfg.loc t) (bsel (hasP t st.vals || hasG t st.tl || hasK st.locs t) none (some (.p t 0, { st with locs := aset (cellsOf v) st.locs t })))
    (some (.v (.hp st.heap.length (cellsOf v).length 1 0 0), newObj (.arr (cellsOf v).length [cellsOf v] false (lev v)) st))) none := by
  rw [opV_eq]; simp only [stepOp]; cases getA E e g st x <;> rfl
theorem s_load (t : Nat) (a : Operand) : opV E cfg g ⟨d, .load t a, ty, pos, af, gu⟩ st = obind (getP E 0 g st a) fun p => bsel (loadOk cfg d p) (obind (loadAt E t st p) fun v => some (.v v, st)) none := by
  rw [opV_eq]; simp only [stepOp]
  cases getP E 0 g st a with
  | none => rfl
  | some p =>
    simp only [obind, bsel]
    cases loadOk cfg d p with
    | false => rfl
    | true => simp only [cond_true]; cases loadAt E t st p <;> rfl
theorem s_store (t : Nat) (a x : Operand) : opV E cfg g ⟨d, .store t a x, ty, pos, af, gu⟩ st = obind (getP E 0 g st a) fun p => bsel (storeOk cfg a p) (obind (getA E t g st x) fun v => obind (storeAt E t st v p) fun st' => some (.v (.tp []), st')) none := by
  rw [opV_eq]; simp only [stepOp]
  cases getP E 0 g st a with
  | none => rfl
  | some p =>
    simp only [obind, bsel]
    cases storeOk cfg a p with
    | false => rfl
    | true =>
    simp only [cond_true]
    cases getA E t g st x with
    | none => rfl
    | some v => simp only; cases storeAt E t st v p <;> rfl
def nilK (st : St) : TV → Option (TV × St)
  | .p l off => some (.p l off, st)
  | .v (.hp o n tot row off) => some (.v (.hp o n tot row off), st)
  | .v (.ep cs off) => some (.v (.ep cs off), st)
  | .v (.fn f cs) => some (.v (.fn f cs), st)
  | _ => none
theorem s_nilCheck (x : Operand) : opV E cfg g ⟨d, .nilCheck x, ty, pos, af, gu⟩ st = obind (getP E 0 g st x) (nilK st) := by
  rw [opV_eq]; simp only [stepOp]
  cases getP E 0 g st x with
  | none => rfl
  | some p => cases p with
    | p l off => rfl
    | v y => cases y <;> rfl
theorem s_binOp (op : BinOp) (t : Nat) (x y : Operand) (u : TypeId) : opV E cfg g ⟨d, .binOp op t x y u, ty, pos, af, gu⟩ st = obind (getA E t g st x) fun a => obind (getA E t g st y) fun b => obind (binAV E op t a b) fun v => some (.v v, st) := by
  rw [opV_eq]; simp only [stepOp]
  cases getA E t g st x with
  | none => rfl
  | some a =>
    simp only [obind]
    cases getA E t g st y with
    | none => rfl
    | some b => simp only; cases binAV E op t a b <;> rfl
theorem s_unOp (op : UnOp) (t : Nat) (x : Operand) : opV E cfg g ⟨d, .unOp op t x, ty, pos, af, gu⟩ st = obind (getA E t g st x) fun a => obind (unAV op a) fun v => some (.v v, st) := by
  rw [opV_eq]; simp only [stepOp]
  cases getA E t g st x with
  | none => rfl
  | some a => simp only [obind]; cases unAV op a <;> rfl
def cvK (E : EP) (src dst : Nat) (st : St) : AV → Option (TV × St)
  | .i _ n => obind (E.ti dst) fun i => bsel (Nat.beq i.kind 5 && kindIs E src 5) (some (.v (.i i.ik (i.ik.wrap n)), st)) none
  | _ => none
theorem s_convert (src dst : Nat) (x : Operand) : opV E cfg g ⟨d, .convert src dst x, ty, pos, af, gu⟩ st = obind (getA E src g st x) (cvK E src dst st) := by
  rw [opV_eq]; simp only [stepOp]
  cases getA E src g st x with
  | none => rfl
  | some a => cases a <;> try rfl
              simp only [obind, cvK]; cases E.ti dst <;> rfl
theorem s_fieldAddr (t : Nat) (x : Operand) (f : Nat) : opV E cfg g ⟨d, .fieldAddr t x f, ty, pos, af, gu⟩ st = obind (getP E 0 g st x) fun p => obind (E.ti t) fun i => obind2 (nth i.flds f) fun off ft => bsel (Nat.blt 0 (sizeT E ft) && Nat.beq i.kind 1) (obind (fieldAt off p) fun q => some (q, st)) none := by
  rw [opV_eq]; simp only [stepOp]
  cases getP E 0 g st x with
  | none => rfl
  | some p =>
    simp only [obind]
    cases E.ti t with
    | none => rfl
    | some i =>
      simp only
      cases nth i.flds f with
      | none => rfl
      | some of =>
        obtain ⟨off, ft⟩ := of
        simp only [obind2, bsel]
        cases (Nat.blt 0 (sizeT E ft) && Nat.beq i.kind 1) with
        | false => rfl
        | true => simp only [cond_true]; cases fieldAt off p <;> rfl
def fldK (E : EP) (t : Nat) (st : St) (f : Nat) : AV → Option (TV × St)
  | .ag cs => obind (E.ti t) fun i => obind2 (nth i.flds f) fun off ft => bsel (Nat.beq i.kind 1) (obind (partA E ft cs off) fun v => some (.v v, st)) none
  | _ => none
theorem s_field (t : Nat) (x : Operand) (f : Nat) : opV E cfg g ⟨d, .field t x f, ty, pos, af, gu⟩ st = obind (getA E t g st x) (fldK E t st f) := by
  rw [opV_eq]; simp only [stepOp]
  cases getA E t g st x with
  | none => rfl
  | some a =>
    cases a <;> try rfl
    simp only [obind, fldK]
    cases E.ti t with
    | none => rfl
    | some i =>
      simp only
      cases nth i.flds f with
      | none => rfl
      | some of =>
        obtain ⟨off, ft⟩ := of
        simp only [obind2, bsel]
        cases Nat.beq i.kind 1 with
        | false => rfl
        | true => simp only [cond_true]; cases partA E ft _ off <;> rfl
def asI : AV → Option Int
  | .i _ n => some n
  | _ => none
theorem asI_i (k : IntKind) (n : Int) : asI (.i k n) = some n := rfl
/-- x[i]'s address, x a slice -/
theorem s_indexAddr (t : Nat) (x ix : Operand) {i : TI} (hi : E.ti t = some i) (hk : i.kind = 3) : opV E cfg g ⟨d, .indexAddr t x ix, ty, pos, af, gu⟩ st = obind (getA E t g st x) fun v => obind (getA E 0 g st ix) fun w => obind (asI w) fun n =>
    bsel (Nat.blt 0 (elSize E t)) (obind (indexAt (elSize E t) n v) fun p => some (.v p, st)) none := by
  rw [opV_eq]; simp only [stepOp, hi, hk]
  cases getA E t g st x with
  | none => rfl
  | some v =>
    simp only [obind]
    cases getA E 0 g st ix with
    | none => rfl
    | some w =>
      cases w <;> try rfl
      simp only [asI, bsel]
      cases Nat.blt 0 (elSize E t) with
      | false => rfl
      | true => simp only [cond_true]; cases indexAt _ _ v <;> rfl
theorem s_extract (x : Operand) (i : Nat) : opV E cfg g ⟨d, .extract x i, ty, pos, af, gu⟩ st = obind (getA E 0 g st x) fun v => match v with
    | .tp vs => obind (nth vs i) fun v => some (.v v, st)
    | _ => none := by
  rw [opV_eq]; simp only [stepOp]
  cases getA E 0 g st x with
  | none => rfl
  | some a =>
    cases a <;> try rfl
    rename_i vs
    simp only [obind]; cases nth vs i <;> rfl
theorem s_indexE (m : Nat) (es : List (List AV)) (c : Bool) (n : Nat) (i : Int) : indexAt n i (.sl m es c) = bsel (Nat.beq m n) (obind (row? es i) fun cs => some (.ep cs 0)) none := by
  unfold indexAt bsel
  simp only
  cases Nat.beq m n with
  | false => rfl
  | true => simp only [cond_true]; cases row? es i <;> rfl
attribute [go_sem high] bsel_t bsel_f
attribute [go_sem] obind_some obind_none obind2_some obind2_none obind_bsel obind2_bsel oelse_some oelse_none oget_some oget_none
  s_alook s_alook0 s_aset s_aset0 s_dropK s_dropK0 s_hasK s_hasK0 s_elemN s_elemN0 s_keepK s_keepK0 s_hasPv s_hasPp s_hasP0 s_hasGv s_hasGp s_hasG0
  s_getTV s_getG s_under0 s_under1 s_under2 valOf_v valOf_p s_getA_tmp s_getA_b s_getA_i s_getA_s s_getA_sl s_getA_np s_getA_nf s_getA_im s_getA_fn s_getP_tmp s_getP_const s_getP_fn s_sizeT s_elSize s_kindIs partK s_partA
  s_loadP s_loadE hpK s_loadH s_storeP hsK s_storeH s_lay s_lay0 s_putTV s_putTV0 s_putC s_putC0 s_getAs s_getAs1 s_getAs0 s_getParts s_getParts0 s_mapO s_mapO0 s_ro roK s_roH
  s_move ownA s_assign s_alloc s_box s_load s_store nilK s_nilCheck s_binOp s_unOp cvK s_convert s_fieldAddr fldK s_field asI_i s_extract s_indexE
end Go.Ex
