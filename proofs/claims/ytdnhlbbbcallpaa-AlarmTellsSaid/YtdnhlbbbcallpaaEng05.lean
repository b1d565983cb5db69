/- The evaluator of this proof, part 05. -/
import Derived.Test.YtdnhlbbbcallpaaEng04
import Derived.Attr
set_option linter.unnecessarySimpa false
set_option linter.unusedVariables false
set_option linter.unusedSimpArgs false
set_option linter.unusedSectionVars false
set_option linter.deprecated false
/- One operation, kind by kind: rules for simp. Written by program out of E2. -/
set_option autoImplicit false
set_option linter.unusedVariables false
namespace Go.Ex
variable (E : EP) (cfg : Cfg) (g : Gd) (st : St) (d : Option Tmp) (ty : TypeId) (pos : String) (af : Array Edge) (gu : Option (Nat × Bool))

theorem opV_move (x : _) : opV E cfg g ⟨d, .move x, ty, pos, af, gu⟩ st = (match getP E ty g st x with
    | some v => some (v, st)
    | none => none) := by rw [opV_eq]; rfl
theorem opV_assign (x : _) : opV E cfg g ⟨d, .assign x, ty, pos, af, gu⟩ st = (match d with
    | some d => bif elemN cfg.own d then
        match x with
        | .const (.slice none 0 0) => some (.v (.hs st.heap.length (elSize E ty) 0 0 0), newObj (.arr (elSize E ty) [] true 0) st)
        | x => match getP E ty g st x with
          | some v => some (v, st)
          | none => none
      else match getP E ty g st x with
        | some v => some (v, st)
        | none => none
    | none => none) := by rw [opV_eq]; rfl
theorem opV_alloc (e : _) : opV E cfg g ⟨d, .alloc e, ty, pos, af, gu⟩ st = (match E.ti e with
    | some i => match d with
      | some d => bif elemN cfg.loc d then
          bif hasP d st.vals || hasG d st.tl || hasK st.locs d then none else some (.p d 0, { st with locs := aset i.zero st.locs d })
        else bif Nat.blt 0 i.size then some (.v (.hp st.heap.length i.size 1 0 0), newObj (.arr i.size [i.zero] false (lev.levs i.zero)) st) else none
      | none => none
    | none => none) := by rw [opV_eq]; rfl
theorem opV_box (e : _) (x : _) : opV E cfg g ⟨d, .box e x, ty, pos, af, gu⟩ st = (match getA E e g st x with
    | some v => bif Nat.blt 0 (cellsOf v).length then match d with
      | some d => bif elemN cfg.loc d then
          bif hasP d st.vals || hasG d st.tl || hasK st.locs d then none else some (.p d 0, { st with locs := aset (cellsOf v) st.locs d })
        else some (.v (.hp st.heap.length (cellsOf v).length 1 0 0), newObj (.arr (cellsOf v).length [cellsOf v] false (lev v)) st)
      | none => none
      else none
    | none => none) := by rw [opV_eq]; rfl
theorem opV_build (t : _) (ps : _) : opV E cfg g ⟨d, .build t ps, ty, pos, af, gu⟩ st = (match E.ti t with
    | some i => match i.kind with
      | 1 => match getParts E g st (fldTy i.flds) ps.toList with
        | some vs => match fillAV (fun f => match nth i.flds f with | some (off, ft) => some (off, sizeT E ft) | none => none) i.zero vs with
          | some cs => some (.v (.ag cs), st)
          | none => none
        | none => none
      | 2 => match getParts E g st (fun _ => i.el) ps.toList with
        | some vs => bif Nat.blt 0 (sizeT E i.el) then (match fillAV (fun f => some (f * sizeT E i.el, sizeT E i.el)) i.zero vs with
          | some cs => some (.v (.ag cs), st)
          | none => none) else none
        | none => none
      | _ => none
    | none => none) := by rw [opV_eq]; rfl
theorem opV_buildSlice (t : _) (len : _) (ps : _) : opV E cfg g ⟨d, .buildSlice t len ps, ty, pos, af, gu⟩ st = (match E.ti t with
    | some i => match getParts E g st (fun _ => i.el) ps.toList with
      | some vs => match rowsOf (elSize E t) 0 vs with
        | some rows => bif Nat.beq rows.length len && Nat.ble (len * elSize E t) 16777216 && Nat.blt 0 (elSize E t) && Nat.beq i.kind 3 then
            match d with
            | some d => bif elemN cfg.own d then
                some (.v (.hs st.heap.length (elSize E t) 0 len len), newObj (.arr (elSize E t) rows false (levRows rows)) st)
              else bif Nat.ble (levRows rows) 1 then some (.v (.sl (elSize E t) rows false), st) else none
            | none => none
          else none
        | none => none
      | none => none
    | none => none) := by rw [opV_eq]; rfl
theorem opV_load (t : _) (a : _) : opV E cfg g ⟨d, .load t a, ty, pos, af, gu⟩ st = (match getP E 0 g st a with
    | some p => match loadOk cfg d p with
      | true => match loadAt E t st p with
        | some v => some (.v v, st)
        | none => none
      | false => none
    | none => none) := by rw [opV_eq]; rfl
theorem opV_store (t : _) (a : _) (x : _) : opV E cfg g ⟨d, .store t a x, ty, pos, af, gu⟩ st = (match getP E 0 g st a with
    | some p => match getA E t g st x with
      | some v => match storeAt E t st v p with
        | some st' => some (.v (.tp []), st')
        | none => none
      | none => none
    | none => none) := by rw [opV_eq]; rfl
theorem opV_nilCheck (x : _) : opV E cfg g ⟨d, .nilCheck x, ty, pos, af, gu⟩ st = (match getP E 0 g st x with
    | some (.p l off) => some (.p l off, st)
    | some (.v (.hp o n tot row off)) => some (.v (.hp o n tot row off), st)
    | some (.v (.ep cs off)) => some (.v (.ep cs off), st)
    | some (.v (.fn f cs)) => some (.v (.fn f cs), st)
    | _ => none) := by rw [opV_eq]; rfl
theorem opV_binOp (op : _) (t : _) (x : _) (y : _) (u4 : _) : opV E cfg g ⟨d, .binOp op t x y u4, ty, pos, af, gu⟩ st = (match getA E t g st x with
    | some a => match getA E t g st y with
      | some b => match binAV E op t a b with
        | some v => some (.v v, st)
        | none => none
      | none => none
    | none => none) := by rw [opV_eq]; rfl
theorem opV_unOp (op : _) (t : _) (x : _) : opV E cfg g ⟨d, .unOp op t x, ty, pos, af, gu⟩ st = (match getA E t g st x with
    | some a => match unAV op a with
      | some v => some (.v v, st)
      | none => none
    | none => none) := by rw [opV_eq]; rfl
theorem opV_convert (src : _) (dst : _) (x : _) : opV E cfg g ⟨d, .convert src dst x, ty, pos, af, gu⟩ st = (match getA E src g st x with
    | some (.i _ n) => match E.ti dst with
      | some i => bif Nat.beq i.kind 5 && kindIs E src 5 then some (.v (.i i.ik (i.ik.wrap n)), st) else none
      | none => none
    | _ => none) := by rw [opV_eq]; rfl
theorem opV_makeFunc (fn : _) (first : _) (cap : _) : opV E cfg g ⟨d, .makeFunc fn first cap, ty, pos, af, gu⟩ st = (match fn, first.toList with
    | .func f, [] => match getAs E g st cap.toList [] with
      | some vs => some (.v (.fn f vs), st)
      | none => none
    | _, _ => none) := by rw [opV_eq]; rfl
theorem opV_makeMap (u0 : _) (r : _) : opV E cfg g ⟨d, .makeMap u0 r, ty, pos, af, gu⟩ st = (match r with
    | none => some (.v (.mp st.heap.length), newObj (.map [] 0) st)
    | some _ => none) := by rw [opV_eq]; rfl
theorem opV_makeSlice (t : _) (len : _) (cap : _) : opV E cfg g ⟨d, .makeSlice t len cap, ty, pos, af, gu⟩ st = (match getA E 0 g st len with
    | some (.i k n) => match getA E 0 g st cap with
      | some (.i _ m) => match E.ti t with
        | some i => match E.ti i.el with
          | some e => match k with
            | .i64 => if 0 ≤ n ∧ n * e.bytes ≤ 35184372088832 ∧ n ≤ 35184372088832 ∧ m = n ∧ 0 < e.size ∧ i.kind = 3 then
                match d with
                | some d => bif elemN cfg.imm d then some (.v (.sl e.size (List.replicate n.toNat e.zero) true), st)
                  else some (.v (.hs st.heap.length e.size 0 n.toNat n.toNat), newObj (.arr e.size (List.replicate n.toNat e.zero) false (lev.levs e.zero)) st)
                | none => none
              else none
            | _ => none
          | none => none
        | none => none
      | _ => none
    | _ => none) := by rw [opV_eq]; rfl
theorem opV_slice (t : _) (x : _) (lo : _) (hi : _) (mx : _) : opV E cfg g ⟨d, .slice t x lo hi mx, ty, pos, af, gu⟩ st = (match getA E t g st x with
    | some v => match E.ti t with
      | some i => match sliceAV E g st i.kind (elSize E t) v lo hi mx with
        | some u => some (.v u, st)
        | none => none
      | none => none
    | none => none) := by rw [opV_eq]; rfl
theorem opV_fieldAddr (t : _) (x : _) (f : _) : opV E cfg g ⟨d, .fieldAddr t x f, ty, pos, af, gu⟩ st = (match getP E 0 g st x with
    | some p => match E.ti t with
      | some i => match nth i.flds f with
        | some (off, ft) => bif Nat.blt 0 (sizeT E ft) && Nat.beq i.kind 1 then
            match fieldAt off p with
            | some q => some (q, st)
            | none => none
          else none
        | none => none
      | none => none
    | none => none) := by rw [opV_eq]; rfl
theorem opV_field (t : _) (x : _) (f : _) : opV E cfg g ⟨d, .field t x f, ty, pos, af, gu⟩ st = (match getA E t g st x with
    | some (.ag cs) => match E.ti t with
      | some i => match nth i.flds f with
        | some (off, ft) => bif Nat.beq i.kind 1 then (match partA E ft cs off with
          | some v => some (.v v, st)
          | none => none) else none
        | none => none
      | none => none
    | _ => none) := by rw [opV_eq]; rfl
theorem opV_indexAddr (t : _) (x : _) (ix : _) : opV E cfg g ⟨d, .indexAddr t x ix, ty, pos, af, gu⟩ st = (match E.ti t with
    | some i => match i.kind with
      | 3 => match getA E t g st x with
        | some v => match getA E 0 g st ix with
          | some (.i _ n) => bif Nat.blt 0 (elSize E t) then (match indexAt (elSize E t) n v with
            | some p => some (.v p, st)
            | none => none) else none
          | _ => none
        | none => none
      | 2 => match getP E 0 g st x with
        | some p => match getA E 0 g st ix with
          | some (.i _ n) => if 0 ≤ n ∧ n * sizeT E i.el < i.size ∧ 0 < sizeT E i.el then
              match fieldAt (n.toNat * sizeT E i.el) p with
              | some q => some (q, st)
              | none => none
            else none
          | _ => none
        | none => none
      | _ => none
    | none => none) := by rw [opV_eq]; rfl
theorem opV_index (t : _) (x : _) (ix : _) : opV E cfg g ⟨d, .index t x ix, ty, pos, af, gu⟩ st = (match getA E t g st x with
    | some (.s b) => match getA E 0 g st ix with
      | some (.i _ n) => if 0 ≤ n ∧ kindIs E t 7 = true then (match b.data.toList[n.toNat]? with
        | some c => some (.v (.i .u8 c.toNat), st)
        | none => none) else none
      | _ => none
    | some (.ag cs) => match getA E 0 g st ix with
      | some (.i _ n) => match E.ti t with
        | some i => if 0 ≤ n ∧ n * sizeT E i.el < i.size ∧ 0 < sizeT E i.el ∧ i.kind = 2 then
            match partA E i.el cs (n.toNat * sizeT E i.el) with
            | some v => some (.v v, st)
            | none => none
          else none
        | none => none
      | _ => none
    | _ => none) := by rw [opV_eq]; rfl
theorem opV_lookup (t : _) (x : _) (ix : _) (ok : _) : opV E cfg g ⟨d, .lookup t x ix ok, ty, pos, af, gu⟩ st = (match getA E t g st x with
    | some m => match E.ti t with
      | some i => match E.ti i.el with
        | some e => match i.flds with
          | (kk, kt) :: _ => match getA E kt g st ix with
            | some k => bif keyIs kk k && Nat.beq i.kind 4 then
                match entries st m with
                | some es => match lookAV e k es with
                  | some (v, b) => match ok with
                    | true => some (.v (.tp [v, .b b]), st)
                    | false => some (.v v, st)
                  | none => none
                | none => none
              else none
            | none => none
          | [] => none
        | none => none
      | none => none
    | none => none) := by rw [opV_eq]; rfl
theorem opV_mapUpdate (t : _) (m : _) (k : _) (x : _) : opV E cfg g ⟨d, .mapUpdate t m k x, ty, pos, af, gu⟩ st = (match getA E t g st m with
    | some (.mp o) => match E.ti t with
      | some i => match i.flds with
        | (kk, kt) :: _ => match getA E kt g st k with
          | some k => bif keyIs kk k && Nat.beq i.kind 4 then
              match getA E i.el g st x with
              | some v => match st.heap[o]? with
                | some (.map es lvl) => match mset k v es with
                  | some es' => some (.v (.tp []), { st with heap := st.heap.set o (.map es' (Nat.max lvl (lev v))) })
                  | none => none
                | _ => none
              | none => none
            else none
          | none => none
        | [] => none
      | none => none
    | _ => none) := by rw [opV_eq]; rfl
theorem opV_extract (x : _) (i : _) : opV E cfg g ⟨d, .extract x i, ty, pos, af, gu⟩ st = (match getA E 0 g st x with
    | some (.tp vs) => match nth vs i with
      | some v => some (.v v, st)
      | none => none
    | _ => none) := by rw [opV_eq]; rfl
theorem opV_range (t : _) (x : _) : opV E cfg g ⟨d, .range t x, ty, pos, af, gu⟩ st = (match getA E t g st x with
    | some (.s s) => bif kindIs E t 7 then some (.v (.it st.heap.length), newObj (.sit s 0) st) else none
    | _ => none) := by rw [opV_eq]; rfl
theorem opV_next (x : _) (isString : _) : opV E cfg g ⟨d, .next x isString, ty, pos, af, gu⟩ st = (match getA E 0 g st x with
    | some (.it o) => match isString with
      | true => match st.heap[o]? with
        | some (.sit s pos) => if pos < s.size then
            some (.v (.tp [.b true, .i .i64 pos, .i .i32 (Utf8.decode s pos).1]), { st with heap := st.heap.set o (.sit s (pos + (Utf8.decode s pos).2)) })
          else some (.v (.tp [.b false]), st)
        | _ => none
      | false => none
    | _ => none) := by rw [opV_eq]; rfl
theorem opV_pick (c : Nat) (a b : Operand) : opV E cfg g ⟨d, .pick (.tmp c) a b, ty, pos, af, gu⟩ st = (match pickAV E c g st a b with
      | some v => some (.v v, st)
      | none => none) := by rw [opV_eq]; rfl
/-- a call's result, where it stands under a guard -/
def guardC (g : Gd) (f : FuncId) (p : Option (AV × St)) : Option (TV × St) :=
  match p with
  | some (r, st') => (match g with
    | none => some (.v r, st')
    | some _ => match E.fn f with
      | some fi => bif Nat.beq fi.mode 1 then some (.v r, st') else none
      | none => some (.v r, st'))
  | none => none
theorem guardC_none (f : FuncId) (r : AV) (st' : St) : guardC E none f (some (r, st')) = some (.v r, st') := rfl
theorem guardC_some (tw : Nat × Bool) (f : FuncId) (r : AV) (st' : St) : guardC E (some tw) f (some (r, st')) = (match E.fn f with
      | some fi => bif Nat.beq fi.mode 1 then some (.v r, st') else none
      | none => some (.v r, st')) := rfl
noncomputable def callC (g : Gd) (x : Option AV) (vs : Option (List AV)) (st : St) : Option (TV × St) :=
  match x with
  | some (.fn f caps) => match vs with
    | some vs => guardC E g f (callV E f (vs ++ caps) st)
    | none => none
  | _ => none
theorem callC_fn (g : Gd) (f : FuncId) (caps vs : List AV) (st : St) : callC E g (some (.fn f caps)) (some vs) st = guardC E g f (callV E f (vs ++ caps) st) := rfl
theorem opV_callv (x : Operand) (as : Array Operand) (ts : Array TypeId) : opV E cfg g ⟨d, .call ⟨.value x, as, ts⟩, ty, pos, af, gu⟩ st = callC E g (getA E 0 g st x) (getAs E g st as.toList ts.toList) st := by
  rw [opV_eq]
  simp only [callC]
  cases getA E 0 g st x with
  | none => rfl
  | some v =>
    cases v <;> try rfl
theorem opV_len (x : Operand) (t : TypeId) : opV E cfg g ⟨d, .call ⟨.builtin .len, #[x], #[t]⟩, ty, pos, af, gu⟩ st = (match E.ti t with
          | some i => match getA E t g st x with
            | some v => match lenAV st i.kind v with
              | some n => some (.v (.i .i64 n), st)
              | none => none
            | none => none
          | none => none) := by rw [opV_eq]; rfl
theorem opV_max (as : Array Operand) (ts : Array TypeId) : opV E cfg g ⟨d, .call ⟨.builtin .max, as, ts⟩, ty, pos, af, gu⟩ st = (match getAs E g st as.toList ts.toList with
        | some (x :: r) => match foldAV maxAV x r with
          | some v => some (.v v, st)
          | none => none
        | _ => none) := by rw [opV_eq]; rfl
theorem opV_min (as : Array Operand) (ts : Array TypeId) : opV E cfg g ⟨d, .call ⟨.builtin .min, as, ts⟩, ty, pos, af, gu⟩ st = (match getAs E g st as.toList ts.toList with
        | some (x :: r) => match foldAV minAV x r with
          | some v => some (.v v, st)
          | none => none
        | _ => none) := by rw [opV_eq]; rfl
theorem opV_append (x y : Operand) (t u : TypeId) : opV E cfg g ⟨d, .call ⟨.builtin .append, #[x, y], #[t, u]⟩, ty, pos, af, gu⟩ st = (match E.ti t with
          | some i => match E.ti i.el with
            | some e => match getA E t g st x with
              | some base => match getA E u g st y with
                | some new => bif Nat.beq i.kind 3 && kindIs E u 3 && Nat.blt 0 e.size && Nat.blt 0 e.bytes then
                    match elems e.size st new with
                    | some rows => match appendAV e.size e.bytes st base rows with
                      | some (st', v) => some (.v v, st')
                      | none => none
                    | none => none
                  else none
                | none => none
              | none => none
            | none => none
          | none => none) := by rw [opV_eq]; rfl
theorem opV_copy (x y : Operand) (t u : TypeId) : opV E cfg g ⟨d, .call ⟨.builtin .copy, #[x, y], #[t, u]⟩, ty, pos, af, gu⟩ st = (match E.ti t with
          | some i => match E.ti i.el with
            | some e => match getA E t g st x with
              | some dst => match getA E t g st y with
                | some src => bif Nat.beq i.kind 3 && Nat.blt 0 e.size then
                    match elems e.size st src with
                    | some rows => match copyAV e.size st dst rows with
                      | some (st', n) => some (.v (.i .i64 n), st')
                      | none => none
                    | none => none
                  else none
                | none => none
              | none => none
            | none => none
          | none => none) := by rw [opV_eq]; rfl
attribute [go_sem] opV_pick opV_callv opV_len opV_max opV_min opV_append opV_copy guardC_none guardC_some callC_fn opV_move opV_assign opV_alloc opV_box opV_build opV_buildSlice opV_load opV_store opV_nilCheck opV_binOp opV_unOp opV_convert opV_makeFunc opV_makeMap opV_makeSlice opV_slice opV_fieldAddr opV_field opV_indexAddr opV_index opV_lookup opV_mapUpdate opV_extract opV_range opV_next
end Go.Ex
