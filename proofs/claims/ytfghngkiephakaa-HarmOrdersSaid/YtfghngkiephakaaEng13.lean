/- The evaluator of this proof, part 13. -/
import Derived.Test.YtfghngkiephakaaEng12
set_option linter.unnecessarySimpa false
set_option linter.unusedVariables false
set_option linter.unusedSimpArgs false
set_option linter.unusedSectionVars false
set_option linter.deprecated false
/- What an operation looks at. -/
set_option autoImplicit false
set_option linter.unusedVariables false
set_option linter.unusedSectionVars false
namespace Go.Ex
open Go.RowKit

/-- two states tell the same of those temporaries -/
def AgreeT (T : List Operand) (st st2 : St) : Prop := ∀ t, Operand.tmp t ∈ T → getTV st t = getTV st2 t

section
variable {E : EP} {st st2 : St} {gd : Gd}

theorem getG_congr {t : Nat} (h : getTV st t = getTV st2 t) : getG gd st2 t = getG gd st t := by unfold getG; rw [h]

theorem getA_congr {T : List Operand} (h : AgreeT T st st2) {x : Operand} (hx : x ∈ T) (ty : Nat) (gd : Gd) : getA E ty gd st2 x = getA E ty gd st x := by
  cases x with
  | tmp t => simp only [getA, getG_congr (h t hx)]
  | const v => rfl
  | func f => rfl
  | global g => rfl

theorem getP_congr {T : List Operand} (h : AgreeT T st st2) {x : Operand} (hx : x ∈ T) (ty : Nat) (gd : Gd) : getP E ty gd st2 x = getP E ty gd st x := by
  cases x with
  | tmp t => simp only [getP, getG_congr (h t hx)]
  | const v => rfl
  | func f => rfl
  | global g => rfl

theorem getAs_congr {T : List Operand} (h : AgreeT T st st2) : ∀ {xs : List Operand} {ts : List Nat}, (∀ x ∈ xs, x ∈ T) → getAs E gd st2 xs ts = getAs E gd st xs ts
  | [], _, _ => rfl
  | x :: xs, ts, hx => by
    unfold getAs
    rw [getA_congr h (hx x (by simp)), getAs_congr h fun y hy => hx y (by simp [hy])]

theorem getParts_congr {T : List Operand} (h : AgreeT T st st2) {ty : Nat → Nat} : ∀ {ps : List (Nat × Operand)}, (∀ p ∈ ps, p.2 ∈ T) → getParts E gd st2 ty ps = getParts E gd st ty ps
  | [], _ => rfl
  | (i, x) :: ps, hx => by
    unfold getParts
    rw [getA_congr h (hx (i, x) (by simp)), getParts_congr h fun y hy => hx y (by simp [hy])]

theorem boundA_congr {T : List Operand} (h : AgreeT T st st2) {x : Option Operand} (hx : ∀ y, x = some y → y ∈ T) (d : Int) : boundA E gd st2 d x = boundA E gd st d x := by
  cases x with
  | none => rfl
  | some y => simp only [boundA, getA_congr h (hx y rfl)]

/-- memory as it is read: by what lies there alone -/
theorem loadAt_congr {t : Nat} {p : TV} (hl : st2.locs = st.locs) (hh : st2.heap = st.heap) : loadAt E t st2 p = loadAt E t st p := by
  unfold loadAt; rw [hl, hh]
theorem elems_congr {k : Nat} {x : AV} (hh : st2.heap = st.heap) : elems k st2 x = elems k st x := by
  cases x <;> simp only [elems, hh]
theorem lenAV_congr {k : Nat} {x : AV} (hh : st2.heap = st.heap) : lenAV st2 k x = lenAV st k x := by
  unfold lenAV; rw [hh]
theorem entries_congr {x : AV} (hh : st2.heap = st.heap) : entries st2 x = entries st x := by
  cases x <;> simp only [entries, hh]
theorem storeAt_congr {t : Nat} {x : AV} {p : TV} (hl : st2.locs = st.locs) (hh : st2.heap = st.heap) : storeAt E t st2 x p = (storeAt E t st x p).map fun s => { st2 with locs := s.locs, heap := s.heap } := by
  unfold storeAt
  rw [hl, hh]
  repeat' split
  all_goals first
    | rfl
    | (generalize (_ && _ : Bool) = b
       cases b
       · rfl
       · simp only [cond_true]; repeat' split
         all_goals first | rfl | (simp only [Option.map_some, hl, hh]))

theorem appendAV_congr {n b : Nat} {base : AV} {new : List (List AV)} (hl : st2.locs = st.locs) (hh : st2.heap = st.heap) : appendAV n b st2 base new = (appendAV n b st base new).map fun p => ({ st2 with locs := p.1.locs, heap := p.1.heap }, p.2) := by
  unfold appendAV
  cases base <;> simp only [newObj, hh, hl] <;> try rfl
  · rename_i m es clip
    generalize (clip && (bif es.isEmpty then true else Nat.beq m n && !new.isEmpty) && Nat.ble ((es.length + new.length) * b) 35184372088832) = c1
    cases c1
    · simp only [cond_false]
      generalize (Nat.beq m n && new.isEmpty && !es.isEmpty) = c2
      cases c2
      · rfl
      · simp only [cond_true, Option.map_some]; rw [← hl, ← hh]
    · rfl
  · repeat' split
    · generalize (_ && _ : Bool) = c
      cases c
      · rfl
      · simp only [cond_true]
        generalize (Nat.beq _ _ : Bool) = c1
        cases c1
        · simp only [cond_false]
          generalize (Nat.ble _ _ : Bool) = c2
          cases c2 <;> rfl
        · rfl
    · rfl

theorem copyAV_congr {n : Nat} {dst : AV} {new : List (List AV)} (hl : st2.locs = st.locs) (hh : st2.heap = st.heap) : copyAV n st2 dst new = (copyAV n st dst new).map fun p => ({ st2 with locs := p.1.locs, heap := p.1.heap }, p.2) := by
  unfold copyAV
  cases dst <;> simp only [hh, hl] <;> try rfl
  repeat' split
  · generalize (_ && _ : Bool) = c
    cases c <;> rfl
  · rfl

theorem sliceAV_congr {T : List Operand} (h : AgreeT T st st2) {gd : Gd} {k n : Nat} {x : AV} {lo hi mx : Option Operand} (h1 : ∀ y, lo = some y → y ∈ T) (h2 : ∀ y, hi = some y → y ∈ T) (h3 : ∀ y, mx = some y → y ∈ T) (hh : st2.heap = st.heap) : sliceAV E gd st2 k n x lo hi mx = sliceAV E gd st k n x lo hi mx := by
  unfold sliceAV
  simp only [boundA_congr h h1, boundA_congr h h2, boundA_congr h h3, hh]

end
end Go.Ex
/- An operation does the same in states that tell the same. -/
set_option autoImplicit false
set_option linter.unusedVariables false
set_option linter.unusedSectionVars false
namespace Go.Ex
open Go.RowKit
section
variable {E : EP} {st st2 st1 : St} {gd : Gd} {cfg : Cfg} {o : Oper} {x : TV}

/-- the second state with what the operation has turned in the first -/
def put2 (st2 st1 : St) : St := { st2 with locs := st1.locs, heap := st1.heap }

theorem put2_self (hl : st2.locs = st.locs) (hh : st2.heap = st.heap) : put2 st2 st = st2 := by
  unfold put2; rw [← hl, ← hh]

/-- does the operation make a local variable? -/
def locOp (cfg : Cfg) (o : Oper) : Bool :=
  match o.op with
  | .alloc _ => match o.dst with | some d => elemN cfg.loc d | none => false
  | .box _ _ => match o.dst with | some d => elemN cfg.loc d | none => false
  | _ => false

theorem stepOp_congr (hA : AgreeT o.op.operands.toList st st2) (hl : st2.locs = st.locs) (hh : st2.heap = st.heap) (hn : locOp cfg o = false) (hs : stepOp E cfg gd o st = some (x, st1)) : stepOp E cfg gd o st2 = some (x, put2 st2 st1) := by
  have hself := put2_self hl hh
  have hm : ∀ y, y ∈ o.op.operands → y ∈ o.op.operands.toList := fun y hy => by simpa using hy
  cases hop : o.op <;> simp only [stepOp, hop] at hs ⊢ <;> try (cases hs; done)
  case move y =>
    rw [getP_congr hA (x := y) (by simp [hop, Op.operands])]
    split at hs
    · rename_i v hv; cases hs; simp only [hv, hself]
    · cases hs
  case store t y z =>
    rw [getP_congr hA (x := y) (by simp [hop, Op.operands]), getA_congr hA (x := z) (by simp [hop, Op.operands])]
    split at hs
    · rename_i p hp
      cases hso : storeOk cfg y p with
      | false => rw [hso] at hs; cases hs
      | true =>
      simp only [hso] at hs ⊢
      split at hs
      · rename_i v hv
        split at hs
        · rename_i s1 hst
          cases hs
          simp only [hp, hv, hso, storeAt_congr hl hh, hst, Option.map_some]; rfl
        · cases hs
      · cases hs
    · cases hs
  case assign y =>
    have hg := getP_congr (E := E) hA (x := y) (by simp [hop, Op.operands]) o.type gd
    have gen : (match getP E o.type gd st y with | some v => some (v, st) | none => none) = some (x, st1) → (match getP E o.type gd st2 y with | some v => some (v, st2) | none => none) = some (x, put2 st2 st1) := by
      intro h
      rw [hg]
      split at h
      · rename_i v hv; cases h; simp only [hself]
      · cases h
    split at hs
    · rename_i d hd
      cases hb : elemN cfg.own d with
      | false =>
        rw [hb] at hs
        simp only [hd, hb, cond_false] at hs ⊢
        exact gen hs
      | true =>
        rw [hb] at hs
        simp only [hd, hb, cond_true] at hs ⊢
        split at hs
        · cases hs; simp only [newObj, put2, hh, hl]
        · rename_i hne
          have hg2 := gen hs
          exact hg2
    · cases hs
  case load t y =>
    try simp only [cond_eq_ite] at hs ⊢
    simp only [getP_congr hA (x := y) (by simp [hop, Op.operands]), loadAt_congr hl hh, entries_congr hh, hl, hh]
    repeat' split at hs
    all_goals first
      | (cases hs; done)
      | (cases hs; simp_all [newObj, put2])
  case nilCheck y =>
    try simp only [cond_eq_ite] at hs ⊢
    simp only [getP_congr hA (x := y) (by simp [hop, Op.operands]), loadAt_congr hl hh, entries_congr hh, hl, hh]
    repeat' split at hs
    all_goals first
      | (cases hs; done)
      | (cases hs; simp_all [newObj, put2])
  case binOp op t y z u =>
    try simp only [cond_eq_ite] at hs ⊢
    simp only [getA_congr hA (x := y) (by simp [hop, Op.operands]), getA_congr hA (x := z) (by simp [hop, Op.operands]), loadAt_congr hl hh, entries_congr hh, hl, hh]
    repeat' split at hs
    all_goals first
      | (cases hs; done)
      | (cases hs; simp_all [newObj, put2])
  case unOp op t y =>
    try simp only [cond_eq_ite] at hs ⊢
    simp only [getA_congr hA (x := y) (by simp [hop, Op.operands]), loadAt_congr hl hh, entries_congr hh, hl, hh]
    repeat' split at hs
    all_goals first
      | (cases hs; done)
      | (cases hs; simp_all [newObj, put2])
  case convert s d y =>
    try simp only [cond_eq_ite] at hs ⊢
    simp only [getA_congr hA (x := y) (by simp [hop, Op.operands]), loadAt_congr hl hh, entries_congr hh, hl, hh]
    repeat' split at hs
    all_goals first
      | (cases hs; done)
      | (cases hs; simp_all [newObj, put2])
  case makeMap t r =>
    try simp only [cond_eq_ite] at hs ⊢
    simp only [loadAt_congr hl hh, entries_congr hh, hl, hh]
    repeat' split at hs
    all_goals first
      | (cases hs; done)
      | (cases hs; simp_all [newObj, put2])
  case makeSlice t y z =>
    try simp only [cond_eq_ite] at hs ⊢
    simp only [getA_congr hA (x := y) (by simp [hop, Op.operands]), getA_congr hA (x := z) (by simp [hop, Op.operands]), loadAt_congr hl hh, entries_congr hh, hl, hh]
    repeat' split at hs
    all_goals first
      | (cases hs; done)
      | (cases hs; simp_all [newObj, put2])
  case fieldAddr t y f =>
    try simp only [cond_eq_ite] at hs ⊢
    simp only [getP_congr hA (x := y) (by simp [hop, Op.operands]), loadAt_congr hl hh, entries_congr hh, hl, hh]
    repeat' split at hs
    all_goals first
      | (cases hs; done)
      | (cases hs; simp_all [newObj, put2])
  case field t y f =>
    try simp only [cond_eq_ite] at hs ⊢
    simp only [getA_congr hA (x := y) (by simp [hop, Op.operands]), loadAt_congr hl hh, entries_congr hh, hl, hh]
    repeat' split at hs
    all_goals first
      | (cases hs; done)
      | (cases hs; simp_all [newObj, put2])
  case indexAddr t y z =>
    try simp only [cond_eq_ite] at hs ⊢
    simp only [getA_congr hA (x := y) (by simp [hop, Op.operands]), getP_congr hA (x := y) (by simp [hop, Op.operands]), getA_congr hA (x := z) (by simp [hop, Op.operands]), loadAt_congr hl hh, entries_congr hh, hl, hh]
    repeat' split at hs
    all_goals first
      | (cases hs; done)
      | (cases hs; simp_all [newObj, put2])
  case index t y z =>
    try simp only [cond_eq_ite] at hs ⊢
    simp only [getA_congr hA (x := y) (by simp [hop, Op.operands]), getA_congr hA (x := z) (by simp [hop, Op.operands]), loadAt_congr hl hh, entries_congr hh, hl, hh]
    repeat' split at hs
    all_goals first
      | (cases hs; done)
      | (cases hs; simp_all [newObj, put2])
  case lookup t y z ok =>
    try simp only [cond_eq_ite] at hs ⊢
    simp only [getA_congr hA (x := y) (by simp [hop, Op.operands]), getA_congr hA (x := z) (by simp [hop, Op.operands]), loadAt_congr hl hh, entries_congr hh, hl, hh]
    repeat' split at hs
    all_goals first
      | (cases hs; done)
      | (cases hs; simp_all [newObj, put2])
  case mapUpdate t y z u =>
    try simp only [cond_eq_ite] at hs ⊢
    simp only [getA_congr hA (x := y) (by simp [hop, Op.operands]), getA_congr hA (x := z) (by simp [hop, Op.operands]), getA_congr hA (x := u) (by simp [hop, Op.operands]), loadAt_congr hl hh, entries_congr hh, hl, hh]
    repeat' split at hs
    all_goals first
      | (cases hs; done)
      | (cases hs; simp_all [newObj, put2])
  case range t y =>
    try simp only [cond_eq_ite] at hs ⊢
    simp only [getA_congr hA (x := y) (by simp [hop, Op.operands]), loadAt_congr hl hh, entries_congr hh, hl, hh]
    repeat' split at hs
    all_goals first
      | (cases hs; done)
      | (cases hs; simp_all [newObj, put2])
  case next y b =>
    try simp only [cond_eq_ite] at hs ⊢
    simp only [getA_congr hA (x := y) (by simp [hop, Op.operands]), loadAt_congr hl hh, entries_congr hh, hl, hh]
    repeat' split at hs
    all_goals first
      | (cases hs; done)
      | (cases hs; simp_all [newObj, put2])
  case extract y k =>
    try simp only [cond_eq_ite] at hs ⊢
    simp only [getA_congr hA (x := y) (by simp [hop, Op.operands]), loadAt_congr hl hh, entries_congr hh, hl, hh]
    repeat' split at hs
    all_goals first
      | (cases hs; done)
      | (cases hs; simp_all [newObj, put2])
  case alloc t =>
    simp only [locOp, hop] at hn
    try simp only [cond_eq_ite] at hs ⊢
    simp only [loadAt_congr hl hh, entries_congr hh, hl, hh]
    repeat' split at hs
    all_goals first
      | (cases hs; done)
      | (cases hs; simp_all [newObj, put2])
  case box t y =>
    simp only [locOp, hop] at hn
    try simp only [cond_eq_ite] at hs ⊢
    simp only [getA_congr hA (x := y) (by simp [hop, Op.operands]), loadAt_congr hl hh, entries_congr hh, hl, hh]
    repeat' split at hs
    all_goals first
      | (cases hs; done)
      | (cases hs; simp_all [newObj, put2])
  case build t ps =>
    try simp only [cond_eq_ite] at hs ⊢
    simp only [getParts_congr hA (ps := ps.toList) (fun p hp => by simp only [hop, Op.operands]; simp only [List.mem_map]; exact ⟨p, hp, rfl⟩), loadAt_congr hl hh, entries_congr hh, hl, hh]
    repeat' split at hs
    all_goals first
      | (cases hs; done)
      | (cases hs; simp_all [newObj, put2])
  case buildSlice t n ps =>
    try simp only [cond_eq_ite] at hs ⊢
    simp only [getParts_congr hA (ps := ps.toList) (fun p hp => by simp only [hop, Op.operands]; simp only [List.mem_map]; exact ⟨p, hp, rfl⟩), loadAt_congr hl hh, entries_congr hh, hl, hh]
    repeat' split at hs
    all_goals first
      | (cases hs; done)
      | (cases hs; simp_all [newObj, put2])
  case makeFunc fn fs cs =>
    try simp only [cond_eq_ite] at hs ⊢
    simp only [getAs_congr hA (xs := cs.toList) (fun p hp => by simp only [hop, Op.operands]; simp at hp ⊢; exact Or.inr hp), loadAt_congr hl hh, entries_congr hh, hl, hh]
    repeat' split at hs
    all_goals first
      | (cases hs; done)
      | (cases hs; simp_all [newObj, put2])
  case slice t y lo hi mx =>
    try simp only [cond_eq_ite] at hs ⊢
    simp only [getA_congr hA (x := y) (by simp [hop, Op.operands]), sliceAV_congr hA (lo := lo) (hi := hi) (mx := mx) (fun z hz => by subst hz; simp [hop, Op.operands]) (fun z hz => by subst hz; simp [hop, Op.operands]) (fun z hz => by subst hz; simp [hop, Op.operands]) hh, loadAt_congr hl hh, entries_congr hh, hl, hh]
    repeat' split at hs
    all_goals first
      | (cases hs; done)
      | (cases hs; simp_all [newObj, put2])
  case call c =>
    have hA' : ∀ y, y ∈ c.args.toList → ∀ ty gd, getA E ty gd st2 y = getA E ty gd st y := fun y hy ty gd => getA_congr hA (by
      simp only [hop, Op.operands, Call.operands, Array.toList_append]
      exact List.mem_append_right _ hy) ty gd
    have hAs : ∀ ts gd, getAs E gd st2 c.args.toList ts = getAs E gd st c.args.toList ts := fun ts gd => getAs_congr hA fun y hy => by
      simp only [hop, Op.operands, Call.operands, Array.toList_append]
      exact List.mem_append_right _ hy
    split at hs
    · rename_i b hc
      split at hs
      · split at hs
        · rename_i y t ha ht
          have h1 := hA' y (by rw [ha]; simp)
          simp only [hc, ha, ht, h1, lenAV_congr hh]
          repeat' split at hs
          all_goals first | (cases hs; done) | (cases hs; simp_all)
        · cases hs
      · simp only [hc, hAs]
        repeat' split at hs
        all_goals first | (cases hs; done) | (cases hs; simp_all)
      · simp only [hc, hAs]
        repeat' split at hs
        all_goals first | (cases hs; done) | (cases hs; simp_all)
      · split at hs
        · rename_i y z t u r ha ht
          have h1 := hA' y (by rw [ha]; simp)
          have h2 := hA' z (by rw [ha]; simp)
          simp only [hc, ha, ht, h1, h2, elems_congr hh, appendAV_congr hl hh, cond_eq_ite] at hs ⊢
          repeat' split at hs
          all_goals first | (cases hs; done) | (cases hs; simp_all [put2])
        · cases hs
      · split at hs
        · rename_i y z t r ha ht
          have h1 := hA' y (by rw [ha]; simp)
          have h2 := hA' z (by rw [ha]; simp)
          simp only [hc, ha, ht, h1, h2, elems_congr hh, copyAV_congr hl hh, cond_eq_ite] at hs ⊢
          repeat' split at hs
          all_goals first | (cases hs; done) | (cases hs; simp_all [put2])
        · cases hs
      · cases hs
    · cases hs

end
end Go.Ex
/- Calls, regions' operations, local variables: the same in states that tell the same. -/
set_option autoImplicit false
set_option linter.unusedVariables false
set_option linter.unusedSectionVars false
namespace Go.Ex
section
variable {E : EP} {st st2 st1 : St} {gd : Gd} {cfg : Cfg} {o : Oper} {x : TV}

theorem callF_congr {n : Nat} {f : FuncId} {args : List AV} {r : AV} (hl : st2.locs = st.locs) (hh : st2.heap = st.heap) (hc : callF E n f args st = some (r, st1)) : callF E n f args st2 = some (r, put2 st2 st1) := by
  have hself := put2_self hl hh
  have hres : ∀ {mode dirty v h'}, result mode dirty v h' st = some (r, st1) → result mode dirty v h' st2 = some (r, put2 st2 st1) := by
    intro mode dirty v h' h
    unfold result at h ⊢
    simp only [cond_eq_ite] at h ⊢
    repeat' split at h
    all_goals first
      | (cases h; done)
      | (cases h; simp_all [newObj, put2])
  cases n with
  | zero => simp [callF] at hc
  | succ n =>
    rw [callF] at hc ⊢
    cases hf : E.fn f with
    | some fi =>
      simp only [hf] at hc ⊢
      cases hm : Nat.beq fi.mode 0 with
      | true =>
        simp only [hm, cond_true, hh] at hc ⊢
        split at hc
        · rename_i r' h' hr; cases hc; rw [put2, ← hl]
        · cases hc
      | false =>
        simp only [hm, cond_false, hh] at hc ⊢
        split at hc
        · rename_i as has
          split at hc
          · exact hres hc
          · cases hc
        · cases hc
    | none =>
      simp only [hf, hh] at hc ⊢
      split at hc
      · rename_i as has
        split at hc
        · rename_i r' hx
          have hq := bif_some hc
          clear hc
          obtain ⟨hb, hc⟩ := hq
          cases hc
          simp only [hb, cond_true, hself]
        · cases hc
      · cases hc

theorem pickAV_congr {T : List Operand} (h : AgreeT T st st2) {c : Nat} {y z : Operand} (hc : Operand.tmp c ∈ T) (hy : y ∈ T) (hz : z ∈ T) : pickAV E c gd st2 y z = pickAV E c gd st y z := by
  unfold pickAV
  simp only [getG_congr (h c hc), getA_congr h hy, getA_congr h hz]

theorem runOp_congr {n : Nat} (hA : AgreeT o.op.operands.toList st st2) (hl : st2.locs = st.locs) (hh : st2.heap = st.heap) (hn : locOp cfg o = false) (hr : runOp E n cfg gd o st = some (x, st1)) : runOp E n cfg gd o st2 = some (x, put2 st2 st1) := by
  have hself := put2_self hl hh
  have hgen := fun h => stepOp_congr (E := E) (gd := gd) (x := x) (st1 := st1) hA hl hh hn h
  cases n with
  | zero => simp [runOp] at hr
  | succ n =>
    rw [runOp] at hr ⊢
    cases hop : o.op <;> simp only [hop] at hr ⊢ <;> try exact hgen hr
    case pick c y z =>
      cases c <;> simp only at hr ⊢ <;> try exact hgen hr
      rename_i t
      rw [pickAV_congr hA (by simp [hop, Op.operands]) (by simp [hop, Op.operands]) (by simp [hop, Op.operands])]
      split at hr
      · rename_i v hv; cases hr; simp only [hself]
      · cases hr
    case call c =>
      cases hc : c.callee <;> simp only [hc] at hr ⊢ <;> try exact hgen hr
      rename_i y
      have h1 : getA E 0 gd st2 y = getA E 0 gd st y := getA_congr hA (by simp [hop, Op.operands, Call.operands, hc]) 0 gd
      have h2 : ∀ ts, getAs E gd st2 c.args.toList ts = getAs E gd st c.args.toList ts := fun ts => getAs_congr hA fun y hy => by
        simp only [hop, Op.operands, Call.operands, Array.toList_append]
        exact List.mem_append_right _ hy
      rw [h1]
      split at hr
      · rename_i f caps hf
        rw [h2]
        split at hr
        · rename_i vs hvs
          split at hr
          · rename_i r s1 hcall
            simp only [callF_congr hl hh hcall]
            cases gd with
            | none => simp only at hr ⊢; cases hr; rfl
            | some gw =>
              simp only at hr ⊢
              split at hr
              · rename_i fi hfi
                have hq := bif_some hr
                clear hr
                obtain ⟨hb, hr⟩ := hq
                cases hr
                simp only [hb, cond_true]
              · cases hr; rfl
          · cases hr
        · cases hr
      · cases hr

end
end Go.Ex
