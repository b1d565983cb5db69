/- The evaluator of this proof, part 04. -/
import Derived.Test.YtfghngkiephakaaEng03
set_option linter.unnecessarySimpa false
set_option linter.unusedVariables false
set_option linter.unusedSimpArgs false
set_option linter.unusedSectionVars false
set_option linter.deprecated false
/- The evaluator's equations, without fuel. -/
set_option autoImplicit false
namespace Go.Ex
variable (E : EP)

theorem execV_of {E : EP} {cfg : Cfg} {c : Code} {st : St} {k : Nat} {r : Ec × St} (h : exec E k cfg c st = some r) : execV E cfg c st = some r := (execV_some E).2 ⟨k, h⟩

theorem opt_ext {α : Type} {a b : Option α} (h : ∀ r, a = some r ↔ b = some r) : a = b := by
  cases b with
  | none => cases a with
    | none => rfl
    | some x => exact absurd ((h x).1 rfl) (by simp)
  | some y => exact (h y).2 rfl

theorem execV_skip (cfg : Cfg) (st : St) : execV E cfg .skip st = some (.norm, st) := execV_of (k := 1) (by rw [exec])
theorem execV_exit (cfg : Cfg) (id : Nat) (st : St) : execV E cfg (.exit id) st = some (.exit id, st) := execV_of (k := 1) (by rw [exec])
theorem execV_ret (cfg : Cfg) (st : St) : execV E cfg .ret st = some (.ret, st) := execV_of (k := 1) (by rw [exec])

theorem execV_region (cfg : Cfg) (id : Nat) (ops : Array Oper) (d : Bool) (st : St) :
    execV E cfg (.region id ops d) st = match !d || drawChk cfg ops.toList st.vals st.locs with
      | true => match opsV E cfg (kpOf cfg id) (elemN cfg.fork id) ops.toList ops.toList { st with tl := [] } with
        | some st' => some (.norm, st')
        | none => none
      | false => none := by
  refine opt_ext fun r => ?_
  rw [execV_some]
  cases hd : (!d || drawChk cfg ops.toList st.vals st.locs) with
  | false =>
    constructor
    · rintro ⟨k, h⟩
      cases k with
      | zero => simp [exec] at h
      | succ k => rw [exec] at h; simp [hd] at h
    · intro h; cases h
  | true =>
    simp only
    constructor
    · rintro ⟨k, h⟩
      cases k with
      | zero => simp [exec] at h
      | succ k =>
        rw [exec] at h
        simp only [hd] at h
        cases hr : runOps E k cfg (kpOf cfg id) (elemN cfg.fork id) ops.toList ops.toList { st with tl := [] } with
        | none => simp [hr] at h
        | some p => rw [(opsV_some E).2 ⟨k, hr⟩]; rw [hr] at h; exact h
    · intro h
      cases hr : opsV E cfg (kpOf cfg id) (elemN cfg.fork id) ops.toList ops.toList { st with tl := [] } with
      | none => simp [hr] at h
      | some p =>
        obtain ⟨k, hk⟩ := (opsV_some E).1 hr
        refine ⟨k + 1, ?_⟩
        rw [exec]
        simp only [hd, hk]; rw [hr] at h; exact h

theorem execV_seq (cfg : Cfg) (a b : Code) (st : St) :
    execV E cfg (.seq a b) st = match execV E cfg a st with
      | some (.norm, st') => execV E cfg b st'
      | r => r := by
  refine opt_ext fun r => ?_
  rw [execV_some]
  constructor
  · rintro ⟨k, h⟩
    cases k with
    | zero => simp [exec] at h
    | succ k =>
      rw [exec] at h
      cases ha : exec E k cfg a st with
      | none => simp [ha] at h
      | some p =>
        rw [execV_of ha]; rw [ha] at h
        obtain ⟨e, st'⟩ := p
        cases e <;> first | exact h | exact execV_of h
  · intro h
    cases ha : execV E cfg a st with
    | none => simp [ha] at h
    | some p =>
      obtain ⟨k, hk⟩ := (execV_some E).1 ha
      rw [ha] at h
      obtain ⟨e, st'⟩ := p
      cases e with
      | norm =>
        obtain ⟨j, hj⟩ := (execV_some E).1 (show execV E cfg b st' = some r from h)
        refine ⟨max k j + 1, ?_⟩
        rw [exec, fEx (Nat.le_max_left k j) hk]
        exact fEx (Nat.le_max_right k j) hj
      | exit id => exact ⟨k + 1, by rw [exec, hk]; exact h⟩
      | ret => exact ⟨k + 1, by rw [exec, hk]; exact h⟩

theorem execV_cond (cfg : Cfg) (x : Operand) (a b : Code) (st : St) :
    execV E cfg (.cond x a b) st = match getA E 0 none st x with
      | some (.b true) => execV E cfg a st
      | some (.b false) => execV E cfg b st
      | _ => none := by
  refine opt_ext fun r => ?_
  rw [execV_some]
  constructor
  · rintro ⟨k, h⟩
    cases k with
    | zero => simp [exec] at h
    | succ k =>
      rw [exec] at h
      split at h
      · rename_i hx; rw [hx]; exact execV_of h
      · rename_i hx; rw [hx]; exact execV_of h
      · simp at h
  · intro h
    split at h
    · rename_i hx; obtain ⟨k, hk⟩ := (execV_some E).1 h; exact ⟨k + 1, by rw [exec, hx]; exact hk⟩
    · rename_i hx; obtain ⟨k, hk⟩ := (execV_some E).1 h; exact ⟨k + 1, by rw [exec, hx]; exact hk⟩
    · simp at h

theorem execV_block (cfg : Cfg) (id : Nat) (c : Code) (st : St) :
    execV E cfg (.block id c) st = match execV E cfg c st with
      | some (.exit j, st') => bif Nat.beq j id then some (.norm, st') else some (.exit j, st')
      | r => r := by
  refine opt_ext fun r => ?_
  rw [execV_some]
  constructor
  · rintro ⟨k, h⟩
    cases k with
    | zero => simp [exec] at h
    | succ k =>
      rw [exec] at h
      cases ha : exec E k cfg c st with
      | none => simp [ha] at h
      | some p => rw [execV_of ha]; rw [ha] at h; exact h
  · intro h
    cases ha : execV E cfg c st with
    | none => simp [ha] at h
    | some p =>
      obtain ⟨k, hk⟩ := (execV_some E).1 ha
      rw [ha] at h
      exact ⟨k + 1, by rw [exec, hk]; exact h⟩

theorem execV_scope (cfg : Cfg) (c : Code) (st : St) : execV E cfg (.scope c) st = execV E cfg c st := by
  refine opt_ext fun r => ?_
  rw [execV_some]
  constructor
  · rintro ⟨k, h⟩
    cases k with
    | zero => simp [exec] at h
    | succ k => rw [exec] at h; exact execV_of h
  · intro h
    obtain ⟨k, hk⟩ := (execV_some E).1 h
    exact ⟨k + 1, by rw [exec]; exact hk⟩

theorem execV_loop (cfg : Cfg) (c : Code) (st : St) :
    execV E cfg (.loop c) st = match execV E cfg c { st with tl := [] } with
      | some (.norm, st') => execV E cfg (.loop c) ⟨keepK st.vals st'.vals, keepK st.locs st'.locs, st'.heap, []⟩
      | r => r := by
  refine opt_ext fun r => ?_
  rw [execV_some]
  constructor
  · rintro ⟨k, h⟩
    cases k with
    | zero => simp [exec] at h
    | succ k =>
      rw [exec] at h
      cases ha : exec E k cfg c { st with tl := [] } with
      | none => simp [ha] at h
      | some p =>
        rw [execV_of ha]; rw [ha] at h
        obtain ⟨e, st'⟩ := p
        cases e <;> first | exact h | exact execV_of h
  · intro h
    cases ha : execV E cfg c { st with tl := [] } with
    | none => simp [ha] at h
    | some p =>
      obtain ⟨k, hk⟩ := (execV_some E).1 ha
      rw [ha] at h
      obtain ⟨e, st'⟩ := p
      cases e with
      | norm =>
        obtain ⟨j, hj⟩ := (execV_some E).1 (show execV E cfg (.loop c) ⟨keepK st.vals st'.vals, keepK st.locs st'.locs, st'.heap, []⟩ = some r from h)
        refine ⟨max k j + 1, ?_⟩
        rw [exec, fEx (Nat.le_max_left k j) hk]
        exact fEx (Nat.le_max_right k j) hj
      | exit id => exact ⟨k + 1, by rw [exec, hk]; exact h⟩
      | ret => exact ⟨k + 1, by rw [exec, hk]; exact h⟩

theorem opsV_nil (cfg : Cfg) (kp : List Nat) (fork : Bool) (all : List Oper) (st : St) : opsV E cfg kp fork all [] st = some st := (opsV_some E).2 ⟨1, by rw [runOps]⟩

theorem opsV_cons (cfg : Cfg) (kp : List Nat) (fork : Bool) (all : List Oper) (o : Oper) (r : List Oper) (st : St) :
    opsV E cfg kp fork all (o :: r) st = match guardOf all o with
    | none => none
    | some none => match opV E cfg none o st with
      | some (x, st') => opsV E cfg kp fork all r (putTV kp o.dst x st')
      | none => none
    | some (some (t, w)) => match fork with
      | true => match getG none st t with
        | some (.v (.b x)) => bif x == w then
            (match opV E cfg none o st with
            | some (x, st') => opsV E cfg kp fork all r (putTV kp o.dst x st')
            | none => none)
          else opsV E cfg kp fork all r (putTV kp o.dst (.v (.tp [])) st)
        | some (.v (.tp [])) => opsV E cfg kp fork all r (putTV kp o.dst (.v (.tp [])) st)
        | _ => none
      | false => match plainOp cfg o with
        | true => match opV E cfg (some (t, w)) o st with
          | some (x, st') => match putC kp o.dst (t, w) x st' with
            | some st'' => opsV E cfg kp fork all r st''
            | none => none
          | none => none
        | false => none := by
  have two : ∀ (g : Gd) (K : TV × St → St) (z : St),
      (∃ k, (match runOp E k cfg g o st with | some (x, st') => runOps E k cfg kp fork all r (K (x, st')) | none => none) = some z) ↔
      (match opV E cfg g o st with | some (x, st') => opsV E cfg kp fork all r (K (x, st')) | none => none) = some z := by
    intro g K z
    constructor
    · rintro ⟨k, h⟩
      cases hr : runOp E k cfg g o st with
      | none => simp [hr] at h
      | some p => rw [(opV_some E).2 ⟨k, hr⟩]; rw [hr] at h; exact (opsV_some E).2 ⟨k, h⟩
    · intro h
      cases hr : opV E cfg g o st with
      | none => simp [hr] at h
      | some p =>
        obtain ⟨k, hk⟩ := (opV_some E).1 hr
        rw [hr] at h
        obtain ⟨j, hj⟩ := (opsV_some E).1 (show opsV E cfg kp fork all r (K (p.1, p.2)) = some z from h)
        refine ⟨max k j, ?_⟩
        rw [fOp (Nat.le_max_left k j) hk]
        exact fOps (Nat.le_max_right k j) hj
  refine opt_ext fun z => ?_
  rw [opsV, lim_shift (fun k r' => (monoAt E k).ops _ _ _ _ _ _ r')]
  simp only [runOps]
  cases hg : guardOf all o with
  | none => simp
  | some g =>
    cases g with
    | none => exact two none (fun p => putTV kp o.dst p.1 p.2) z
    | some tw =>
      obtain ⟨t, w⟩ := tw
      cases fork with
      | true =>
        simp only
        cases hx : getG none st t with
        | none => simp
        | some tv =>
          cases tv with
          | p l off => simp
          | v x =>
            cases x <;> try first | (simp; done) | (simp; exact Iff.rfl)
            case b x =>
              have h2 := two none (fun p => putTV kp o.dst p.1 p.2) z
              cases hb : (x == w) with
              | true => simp only [hb, cond_true]; exact h2
              | false => simp only [hb, cond_false]; exact (opsV_some E).symm
            case tp vs =>
              cases vs with
              | nil => exact (opsV_some E).symm
              | cons a b => simp
      | false =>
        simp only
        cases hp : plainOp cfg o with
        | false => simp
        | true =>
          simp only
          constructor
          · rintro ⟨k, h⟩
            cases hr : runOp E k cfg (some (t, w)) o st with
            | none => simp [hr] at h
            | some p =>
              rw [(opV_some E).2 ⟨k, hr⟩]; rw [hr] at h
              obtain ⟨x, st'⟩ := p
              simp only at h ⊢
              cases hq : putC kp o.dst (t, w) x st' with
              | none => simp [hq] at h
              | some st2 => simp only [hq] at h ⊢; exact (opsV_some E).2 ⟨k, h⟩
          · intro h
            cases hr : opV E cfg (some (t, w)) o st with
            | none => simp [hr] at h
            | some p =>
              obtain ⟨k, hk⟩ := (opV_some E).1 hr
              rw [hr] at h
              obtain ⟨x, st'⟩ := p
              simp only at h
              cases hq : putC kp o.dst (t, w) x st' with
              | none => simp [hq] at h
              | some st2 =>
                simp only [hq] at h
                obtain ⟨j, hj⟩ := (opsV_some E).1 h
                refine ⟨max k j, ?_⟩
                rw [fOp (Nat.le_max_left k j) hk]
                simp only [hq]
                exact fOps (Nat.le_max_right k j) hj

theorem opV_eq (cfg : Cfg) (g : Gd) (o : Oper) (st : St) :
    opV E cfg g o st = match o.op with
    | .pick (.tmp c) a b => match pickAV E c g st a b with
      | some v => some (.v v, st)
      | none => none
    | .call c => match c.callee with
      | .value x => match getA E 0 g st x with
        | some (.fn f caps) => match getAs E g st c.args.toList c.argTypes.toList with
          | some vs => match callV E f (vs ++ caps) st with
            | some (r, st') => (match g with
              | none => some (.v r, st')
              | some _ => match E.fn f with
                | some fi => bif Nat.beq fi.mode 1 then some (.v r, st') else none
                | none => some (.v r, st'))
            | none => none
          | none => none
        | _ => none
      | _ => stepOp E cfg g o st
    | _ => stepOp E cfg g o st := by
  refine opt_ext fun z => ?_
  rw [opV, lim_shift (fun k r' => (monoAt E k).op _ _ _ _ r')]
  simp only [runOp]
  cases ho : o.op <;> try first | (simp; done) | (simp; exact Iff.rfl)
  case pick c a b => cases c <;> first | (simp; done) | (simp; exact Iff.rfl)
  case call c =>
    simp only
    cases hc : c.callee <;> try first | (simp; done) | (simp; exact Iff.rfl)
    rename_i x
    simp only
    cases hx : getA E 0 g st x with
    | none => simp only [hx]; simp
    | some v =>
      cases v <;> try (first | (simp only [hx]; simp; done) | (simp only [hx]; simp; exact Iff.rfl))
      rename_i f caps
      simp only [hx]
      cases ha : getAs E g st c.args.toList c.argTypes.toList with
      | none => simp
      | some vs =>
        simp only
        constructor
        · rintro ⟨k, h⟩
          cases hr : callF E k f (vs ++ caps) st with
          | none => simp [hr] at h
          | some p => rw [callV_of E k hr]; rw [hr] at h; exact h
        · intro h
          cases hr : callV E f (vs ++ caps) st with
          | none => simp [hr] at h
          | some p =>
            obtain ⟨k, hk⟩ := (callV_some E).1 hr
            rw [hr] at h
            exact ⟨k, by rw [hk]; exact h⟩

theorem runFV_eq (f : FuncId) (args : List AV) (h : List OB) :
    runFV E f args h = match E.fn f with
    | some fi => match execV E fi.cfg fi.body ⟨argVals 0 args, [], h, []⟩ with
      | some (.norm, st) => (resultsOf E fi.results st).map fun r => (r, st.heap)
      | some (.ret, st) => (resultsOf E fi.results st).map fun r => (r, st.heap)
      | _ => none
    | none => none := by
  refine opt_ext fun z => ?_
  rw [runFV, lim_shift (fun k r' => (monoAt E k).f _ _ _ r')]
  simp only [runF]
  cases hf : E.fn f with
  | none => simp
  | some fi =>
    simp only
    constructor
    · rintro ⟨k, H⟩
      cases hr : exec E k fi.cfg fi.body ⟨argVals 0 args, [], h, []⟩ with
      | none => simp [hr] at H
      | some p => rw [execV_of hr]; rw [hr] at H; exact H
    · intro H
      cases hr : execV E fi.cfg fi.body ⟨argVals 0 args, [], h, []⟩ with
      | none => simp [hr] at H
      | some p =>
        obtain ⟨k, hk⟩ := (execV_some E).1 hr
        rw [hr] at H
        exact ⟨k, by rw [hk]; exact H⟩

theorem callV_eq (f : FuncId) (args : List AV) (st : St) :
    callV E f args st = match E.fn f with
      | some fi => bif Nat.beq fi.mode 0 then (match runFV E f args st.heap with
          | some (r, h) => some (r, { st with heap := h })
          | none => none)
        else (match mapO (ro st.heap 8) args with
          | some as => match runFV E f as [] with
            | some (r, h) => result fi.mode (!Nat.ble (lev.levs args) 1) r h st
            | none => none
          | none => none)
      | none => match mapO (ro st.heap 8) args with
        | some as => match E.ext f as with
          | some r => bif Nat.ble (lev.levs args) 1 || Nat.beq (lev r) 0 then some (r, st) else none
          | none => none
        | none => none := by
  refine opt_ext fun z => ?_
  rw [callV, lim_shift (fun k r' => (monoAt E k).c _ _ _ r')]
  simp only [callF]
  cases hf : E.fn f with
  | none => exact ⟨fun ⟨_, h⟩ => h, fun h => ⟨0, h⟩⟩
  | some fi =>
    simp only
    have one1 : ∀ (as : List AV) (h0 : List OB) (K : AV × List OB → Option (AV × St)),
        (∃ k, (match runF E k f as h0 with | some (r, h) => K (r, h) | none => none) = some z) ↔ (match runFV E f as h0 with | some (r, h) => K (r, h) | none => none) = some z := by
      intro as h0 K
      constructor
      · rintro ⟨k, h⟩
        cases hr : runF E k f as h0 with
        | none => simp [hr] at h
        | some p => rw [runFV_of E k hr]; rw [hr] at h; exact h
      · intro h
        cases hr : runFV E f as h0 with
        | none => simp [hr] at h
        | some p =>
          obtain ⟨k, hk⟩ := (runFV_some E).1 hr
          rw [hr] at h
          exact ⟨k, by rw [hk]; exact h⟩
    cases hm : Nat.beq fi.mode 0 with
    | true => exact one1 args st.heap (fun p => some (p.1, { st with heap := p.2 }))
    | false =>
      simp only [cond_false]
      cases ha : mapO (ro st.heap 8) args with
      | none => simp
      | some as => exact one1 as [] (fun p => result fi.mode (!Nat.ble (lev.levs args) 1) p.1 p.2 st)

end Go.Ex
