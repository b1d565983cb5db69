/- The evaluator of this proof, part 19. -/
import Derived.Test.YtfghngkiephakaaEng18
import Derived.IntWalk
set_option linter.unnecessarySimpa false
set_option linter.unusedVariables false
set_option linter.unusedSimpArgs false
set_option linter.unusedSectionVars false
set_option linter.deprecated false
/- What code comes to, as a statement: rules for simp. -/
set_option autoImplicit false
set_option linter.unusedVariables false
namespace Go.Ex

/-- something is there, and it is so -/
def optQ {α : Type} (o : Option α) (K : α → Prop) : Prop :=
  match o with
  | some a => K a
  | none => False
theorem optQ_some {α : Type} (a : α) (K : α → Prop) : optQ (some a) K = K a := rfl
theorem optQ_none {α : Type} (K : α → Prop) : optQ none K = False := rfl
theorem optQ_iff {α : Type} {o : Option α} {K : α → Prop} : optQ o K ↔ ∃ a, o = some a ∧ K a := by
  cases o with
  | none => simp [optQ]
  | some a => simp [optQ]
theorem optQ_mono {α : Type} {o : Option α} {K L : α → Prop} (h : optQ o K) (hk : ∀ a, K a → L a) : optQ o L := by
  cases o with
  | none => exact h
  | some a => exact hk a h

def condQ (v : Option AV) (A B : Prop) : Prop :=
  match v with
  | some (.b true) => A
  | some (.b false) => B
  | _ => False
theorem condQ_b (c : Bool) (A B : Prop) : condQ (some (.b c)) A B = ((c = true → A) ∧ (c = false → B)) := by
  cases c <;> simp [condQ]

variable (E : EP)
def EX (cfg : Cfg) (c : Code) (st : St) (Q : Ec → St → Prop) : Prop := optQ (execV E cfg c st) fun p => Q p.1 p.2
def OPS (cfg : Cfg) (kp : List Nat) (fork : Bool) (all l : List Oper) (st : St) (K : St → Prop) : Prop := optQ (opsV E cfg kp fork all l st) K
def seqQ (cfg : Cfg) (b : Code) (Q : Ec → St → Prop) (ec : Ec) (st : St) : Prop :=
  match ec with
  | .norm => EX E cfg b st Q
  | .exit id => Q (.exit id) st
  | .ret => Q .ret st
def blockQ (id : Nat) (Q : Ec → St → Prop) (ec : Ec) (st : St) : Prop :=
  match ec with
  | .norm => Q .norm st
  | .exit j => bif Nat.beq j id then Q .norm st else Q (.exit j) st
  | .ret => Q .ret st

theorem EX_skip (cfg : Cfg) (st : St) (Q : Ec → St → Prop) : EX E cfg .skip st Q = Q .norm st := by unfold EX; rw [execV_skip]; rfl
theorem EX_ret (cfg : Cfg) (st : St) (Q : Ec → St → Prop) : EX E cfg .ret st Q = Q .ret st := by unfold EX; rw [execV_ret]; rfl
theorem EX_exit (cfg : Cfg) (id : Nat) (st : St) (Q : Ec → St → Prop) : EX E cfg (.exit id) st Q = Q (.exit id) st := by unfold EX; rw [execV_exit]; rfl
theorem EX_seq (cfg : Cfg) (a b : Code) (st : St) (Q : Ec → St → Prop) : EX E cfg (.seq a b) st Q = EX E cfg a st (seqQ E cfg b Q) := by
  unfold EX
  rw [execV_seq]
  cases execV E cfg a st with
  | none => rfl
  | some p => obtain ⟨e, s⟩ := p; cases e <;> rfl
theorem seqQ_norm (cfg : Cfg) (b : Code) (Q : Ec → St → Prop) (st : St) : seqQ E cfg b Q .norm st = EX E cfg b st Q := rfl
theorem seqQ_ret (cfg : Cfg) (b : Code) (Q : Ec → St → Prop) (st : St) : seqQ E cfg b Q .ret st = Q .ret st := rfl
theorem seqQ_exit (cfg : Cfg) (b : Code) (Q : Ec → St → Prop) (id : Nat) (st : St) : seqQ E cfg b Q (.exit id) st = Q (.exit id) st := rfl
theorem EX_cond (cfg : Cfg) (x : Operand) (a b : Code) (st : St) (Q : Ec → St → Prop) : EX E cfg (.cond x a b) st Q = condQ (getA E 0 none st x) (EX E cfg a st Q) (EX E cfg b st Q) := by
  unfold EX
  rw [execV_cond]
  unfold condQ
  generalize getA E 0 none st x = v
  cases v with
  | none => rfl
  | some v =>
    cases v <;> try rfl
    rename_i y
    cases y <;> rfl
theorem EX_block (cfg : Cfg) (id : Nat) (c : Code) (st : St) (Q : Ec → St → Prop) : EX E cfg (.block id c) st Q = EX E cfg c st (blockQ id Q) := by
  unfold EX
  rw [execV_block]
  cases execV E cfg c st with
  | none => rfl
  | some p =>
    obtain ⟨e, s⟩ := p
    cases e with
    | norm => rfl
    | ret => rfl
    | exit j =>
      simp only [optQ, blockQ]
      cases Nat.beq j id <;> rfl
theorem blockQ_norm (id : Nat) (Q : Ec → St → Prop) (st : St) : blockQ id Q .norm st = Q .norm st := rfl
theorem blockQ_ret (id : Nat) (Q : Ec → St → Prop) (st : St) : blockQ id Q .ret st = Q .ret st := rfl
theorem blockQ_exit (id j : Nat) (Q : Ec → St → Prop) (st : St) : blockQ id Q (.exit j) st = (bif Nat.beq j id then Q .norm st else Q (.exit j) st) := rfl
theorem EX_scope (cfg : Cfg) (c : Code) (st : St) (Q : Ec → St → Prop) : EX E cfg (.scope c) st Q = EX E cfg c st Q := by unfold EX; rw [execV_scope]
theorem EX_region (cfg : Cfg) (id : Nat) (ops : Array Oper) (d : Bool) (st : St) (Q : Ec → St → Prop) :
    EX E cfg (.region id ops d) st Q = (bif !d || drawChk cfg ops.toList st.vals st.locs then OPS E cfg (kpOf cfg id) (elemN cfg.fork id) ops.toList ops.toList { st with tl := [] } (Q .norm) else False) := by
  unfold EX OPS
  rw [execV_region]
  cases (!d || drawChk cfg ops.toList st.vals st.locs) with
  | false => rfl
  | true =>
    simp only [cond_true]
    cases opsV E cfg (kpOf cfg id) (elemN cfg.fork id) ops.toList ops.toList { st with tl := [] } <;> rfl
theorem OPS_nil (cfg : Cfg) (kp : List Nat) (fork : Bool) (all : List Oper) (st : St) (K : St → Prop) : OPS E cfg kp fork all [] st K = K st := by unfold OPS; rw [opsV_nil]; rfl

/-- an operation under a guard that is decided -/
def forkQ (v : Option TV) (w : Bool) (A B : Prop) : Prop :=
  match v with
  | some (.v (.b x)) => bif x == w then A else B
  | some (.v (.tp [])) => B
  | _ => False
theorem forkQ_b (x w : Bool) (A B : Prop) : forkQ (some (.v (.b x))) w A B = ((x = w → A) ∧ (x = (!w) → B)) := by
  cases x <;> cases w <;> simp [forkQ]
theorem forkQ_u (w : Bool) (A B : Prop) : forkQ (some (.v (.tp []))) w A B = B := rfl

def opsQ (cfg : Cfg) (kp : List Nat) (fork : Bool) (all : List Oper) (o : Oper) (r : List Oper) (st : St) (K : St → Prop) (g : Option Gd) : Prop :=
  match g with
  | none => False
  | some none => optQ (opV E cfg none o st) fun p => OPS E cfg kp fork all r (putTV kp o.dst p.1 p.2) K
  | some (some (t, w)) => bif fork then forkQ (getG none st t) w (optQ (opV E cfg none o st) fun p => OPS E cfg kp fork all r (putTV kp o.dst p.1 p.2) K) (OPS E cfg kp fork all r (putTV kp o.dst (.v (.tp [])) st) K)
    else bif plainOp cfg o then optQ (opV E cfg (some (t, w)) o st) (fun p => optQ (putC kp o.dst (t, w) p.1 p.2) fun s => OPS E cfg kp fork all r s K) else False

theorem OPS_cons (cfg : Cfg) (kp : List Nat) (fork : Bool) (all : List Oper) (o : Oper) (r : List Oper) (st : St) (K : St → Prop) :
    OPS E cfg kp fork all (o :: r) st K = opsQ E cfg kp fork all o r st K (guardOf all o) := by
  unfold OPS
  rw [opsV_cons]
  unfold opsQ
  generalize guardOf all o = gg
  cases gg with
  | none => rfl
  | some gg =>
    cases gg with
    | none => simp only; cases opV E cfg none o st <;> rfl
    | some tw =>
      obtain ⟨t, w⟩ := tw
      cases fork with
      | true =>
        simp only [cond_true]
        unfold forkQ
        generalize getG none st t = v
        cases v with
        | none => rfl
        | some v =>
          cases v with
          | p l off => rfl
          | v v =>
            cases v <;> try rfl
            · rename_i x
              simp only
              cases hxw : (x == w) with
              | true => simp only [cond_true]; cases opV E cfg none o st <;> rfl
              | false => simp only [cond_false]; rfl
            · rename_i vs
              cases vs <;> rfl
      | false =>
        simp only [cond_false]
        cases plainOp cfg o with
        | false => rfl
        | true =>
          simp only [cond_true]
          cases opV E cfg (some (t, w)) o st with
          | none => rfl
          | some p =>
            obtain ⟨x, s⟩ := p
            simp only [optQ]
            cases putC kp o.dst (t, w) x s <;> rfl
theorem opsQ_none (cfg : Cfg) (kp : List Nat) (fork : Bool) (all : List Oper) (o : Oper) (r : List Oper) (st : St) (K : St → Prop) :
    opsQ E cfg kp fork all o r st K (some none) = optQ (opV E cfg none o st) fun p => OPS E cfg kp fork all r (putTV kp o.dst p.1 p.2) K := rfl
theorem opsQ_fork (cfg : Cfg) (kp : List Nat) (all : List Oper) (o : Oper) (r : List Oper) (st : St) (K : St → Prop) (t : Nat) (w : Bool) :
    opsQ E cfg kp true all o r st K (some (some (t, w))) = forkQ (getG none st t) w (optQ (opV E cfg none o st) fun p => OPS E cfg kp true all r (putTV kp o.dst p.1 p.2) K) (OPS E cfg kp true all r (putTV kp o.dst (.v (.tp [])) st) K) := rfl
theorem opsQ_plain (cfg : Cfg) (kp : List Nat) (all : List Oper) (o : Oper) (r : List Oper) (st : St) (K : St → Prop) (t : Nat) (w : Bool) :
    opsQ E cfg kp false all o r st K (some (some (t, w))) = (bif plainOp cfg o then optQ (opV E cfg (some (t, w)) o st) (fun p => optQ (putC kp o.dst (t, w) p.1 p.2) fun s => OPS E cfg kp false all r s K) else False) := rfl

theorem EX_mono {cfg : Cfg} {c : Code} {st : St} {Q R : Ec → St → Prop} (h : EX E cfg c st Q) (hq : ∀ e s, Q e s → R e s) : EX E cfg c st R := optQ_mono h fun p hp => hq _ _ hp

/-- a loop, by what holds ahead of each round and a number that falls -/
theorem EX_loop {cfg : Cfg} {c : Code} {Q : Ec → St → Prop} (I : Nat → St → Prop) (hr : ∀ n st, I n st → EX E cfg c { st with tl := [] } fun ec st' =>
      match ec with
      | .norm => ∃ m, m < n ∧ I m ⟨keepK st.vals st'.vals, keepK st.locs st'.locs, st'.heap, []⟩
      | .exit id => Q (.exit id) st'
      | .ret => Q .ret st') : ∀ {n : Nat} {st : St}, I n st → EX E cfg (.loop c) st Q := by
  intro n
  induction n using Nat.strongRecOn with
  | _ n ih =>
    intro st h
    have := hr n st h
    unfold EX at this ⊢
    rw [execV_loop]
    cases he : execV E cfg c { st with tl := [] } with
    | none => rw [he] at this; exact this.elim
    | some p =>
      obtain ⟨e, s⟩ := p
      rw [he] at this
      cases e with
      | norm =>
        obtain ⟨m, hm, hi⟩ := this
        exact ih m hm hi
      | exit id => exact this
      | ret => exact this

/-- a function's run -/
def FN (f : FuncId) (args : List AV) (h : List OB) (R : AV → List OB → Prop) : Prop := optQ (runFV E f args h) fun p => R p.1 p.2
theorem FN_enter {f : FuncId} {args : List AV} {h : List OB} {R : AV → List OB → Prop} {fi : FI} (hf : E.fn f = some fi)
    (he : EX E fi.cfg fi.body ⟨argVals 0 args, [], h, []⟩ fun ec st => match ec with
      | .exit _ => False
      | _ => optQ (resultsOf E fi.results st) fun r => R r st.heap) : FN E f args h R := by
  unfold FN
  rw [runFV_eq, hf]
  simp only
  unfold EX at he
  cases hx : execV E fi.cfg fi.body ⟨argVals 0 args, [], h, []⟩ with
  | none => rw [hx] at he; exact he.elim
  | some p =>
    obtain ⟨e, s⟩ := p
    rw [hx] at he
    cases e with
    | exit id => exact he.elim
    | norm =>
      simp only [optQ] at he
      cases hr : resultsOf E fi.results s with
      | none => rw [hr] at he; exact he.elim
      | some r => rw [hr] at he; simpa [optQ, hr] using he
    | ret =>
      simp only [optQ] at he
      cases hr : resultsOf E fi.results s with
      | none => rw [hr] at he; exact he.elim
      | some r => rw [hr] at he; simpa [optQ, hr] using he

theorem FN_eq {f : FuncId} {args : List AV} {h : List OB} {R : AV → List OB → Prop} (H : FN E f args h R) : ∃ r h', runFV E f args h = some (r, h') ∧ R r h' := by
  obtain ⟨p, h1, h2⟩ := optQ_iff.1 H
  exact ⟨p.1, p.2, h1, h2⟩

/-- a call of a function that runs by itself, its arguments without the caller's memory -/
theorem call1 {f : FuncId} {args : List AV} {st : St} {x : AV} {fi : FI} (hf : E.fn f = some fi) (hm : fi.mode = 1) (hl : mapO (ro st.heap 8) args = some args) (hlev : Nat.ble (lev.levs args) 1 = true)
    (H : FN E f args [] fun r h' => ro h' 8 r = some x) : callV E f args st = some (x, st) := by
  obtain ⟨r, h', h1, h2⟩ := FN_eq E H
  rw [callV_eq, hf]
  simp only [hm]
  have h0 : Nat.beq 1 0 = false := rfl
  rw [h0]
  simp only [cond_false, hl, h1, hlev, Bool.not_true, result, h2, Bool.not_false, Bool.true_or, cond_true]

theorem optQ_bsel {α : Type} (c : Bool) (A B : Option α) (K : α → Prop) : optQ (bsel c A B) K = ((c = true → optQ A K) ∧ (c = false → optQ B K)) := by cases c <;> simp [bsel]
noncomputable def opsG (cfg : Cfg) (kp : List Nat) (fork : Bool) (all : List Oper) (o : Oper) (r : List Oper) (st : St) (g : Option Gd) : Option St :=
  match g with
  | none => none
  | some none => obind2 (opV E cfg none o st) fun x s => opsV E cfg kp fork all r (putTV kp o.dst x s)
  | some (some (t, w)) => bif fork then
      match getG none st t with
      | some (.v (.b x)) => bsel (x == w) (obind2 (opV E cfg none o st) fun x s => opsV E cfg kp fork all r (putTV kp o.dst x s)) (opsV E cfg kp fork all r (putTV kp o.dst (.v (.tp [])) st))
      | some (.v (.tp [])) => opsV E cfg kp fork all r (putTV kp o.dst (.v (.tp [])) st)
      | _ => none
    else bif plainOp cfg o then obind2 (opV E cfg (some (t, w)) o st) (fun x s' => obind (putC kp o.dst (t, w) x s') fun s => opsV E cfg kp fork all r s) else none
theorem opsV_cons2 (cfg : Cfg) (kp : List Nat) (fork : Bool) (all : List Oper) (o : Oper) (r : List Oper) (st : St) : opsV E cfg kp fork all (o :: r) st = opsG E cfg kp fork all o r st (guardOf all o) := by
  rw [opsV_cons]
  unfold opsG
  generalize guardOf all o = gg
  cases gg with
  | none => rfl
  | some gg =>
    cases gg with
    | none => simp only; cases opV E cfg none o st <;> rfl
    | some tw =>
      obtain ⟨t, w⟩ := tw
      cases fork with
      | true =>
        simp only [cond_true]
        generalize getG none st t = v
        cases v with
        | none => rfl
        | some v =>
          cases v with
          | p l off => rfl
          | v v =>
            cases v <;> try rfl
            · rename_i x
              simp only
              cases hxw : (x == w) with
              | true => simp only [cond_true, bsel_t]; cases opV E cfg none o st <;> rfl
              | false => simp only [cond_false, bsel_f]
            · rename_i vs
              cases vs <;> rfl
      | false =>
        simp only [cond_false]
        cases plainOp cfg o with
        | false => rfl
        | true =>
          simp only [cond_true]
          cases opV E cfg (some (t, w)) o st with
          | none => rfl
          | some p =>
            obtain ⟨x, s⟩ := p
            simp only [obind2, obind]
            cases putC kp o.dst (t, w) x s <;> rfl
theorem opsG_none (cfg : Cfg) (kp : List Nat) (fork : Bool) (all : List Oper) (o : Oper) (r : List Oper) (st : St) :
    opsG E cfg kp fork all o r st (some none) = obind2 (opV E cfg none o st) fun x s => opsV E cfg kp fork all r (putTV kp o.dst x s) := rfl
def forkV (v : Option TV) (w : Bool) (A B : Option St) : Option St :=
  match v with
  | some (.v (.b x)) => bsel (x == w) A B
  | some (.v (.tp [])) => B
  | _ => none
theorem forkV_b (x w : Bool) (A B : Option St) : forkV (some (.v (.b x))) w A B = bsel (x == w) A B := rfl
theorem forkV_bt (x : Bool) (A B : Option St) : forkV (some (.v (.b x))) true A B = bsel x A B := by cases x <;> rfl
theorem forkV_bf (x : Bool) (A B : Option St) : forkV (some (.v (.b x))) false A B = bsel x B A := by cases x <;> rfl
theorem forkV_u (w : Bool) (A B : Option St) : forkV (some (.v (.tp []))) w A B = B := rfl
theorem opsG_fork (cfg : Cfg) (kp : List Nat) (all : List Oper) (o : Oper) (r : List Oper) (st : St) (t : Nat) (w : Bool) :
    opsG E cfg kp true all o r st (some (some (t, w))) = forkV (getG none st t) w (obind2 (opV E cfg none o st) fun x s => opsV E cfg kp true all r (putTV kp o.dst x s)) (opsV E cfg kp true all r (putTV kp o.dst (.v (.tp [])) st)) := rfl
theorem opsG_plain (cfg : Cfg) (kp : List Nat) (all : List Oper) (o : Oper) (r : List Oper) (st : St) (t : Nat) (w : Bool) :
    opsG E cfg kp false all o r st (some (some (t, w))) = bsel (plainOp cfg o) (obind2 (opV E cfg (some (t, w)) o st) (fun x s' => obind (putC kp o.dst (t, w) x s') fun s => opsV E cfg kp false all r s)) none := rfl
theorem EX_region2 (cfg : Cfg) (id : Nat) (ops : Array Oper) (d : Bool) (st : St) (Q : Ec → St → Prop) :
    EX E cfg (.region id ops d) st Q = optQ (bsel (!d || drawChk cfg ops.toList st.vals st.locs) (opsV E cfg (kpOf cfg id) (elemN cfg.fork id) ops.toList ops.toList { st with tl := [] }) none) (Q .norm) := by
  rw [EX_region]
  unfold OPS
  cases (!d || drawChk cfg ops.toList st.vals st.locs) <;> rfl
theorem optQ_bif {α : Type} (c : Bool) (a b : Option α) (K : α → Prop) : optQ (bif c then a else b) K = ((c = true → optQ a K) ∧ (c = false → optQ b K)) := by
  cases c <;> simp
theorem optQ_congr {α : Type} {o o' : Option α} (h : o = o') (K : α → Prop) : optQ o K = optQ o' K := by rw [h]
theorem forkV_congr {v v' : Option TV} (h : v = v') (w : Bool) (A B : Option St) : forkV v w A B = forkV v' w A B := by rw [h]
theorem opsG_congr {cfg : Cfg} {kp : List Nat} {fork : Bool} {all : List Oper} {o : Oper} {r : List Oper} {st : St} {g g' : Option Gd} (h : g = g') : opsG E cfg kp fork all o r st g = opsG E cfg kp fork all o r st g' := by rw [h]
theorem condQ_congr {v v' : Option AV} (h : v = v') (A B : Prop) : condQ v A B = condQ v' A B := by rw [h]
theorem EX_congr {cfg : Cfg} {c : Code} {st st' : St} (h : st = st') (Q : Ec → St → Prop) : EX E cfg c st Q = EX E cfg c st' Q := by rw [h]
theorem OPS_congr {cfg : Cfg} {kp : List Nat} {fork : Bool} {all l : List Oper} {st st' : St} (h : st = st') (K : St → Prop) : OPS E cfg kp fork all l st K = OPS E cfg kp fork all l st' K := by rw [h]
theorem opsQ_congr {cfg : Cfg} {kp : List Nat} {fork : Bool} {all : List Oper} {o : Oper} {r : List Oper} {st : St} {K : St → Prop} {g g' : Option Gd} (h : g = g') : opsQ E cfg kp fork all o r st K g = opsQ E cfg kp fork all o r st K g' := by rw [h]
theorem forkQ_congr {v v' : Option TV} (h : v = v') (w : Bool) (A B : Prop) : forkQ v w A B = forkQ v' w A B := by rw [h]
theorem bif_congr {α : Type} {b b' : Bool} (h : b = b') (x y : α) : (bif b then x else y) = bif b' then x else y := by rw [h]
theorem seqQ_congr {cfg : Cfg} {b : Code} {Q : Ec → St → Prop} {ec ec' : Ec} (h : ec = ec') (st : St) : seqQ E cfg b Q ec st = seqQ E cfg b Q ec' st := by rw [h]
theorem condQ_t (A B : Prop) : condQ (some (.b true)) A B = A := rfl
theorem condQ_f (A B : Prop) : condQ (some (.b false)) A B = B := rfl
theorem imp_tf (A : Prop) : (true = false → A) = True := by simp
theorem imp_ft (A : Prop) : (false = true → A) = True := by simp
theorem imp_tt (A : Prop) : (true = true → A) = A := by simp
theorem imp_ff (A : Prop) : (false = false → A) = A := by simp
attribute [go_sem high] condQ_t condQ_f
attribute [go_sem ↓] imp_tf imp_ft imp_tt imp_ff
theorem bif_congr2 {α : Type} {b b' : Bool} (h : b = b') (x y : α) : (bif b then x else y) = bif b' then x else y := by rw [h]
attribute [congr] bif_congr2 optQ_congr condQ_congr EX_congr forkV_congr opsG_congr
attribute [go_sem] optQ_bsel opsV_cons2 opsG_none opsG_fork opsG_plain forkV_bt forkV_bf forkV_u
attribute [go_sem] optQ_some optQ_none optQ_bif condQ_b EX_skip EX_ret EX_exit EX_seq seqQ_norm seqQ_ret seqQ_exit EX_cond EX_block blockQ_norm blockQ_ret blockQ_exit EX_scope EX_region2
end Go.Ex
/- Loops that count; calls; small rules. -/
set_option autoImplicit false
set_option linter.unusedVariables false
namespace Go.Ex

def setV : List (Nat × AV) → List (Nat × TV) → List (Nat × TV)
  | [], L => L
  | (t, x) :: r, L => setV r (aset (.v x) L t)
def setL : List (Nat × List AV) → List (Nat × List AV) → List (Nat × List AV)
  | [], L => L
  | (t, x) :: r, L => setL r (aset x L t)
/-- the state st, but for those temporaries, those local variables, and that heap -/
def upd (st : St) (vs : List (Nat × AV)) (ls : List (Nat × List AV)) (H : List OB) : St := ⟨setV vs st.vals, setL ls st.locs, H, []⟩

/-- what holds behind a round -/
def roundQ (st0 : St) (nxt : St → Prop) (Q : Ec → St → Prop) (ec : Ec) (st' : St) : Prop :=
  match ec with
  | .norm => nxt ⟨keepK st0.vals st'.vals, keepK st0.locs st'.locs, st'.heap, []⟩
  | .exit id => Q (.exit id) st'
  | .ret => Q .ret st'
theorem roundQ_norm (st0 : St) (nxt : St → Prop) (Q : Ec → St → Prop) (st' : St) : roundQ st0 nxt Q .norm st' = nxt ⟨keepK st0.vals st'.vals, keepK st0.locs st'.locs, st'.heap, []⟩ := rfl
theorem roundQ_exit (st0 : St) (nxt : St → Prop) (Q : Ec → St → Prop) (id : Nat) (st' : St) : roundQ st0 nxt Q (.exit id) st' = Q (.exit id) st' := rfl
theorem roundQ_ret (st0 : St) (nxt : St → Prop) (Q : Ec → St → Prop) (st' : St) : roundQ st0 nxt Q .ret st' = Q .ret st' := rfl

variable (E : EP)

theorem EX_loop_tl (cfg : Cfg) (c : Code) (st : St) (Q : Ec → St → Prop) : EX E cfg (.loop c) st Q = EX E cfg (.loop c) { st with tl := [] } Q := by
  unfold EX
  rw [execV_loop, execV_loop E cfg c { st with tl := [] }]
/-- a loop whose state hangs on s -/
theorem EX_while {σ : Type} {cfg : Cfg} {c : Code} {Q : Ec → St → Prop} {st0 : St} (vs : σ → List (Nat × AV)) (ls : σ → List (Nat × List AV)) (hp : σ → List OB) (Inv : Nat → σ → Prop) {n0 : Nat} {s0 : σ} (h0 : Inv n0 s0)
    (hst : upd st0 (vs s0) (ls s0) (hp s0) = { st0 with tl := [] })
    (hr : ∀ n s, Inv n s → EX E cfg c (upd st0 (vs s) (ls s) (hp s)) (roundQ (upd st0 (vs s) (ls s) (hp s)) (fun st' => ∃ m s', m < n ∧ Inv m s' ∧ st' = upd st0 (vs s') (ls s') (hp s')) Q)) : EX E cfg (.loop c) st0 Q := by
  rw [EX_loop_tl]
  refine EX_loop E (fun n st => ∃ s, Inv n s ∧ st = upd st0 (vs s) (ls s) (hp s)) (fun n st h => ?_) (n := n0) (st := { st0 with tl := [] }) ⟨s0, h0, hst.symm⟩
  obtain ⟨s, hi, rfl⟩ := h
  refine EX_mono E (hr n s hi) fun e st' hq => ?_
  cases e with
  | norm =>
    obtain ⟨m, s', h1, h2, h3⟩ := hq
    exact ⟨m, h1, s', h2, h3⟩
  | exit id => exact hq
  | ret => exact hq

/-- a loop that counts from 0 to n; P: what is known ahead of round k -/
theorem EX_for {cfg : Cfg} {c : Code} {Q : Ec → St → Prop} {st0 : St} (n : Nat) (vs : Nat → List (Nat × AV)) (ls : Nat → List (Nat × List AV)) (hp : Nat → List OB) (P : Nat → Prop) (h0 : P 0) (hst : upd st0 (vs 0) (ls 0) (hp 0) = { st0 with tl := [] })
    (hr : ∀ k, k ≤ n → P k → EX E cfg c (upd st0 (vs k) (ls k) (hp k)) (roundQ (upd st0 (vs k) (ls k) (hp k)) (fun st' => k < n ∧ P (k + 1) ∧ st' = upd st0 (vs (k + 1)) (ls (k + 1)) (hp (k + 1))) Q)) : EX E cfg (.loop c) st0 Q := by
  refine EX_while E vs ls hp (fun m k => k ≤ n ∧ P k ∧ m = n - k) (n0 := n - 0) (s0 := 0) ⟨Nat.zero_le _, h0, rfl⟩ hst fun m k hi => ?_
  obtain ⟨h1, h2, rfl⟩ := hi
  refine EX_mono E (hr k h1 h2) fun e st' hq => ?_
  cases e with
  | norm =>
    obtain ⟨k1, k2, k3⟩ := hq
    exact ⟨n - (k + 1), k + 1, by omega, ⟨by omega, k2, rfl⟩, k3⟩
  | exit id => exact hq
  | ret => exact hq

theorem le_refl_dec (n : Nat) : decide (n ≤ n) = true := by simp
theorem take_len {α : Type} (l : List α) : l.take l.length = l := List.take_of_length_le (Nat.le_refl _)
theorem take_map_len {α β : Type} (f : α → β) (l : List α) : (l.map f).take l.length = l.map f := List.take_of_length_le (by simp)
attribute [go_sem] le_refl_dec take_len take_map_len Nat.zero_add List.drop_zero
attribute [go_sem] setV setL upd roundQ_norm roundQ_exit roundQ_ret

/-- one round more -/
theorem EX_round (cfg : Cfg) (c : Code) (st : St) (Q : Ec → St → Prop) : EX E cfg (.loop c) st Q = EX E cfg c { st with tl := [] } (roundQ st (fun st' => EX E cfg (.loop c) st' Q) Q) := by
  unfold EX
  rw [execV_loop]
  cases execV E cfg c { st with tl := [] } with
  | none => rfl
  | some p => obtain ⟨e, s⟩ := p; cases e <;> rfl

theorem icast (n : Nat) : ((no_index (OfNat.ofNat n) : Nat) : Int) = (OfNat.ofNat n : Int) := rfl
theorem row_zero (x : List AV) (r : List (List AV)) : row? (x :: r) 0 = some x := rfl
theorem row_nat (r : List (List AV)) (k : Nat) : row? r (k : Int) = r[k]? := by
  unfold row?
  rw [if_pos (by omega)]; simp
theorem row_lit (r : List (List AV)) (k : Nat) : row? r (no_index (OfNat.ofNat k : Int)) = r[k]? := row_nat r k
/-- a row that is there -/
theorem row_map {α : Type} (en : α → List AV) (l : List α) (k : Nat) (h : k < l.length) : row? (l.map en) (k : Int) = some (en l[k]) := by
  unfold row?
  rw [if_pos (by omega)]
  simp [h]
theorem nmax0 (n : Nat) : Nat.max 0 n = n := Nat.zero_max n
theorem nmax0' (n : Nat) : Nat.max n 0 = n := Nat.max_zero n
theorem nmax11 : Nat.max 1 1 = 1 := rfl
theorem nmax12 : Nat.max 1 2 = 2 := rfl
theorem nmax21 : Nat.max 2 1 = 2 := rfl
theorem nmax22 : Nat.max 2 2 = 2 := rfl
theorem ble00 : decide ((0 : Nat) ≤ 1) = true := rfl
theorem ble11 : decide ((1 : Nat) ≤ 1) = true := rfl
theorem dec_and (p q : Prop) [Decidable p] [Decidable q] : (decide p && decide q) = decide (p ∧ q) := by simp
theorem dec_or (p q : Prop) [Decidable p] [Decidable q] : (decide p || decide q) = decide (p ∨ q) := by simp
theorem dec_not (p : Prop) [Decidable p] : (!decide p) = decide (¬ p) := by simp
attribute [go_sem] decide_true decide_false bne_self_eq_false icast row_lit row_zero nmax0 nmax0' nmax11 nmax12 nmax21 nmax22 ble00 ble11
theorem wrap64 {x : Int} (h1 : -9223372036854775808 ≤ x) (h2 : x ≤ 9223372036854775807) : IntKind.i64.wrap x = x := by
  exact IntWalk.i64_in x ⟨h1, h2⟩
theorem wrap64_succ {k n : Nat} (hk : k < n) (hn : n ≤ 9223372036854775807) : IntKind.i64.wrap ((k : Int) + 1) = ((k + 1 : Nat) : Int) := by
  rw [wrap64 (by omega) (by omega)]; rfl
end Go.Ex
