/- The evaluator of this proof, part 03. -/
import Derived.Test.YtfghngkiephakaaEng02
set_option linter.unnecessarySimpa false
set_option linter.unusedVariables false
set_option linter.unusedSimpArgs false
set_option linter.unusedSectionVars false
set_option linter.deprecated false
/- The evaluator without fuel: what it comes to with enough of it; its equations. -/
set_option autoImplicit false
namespace Go.Ex
variable (E : EP)

/-- more fuel, the same answer -/
structure MonoAt (k : Nat) : Prop where
  f : ∀ f args h r, runF E k f args h = some r → runF E (k + 1) f args h = some r
  c : ∀ f args st r, callF E k f args st = some r → callF E (k + 1) f args st = some r
  ops : ∀ cfg kp fork all l st r, runOps E k cfg kp fork all l st = some r → runOps E (k + 1) cfg kp fork all l st = some r
  op : ∀ cfg g o st r, runOp E k cfg g o st = some r → runOp E (k + 1) cfg g o st = some r
  ex : ∀ cfg c st r, exec E k cfg c st = some r → exec E (k + 1) cfg c st = some r

theorem mono_zero : MonoAt E 0 := by
  constructor <;> intros <;> simp [runF, callF, runOps, runOp, exec] at *

theorem mono_f {k : Nat} (ih : MonoAt E k) (f : FuncId) (args : List AV) (h : List OB) (r : AV × List OB) (H : runF E (k + 1) f args h = some r) : runF E (k + 2) f args h = some r := by
  rw [runF] at H ⊢
  cases hf : E.fn f with
  | none => simp [hf] at H
  | some fi =>
    simp only [hf] at H ⊢
    cases he : exec E k fi.cfg fi.body ⟨argVals 0 args, [], h, []⟩ with
    | none => simp [he] at H
    | some p => rw [ih.ex _ _ _ _ he]; rw [he] at H; exact H

theorem mono_c {k : Nat} (ih : MonoAt E k) (f : FuncId) (args : List AV) (st : St) (r : AV × St) (H : callF E (k + 1) f args st = some r) : callF E (k + 2) f args st = some r := by
  rw [callF] at H ⊢
  · cases hf : E.fn f with
    | none => simp only [hf] at H ⊢; exact H
    | some fi =>
      simp only [hf] at H ⊢
      cases hm : Nat.beq fi.mode 0 with
      | true =>
        simp only [hm, cond_true] at H ⊢
        cases hr : runF E k f args st.heap with
        | none => simp [hr] at H
        | some p => rw [ih.f _ _ _ _ hr]; rw [hr] at H; exact H
      | false =>
        simp only [hm, cond_false] at H ⊢
        cases ha : mapO (ro st.heap 8) args with
        | none => simp [ha] at H
        | some as =>
          simp only [ha] at H ⊢
          cases hr : runF E k f as [] with
          | none => simp [hr] at H
          | some p => rw [ih.f _ _ _ _ hr]; rw [hr] at H; exact H

theorem mono_op {k : Nat} (ih : MonoAt E k) (cfg : Cfg) (g : Gd) (o : Oper) (st : St) (r : TV × St) (H : runOp E (k + 1) cfg g o st = some r) : runOp E (k + 2) cfg g o st = some r := by
  rw [runOp] at H ⊢
  cases ho : o.op <;> simp only [ho] at H ⊢ <;> try exact H
  case pick c a b => cases c <;> dsimp only at H ⊢ <;> exact H
  case call c =>
    cases hc : c.callee <;> simp only [hc] at H ⊢ <;> try exact H
    rename_i x
    cases hx : getA E 0 g st x with
    | none => simp [hx] at H
    | some v =>
      cases v <;> simp only [hx] at H ⊢ <;> try (first | exact H | simp at H)
      rename_i f caps
      cases ha : getAs E g st c.args.toList c.argTypes.toList with
      | none => simp [ha] at H
      | some vs =>
        simp only [ha] at H ⊢
        cases hr : callF E k f (vs ++ caps) st with
        | none => simp [hr] at H
        | some p => rw [ih.c _ _ _ _ hr]; rw [hr] at H; exact H

theorem mono_ops {k : Nat} (ih : MonoAt E k) (cfg : Cfg) (kp : List Nat) (fork : Bool) (all l : List Oper) (st r : St) (H : runOps E (k + 1) cfg kp fork all l st = some r) : runOps E (k + 2) cfg kp fork all l st = some r := by
  cases l with
  | nil => rw [runOps] at H ⊢; exact H
  | cons o rest =>
    rw [runOps] at H ⊢
    cases hg : guardOf all o with
    | none => simp [hg] at H
    | some g =>
      cases g with
      | none =>
        simp only [hg] at H ⊢
        cases hr : runOp E k cfg none o st with
        | none => simp [hr] at H
        | some p => rw [ih.op _ _ _ _ _ hr]; rw [hr] at H; exact ih.ops _ _ _ _ _ _ _ H
      | some tw =>
        obtain ⟨t, w⟩ := tw
        simp only [hg] at H ⊢
        cases fork with
        | true =>
          cases hx : getG none st t with
          | none => simp [hx] at H
          | some tv =>
            cases tv with
            | p l off => simp [hx] at H
            | v x =>
              cases x <;> simp only [hx] at H ⊢ <;> try (exfalso; simp at H; done)
              case b x =>
                cases hb : (x == w) with
                | true =>
                  simp only [hb, cond_true] at H ⊢
                  cases hr : runOp E k cfg none o st with
                  | none => simp [hr] at H
                  | some p => rw [ih.op _ _ _ _ _ hr]; rw [hr] at H; exact ih.ops _ _ _ _ _ _ _ H
                | false => simp only [hb, cond_false] at H ⊢; exact ih.ops _ _ _ _ _ _ _ H
              case tp vs =>
                cases vs with
                | nil => exact ih.ops _ _ _ _ _ _ _ H
                | cons a b => simp at H
        | false =>
          cases hp : plainOp cfg o with
          | false => simp [hp] at H
          | true =>
            simp only [hp] at H ⊢
            cases hr : runOp E k cfg (some (t, w)) o st with
            | none => simp [hr] at H
            | some p =>
              rw [ih.op _ _ _ _ _ hr]; rw [hr] at H
              obtain ⟨x, st'⟩ := p
              simp only at H ⊢
              cases hp : putC kp o.dst (t, w) x st' with
              | none => simp [hp] at H
              | some st2 => simp only [hp] at H ⊢; exact ih.ops _ _ _ _ _ _ _ H

theorem mono_ex {k : Nat} (ih : MonoAt E k) (cfg : Cfg) (c : Code) (st : St) (r : Ec × St) (H : exec E (k + 1) cfg c st = some r) : exec E (k + 2) cfg c st = some r := by
  cases c
  case skip => rw [exec] at H ⊢; exact H
  case exit => rw [exec] at H ⊢; exact H
  case ret => rw [exec] at H ⊢; exact H
  case rangeFunc => simp [exec] at H
  case label => simp [exec] at H
  case goto => simp [exec] at H
  case refuse => simp [exec] at H
  case region id ops d =>
    rw [exec] at H ⊢
    cases hd : (!d || drawChk cfg ops.toList st.vals st.locs) with
    | false => simp [hd] at H
    | true =>
      simp only [hd] at H ⊢
      cases hr : runOps E k cfg (kpOf cfg id) (elemN cfg.fork id) ops.toList ops.toList { st with tl := [] } with
      | none => simp [hr] at H
      | some p => rw [ih.ops _ _ _ _ _ _ _ hr]; rw [hr] at H; exact H
  case seq a b =>
    rw [exec] at H ⊢
    cases ha : exec E k cfg a st with
    | none => simp [ha] at H
    | some p =>
      rw [ih.ex _ _ _ _ ha]; rw [ha] at H
      obtain ⟨e, st'⟩ := p
      cases e <;> first | exact H | exact ih.ex _ _ _ _ H
  case cond x a b =>
    rw [exec] at H ⊢
    split at H
    · exact ih.ex _ _ _ _ H
    · exact ih.ex _ _ _ _ H
    · simp at H
  case block id c =>
    rw [exec] at H ⊢
    cases ha : exec E k cfg c st with
    | none => simp [ha] at H
    | some p => rw [ih.ex _ _ _ _ ha]; rw [ha] at H; exact H
  case loop c =>
    rw [exec] at H ⊢
    cases ha : exec E k cfg c { st with tl := [] } with
    | none => simp [ha] at H
    | some p =>
      rw [ih.ex _ _ _ _ ha]; rw [ha] at H
      obtain ⟨e, st'⟩ := p
      cases e <;> first | exact H | exact ih.ex _ _ _ _ H
  case scope c => rw [exec] at H ⊢; exact ih.ex _ _ _ _ H

theorem monoAt : ∀ k, MonoAt E k
  | 0 => mono_zero E
  | k + 1 => ⟨mono_f E (monoAt k), mono_c E (monoAt k), mono_ops E (monoAt k), mono_op E (monoAt k), mono_ex E (monoAt k)⟩

/-- what a row of answers comes to -/
noncomputable def lim {α : Type} (F : Nat → Option α) : Option α :=
  open Classical in if h : ∃ k r, F k = some r then F h.choose else none

theorem lim_some {α : Type} {F : Nat → Option α} (hm : ∀ k r, F k = some r → F (k + 1) = some r) {r : α} : lim F = some r ↔ ∃ k, F k = some r := by
  have up : ∀ d k r, F k = some r → F (k + d) = some r := by
    intro d; induction d with
    | zero => intro k r h; exact h
    | succ d ih => intro k r h; exact hm _ _ (ih k r h)
  unfold lim
  constructor
  · intro h
    split at h
    · exact ⟨_, h⟩
    · cases h
  · rintro ⟨k, hk⟩
    rw [dif_pos ⟨k, r, hk⟩]
    have hx : ∃ k r, F k = some r := ⟨k, r, hk⟩
    obtain ⟨r', hr'⟩ := hx.choose_spec
    rw [hr']
    have h1 := up k _ _ hr'
    have h2 := up hx.choose _ _ hk
    rw [Nat.add_comm, h2] at h1
    exact h1.symm

theorem lim_shift {α : Type} {F : Nat → Option α} (hm : ∀ k r, F k = some r → F (k + 1) = some r) {r : α} : lim F = some r ↔ ∃ k, F (k + 1) = some r := by
  rw [lim_some hm]
  exact ⟨fun ⟨k, h⟩ => ⟨k, hm _ _ h⟩, fun ⟨k, h⟩ => ⟨_, h⟩⟩

theorem up {α : Type} {F : Nat → Option α} (hm : ∀ k r, F k = some r → F (k + 1) = some r) {j k : Nat} (hj : j ≤ k) {r : α} (h : F j = some r) : F k = some r := by
  obtain ⟨d, rfl⟩ := Nat.exists_eq_add_of_le hj
  induction d with
  | zero => exact h
  | succ d ih => exact hm _ _ (ih (by omega))

noncomputable def runFV (f : FuncId) (args : List AV) (h : List OB) : Option (AV × List OB) := lim fun k => runF E k f args h
noncomputable def callV (f : FuncId) (args : List AV) (st : St) : Option (AV × St) := lim fun k => callF E k f args st
noncomputable def opsV (cfg : Cfg) (kp : List Nat) (fork : Bool) (all l : List Oper) (st : St) : Option St := lim fun k => runOps E k cfg kp fork all l st
noncomputable def opV (cfg : Cfg) (g : Gd) (o : Oper) (st : St) : Option (TV × St) := lim fun k => runOp E k cfg g o st
noncomputable def execV (cfg : Cfg) (c : Code) (st : St) : Option (Ec × St) := lim fun k => exec E k cfg c st

theorem runFV_some {f : FuncId} {args : List AV} {h : List OB} {r : AV × List OB} : runFV E f args h = some r ↔ ∃ k, runF E k f args h = some r := lim_some fun k r => (monoAt E k).f _ _ _ r
theorem callV_some {f : FuncId} {args : List AV} {st : St} {r : AV × St} : callV E f args st = some r ↔ ∃ k, callF E k f args st = some r := lim_some fun k r => (monoAt E k).c _ _ _ r
theorem opsV_some {cfg : Cfg} {kp : List Nat} {fork : Bool} {all l : List Oper} {st r : St} : opsV E cfg kp fork all l st = some r ↔ ∃ k, runOps E k cfg kp fork all l st = some r := lim_some fun k r => (monoAt E k).ops _ _ _ _ _ _ r
theorem opV_some {cfg : Cfg} {g : Gd} {o : Oper} {st : St} {r : TV × St} : opV E cfg g o st = some r ↔ ∃ k, runOp E k cfg g o st = some r := lim_some fun k r => (monoAt E k).op _ _ _ _ r
theorem execV_some {cfg : Cfg} {c : Code} {st : St} {r : Ec × St} : execV E cfg c st = some r ↔ ∃ k, exec E k cfg c st = some r := lim_some fun k r => (monoAt E k).ex _ _ _ r

theorem runFV_of (k : Nat) {f : FuncId} {args : List AV} {h : List OB} {r : AV × List OB} (hk : runF E k f args h = some r) : runFV E f args h = some r := (runFV_some E).2 ⟨k, hk⟩
theorem callV_of (k : Nat) {f : FuncId} {args : List AV} {st : St} {r : AV × St} (hk : callF E k f args st = some r) : callV E f args st = some r := (callV_some E).2 ⟨k, hk⟩

section
variable {E}
theorem fF {f : FuncId} {args : List AV} {h : List OB} {j k : Nat} (hj : j ≤ k) {r : AV × List OB} (H : runF E j f args h = some r) : runF E k f args h = some r := up (fun k r => (monoAt E k).f _ _ _ r) hj H
theorem fC {f : FuncId} {args : List AV} {st : St} {j k : Nat} (hj : j ≤ k) {r : AV × St} (H : callF E j f args st = some r) : callF E k f args st = some r := up (fun k r => (monoAt E k).c _ _ _ r) hj H
theorem fOps {cfg : Cfg} {kp : List Nat} {fork : Bool} {all l : List Oper} {st r : St} {j k : Nat} (hj : j ≤ k) (H : runOps E j cfg kp fork all l st = some r) : runOps E k cfg kp fork all l st = some r := up (F := fun k => runOps E k cfg kp fork all l st) (fun k r => (monoAt E k).ops _ _ _ _ _ _ r) hj H
theorem fOp {cfg : Cfg} {g : Gd} {o : Oper} {st : St} {r : TV × St} {j k : Nat} (hj : j ≤ k) (H : runOp E j cfg g o st = some r) : runOp E k cfg g o st = some r := up (fun k r => (monoAt E k).op _ _ _ _ r) hj H
theorem fEx {cfg : Cfg} {c : Code} {st : St} {r : Ec × St} {j k : Nat} (hj : j ≤ k) (H : exec E j cfg c st = some r) : exec E k cfg c st = some r := up (fun k r => (monoAt E k).ex _ _ _ r) hj H
end
end Go.Ex
