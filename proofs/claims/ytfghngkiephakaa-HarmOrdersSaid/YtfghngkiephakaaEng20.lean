/- The evaluator of this proof, part 20. -/
import Derived.Test.YtfghngkiephakaaEng19
import Derived.Laws.Externs
set_option linter.unnecessarySimpa false
set_option linter.unusedVariables false
set_option linter.unusedSimpArgs false
set_option linter.unusedSectionVars false
set_option linter.deprecated false
/- Rules that act ahead of what stands below them. -/
set_option autoImplicit false
namespace Go.Ex
theorem forkV_tt (A B : Option St) : forkV (some (.v (.b true))) true A B = A := rfl
theorem forkV_ft (A B : Option St) : forkV (some (.v (.b false))) true A B = B := rfl
theorem forkV_tf (A B : Option St) : forkV (some (.v (.b true))) false A B = B := rfl
theorem forkV_ff (A B : Option St) : forkV (some (.v (.b false))) false A B = A := rfl
variable {E : EP}
theorem opsV_congr {cfg : Cfg} {kp : List Nat} {fork : Bool} {all l : List Oper} {st st' : St} (h : st = st') : opsV E cfg kp fork all l st = opsV E cfg kp fork all l st' := by rw [h]
attribute [congr] opsV_congr
attribute [go_sem ↓] forkV_tt forkV_ft forkV_tf forkV_ff forkV_u obind_some obind_none obind2_some obind2_none bsel_t bsel_f oelse_some oelse_none oget_some oget_none optQ_some optQ_none condQ_t condQ_f
attribute [go_sem ↓] opsG_none EX_seq EX_cond EX_block EX_skip EX_ret EX_exit EX_scope EX_region2 seqQ_norm seqQ_ret seqQ_exit blockQ_norm blockQ_ret blockQ_exit roundQ_norm roundQ_exit roundQ_ret
end Go.Ex
/- Slices as lists with a mark; cells of plain elements. -/
set_option autoImplicit false
namespace Go.Ex
structure Sl (α : Type) where
  l : List α
  c : Bool
@[go_sem] theorem Sl_eta {α : Type} (x : Sl α) : (⟨x.l, x.c⟩ : Sl α) = x := rfl
def enc1 (x : Int) : List AV := [.i .i64 x]
def encB (x : Bool) : List AV := [.b x]
def encS (x : ByteArray) : List AV := [.s x]
def encU (x : Int) : List AV := [.i .u64 x]
theorem dec_t {p : Prop} [Decidable p] (h : p) : decide p = true := by simp [h]
theorem dec_f {p : Prop} [Decidable p] (h : ¬ p) : decide p = false := by simp [h]
/-- a call of a function that runs by itself, its arguments read out of the caller's memory -/
theorem call2 {E : EP} {f : FuncId} {args args' : List AV} {st : St} {x : AV} {fi : FI} (hf : E.fn f = some fi) (hm : fi.mode = 1) (hl : mapO (ro st.heap 8) args = some args')
    (H : FN E f args' [] fun r h' => ro h' 8 r = some x ∧ clean h' r = true) : callV E f args st = some (x, st) := by
  obtain ⟨r, h', h1, h2, h3⟩ := FN_eq E H
  rw [callV_eq, hf]
  simp only [hm]
  have h0 : Nat.beq 1 0 = false := rfl
  rw [h0]
  simp only [cond_false, hl, h1, result, h2, h3, Bool.or_true, cond_true]
/-- from a reckoned run of a function without arguments -/
theorem callV_of_runF {E : EP} {f : FuncId} {n : Nat} {b : Bool} {fi : FI} (hf : E.fn f = some fi) (hm : fi.mode = 1) (hr : (runF E n f [] []).map (·.1) = some (.b b)) (st : St) : callV E f [] st = some (.b b, st) := by
  obtain ⟨⟨r, h⟩, h0, h1⟩ := Option.map_eq_some_iff.1 hr
  simp only at h1
  subst h1
  have h1 : runFV E f [] [] = some (.b b, h) := (runFV_some E).2 ⟨n, h0⟩
  refine call1 E hf hm (by rfl) (by rfl) ?_
  exact optQ_iff.2 ⟨_, h1, rfl⟩
end Go.Ex
/- math/bits.Add64, for which the model stands in. -/
set_option autoImplicit false
namespace Go.Ex
/-- the sum of two words and a carry -/
def extAdd (n : FuncId) (f : FuncId) (args : List AV) : Option AV :=
  match Nat.beq f n with
  | true => match args with
    | [.i .u64 x, .i .u64 y, .i .u64 c] => if 0 ≤ x ∧ 0 ≤ y ∧ 0 ≤ c ∧ c ≤ 1 then some (.tp [.i .u64 ((x + y + c) % 18446744073709551616), .i .u64 ((x + y + c) / 18446744073709551616)]) else none
    | _ => none
  | false => none
theorem VR_i {Mu : Nat → Prop} {w : World} {H : List OB} {g : List (Option Nat)} {k : IntKind} {n : Int} {v : Value} (h : VR Mu w H g (.i k n) v) : v = .int k n := by
  cases h; rfl
theorem extAdd_ok {P : Program} {E : EP} {n : FuncId} (h : E.ext = extAdd n) {fn : Func} (hf : P.funcs[n]? = some fn) (hname : (fn.name == "runtime.NumGoroutine") = false)
    (hb : fn.body.isNone = true) (hn : Extern.findNext fn = none) (he : Extern.find fn = some add64Entry) : ExtOK P E := by
  intro f args r _ hx
  rw [h] at hx
  unfold extAdd at hx
  cases hfn : Nat.beq f n with
  | false => rw [hfn] at hx; cases hx
  | true =>
    have hfn := Nat.eq_of_beq_eq_true hfn
    subst hfn
    simp only [Nat.beq_refl] at hx
    split at hx
    · rename_i x y c
      split at hx
      · rename_i hc
        cases hx
        right
        intro Out w vs hv
        obtain ⟨hl, hvr⟩ := hv
        match vs, hl with
        | [v0, v1, v2], _ =>
          have h0 := VR_i (hvr 0 (.i .u64 x) v0 rfl rfl)
          have h1 := VR_i (hvr 1 (.i .u64 y) v1 rfl rfl)
          have h2 := VR_i (hvr 2 (.i .u64 c) v2 rfl rfl)
          subst h0 h1 h2
          refine ⟨.tuple #[.int .u64 ((x + y + c) % 18446744073709551616), .int .u64 ((x + y + c) / 18446744073709551616)], ?_, ?_⟩
          · rw [run_callFunc_extern hf hname hb hn he, run_add64 x y c hc.1 hc.2.1 hc.2.2.1 hc.2.2.2]
            rfl
          · have hh : VRs Out w [] [] [.i .u64 ((x + y + c) % 18446744073709551616), .i .u64 ((x + y + c) / 18446744073709551616)] [.int .u64 ((x + y + c) % 18446744073709551616), .int .u64 ((x + y + c) / 18446744073709551616)] := VRs.cons (.i _ _) (VRs.cons (.i _ _) VRs.nil)
            exact .tp _ _ hh.1 hh.2
      · cases hx
    · cases hx
end Go.Ex
