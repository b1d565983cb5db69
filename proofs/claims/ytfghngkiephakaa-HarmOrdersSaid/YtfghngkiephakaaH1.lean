/- Harms: what each function computes. -/
import Derived.Test.YtfghngkiephakaaX1
set_option linter.unnecessarySimpa false
set_option linter.unusedVariables false
set_option linter.unusedSimpArgs false
set_option linter.unusedSectionVars false
set_option linter.deprecated false
set_option autoImplicit false
set_option linter.unusedVariables false
namespace Go.Proofs.Ytfghngkiephakaa
open Go.Ex Go.Proofs
set_option maxHeartbeats 4000000
set_option maxRecDepth 100000
structure Harm where
  flood : Int
  spill : Int
  short : Int
  moves : Int
def encHarm (x : Harm) : List AV := [.i .i64 x.flood, .i .i64 x.spill, .i .i64 x.short, .i .i64 x.moves]
@[go_sem] theorem Harm_eta (x : Harm) : (⟨x.flood, x.spill, x.short, x.moves⟩ : Harm) = x := rfl
theorem isNaN_run (x : Int) (st : St) : callV E 86 [.i .i64 x] st = some (.b false, st) := by
  refine call1 E fn86 rfl (by simp -implicitDefEqProofs only [go_sem, Nat.reduceAdd, Nat.reduceBEq, Nat.reduceMul, Nat.reduceLeDiff]) (by simp -implicitDefEqProofs only [go_sem, Nat.reduceAdd, Nat.reduceBEq, Nat.reduceLeDiff]) ?_
  refine FN_enter E fn86 ?_
  simp only [c86, Option.getD, Try.f86]
  simp -implicitDefEqProofs (maxSteps := 1000000) only [go_sem, Nat.reduceAdd, Nat.reduceSub, Nat.reduceBEq, Nat.reduceMul, Nat.reduceLeDiff, Nat.reduceLT, Int.reduceEq, Int.reduceNeg, List.length_map, bne_self_eq_false]
@[go_sem] theorem isNaN_s (x : Int) (st : St) : callV E 86 [.i .i64 x] st = some (.b false, st) := isNaN_run x st
def cmpI (x y : Int) : Int := if x < y then -1 else if x > y then 1 else 0
theorem cmp_run (x : Int) (y : Int) (st : St) : callV E 45 [.i .i64 x, .i .i64 y] st = some (.i .i64 (cmpI x y), st) := by
  refine call1 E fn45 rfl (by simp -implicitDefEqProofs only [go_sem, Nat.reduceAdd, Nat.reduceBEq, Nat.reduceMul, Nat.reduceLeDiff]) (by simp -implicitDefEqProofs only [go_sem, Nat.reduceAdd, Nat.reduceBEq, Nat.reduceLeDiff]) ?_
  refine FN_enter E fn45 ?_
  simp only [c45, Option.getD, Try.f45]
  unfold cmpI
  by_cases h1 : x < y
  · have e1 := dec_t h1
    rw [if_pos h1]
    simp -implicitDefEqProofs (maxSteps := 1000000) only [go_sem, Nat.reduceAdd, Nat.reduceSub, Nat.reduceBEq, Nat.reduceMul, Nat.reduceLeDiff, Nat.reduceLT, Int.reduceEq, Int.reduceNeg, List.length_map, e1]
  · have e1 := dec_f h1
    rw [if_neg h1]
    by_cases h2 : x > y
    · have e2 := dec_t h2
      rw [if_pos h2]
      simp -implicitDefEqProofs (maxSteps := 1000000) only [go_sem, Nat.reduceAdd, Nat.reduceSub, Nat.reduceBEq, Nat.reduceMul, Nat.reduceLeDiff, Nat.reduceLT, Int.reduceEq, Int.reduceNeg, List.length_map, e1, e2]
    · have e2 := dec_f h2
      rw [if_neg h2]
      simp -implicitDefEqProofs (maxSteps := 1000000) only [go_sem, Nat.reduceAdd, Nat.reduceSub, Nat.reduceBEq, Nat.reduceMul, Nat.reduceLeDiff, Nat.reduceLT, Int.reduceEq, Int.reduceNeg, List.length_map, e1, e2]
@[go_sem] theorem cmp_s (x : Int) (y : Int) (st : St) : callV E 45 [.i .i64 x, .i .i64 y] st = some (.i .i64 (cmpI x y), st) := cmp_run x y st
/-- the first one that is not zero -/
def orI : List Int → Int
  | [] => 0
  | x :: r => if x = 0 then orI r else x
theorem or_run (l : Sl Int) (hl : l.l.length ≤ 1000000) (st : St) : callV E 44 [.sl 1 (l.l.map enc1) l.c] st = some (.i .i64 (orI l.l), st) := by
  refine call1 E fn44 rfl (by simp -implicitDefEqProofs only [go_sem, Nat.reduceAdd, Nat.reduceBEq, Nat.reduceMul, Nat.reduceLeDiff]) (by simp -implicitDefEqProofs only [go_sem, Nat.reduceAdd, Nat.reduceBEq, Nat.reduceLeDiff]) ?_
  refine FN_enter E fn44 ?_
  obtain ⟨l, c⟩ := l
  simp only at hl
  simp only [c44, Option.getD, Try.f44]
  simp -implicitDefEqProofs (maxSteps := 1000000) only [go_sem, Nat.reduceAdd, Nat.reduceSub, Nat.reduceBEq, Nat.reduceMul, Nat.reduceLeDiff, Nat.reduceLT, Int.reduceEq, Int.reduceNeg, List.length_map]
  refine EX_for E l.length (fun k => [(8, .i .i64 k)]) (fun _ => []) (fun _ => []) (fun k => orI (l.drop k) = orI l) rfl ?_ (fun k hk hP => ?_)
  · simp only [go_sem] <;> rfl
  · by_cases hlt : k < l.length
    · have e2 := dec_t (show (k : Int) < l.length by omega)
      have hw := wrap64_succ hlt (by omega)
      have hrow := row_map enc1 l k hlt
      simp only [enc1] at hrow
      rw [List.drop_eq_getElem_cons hlt] at hP
      simp only [orI] at hP
      by_cases h0 : l[k] = 0
      · rw [if_pos h0] at hP
        have e3 : (l[k] != 0) = false := by simp [h0]
        simp -implicitDefEqProofs (maxSteps := 1000000) only [go_sem, Nat.reduceAdd, Nat.reduceSub, Nat.reduceBEq, Nat.reduceMul, Nat.reduceLeDiff, Nat.reduceLT, Int.reduceEq, Int.reduceNeg, List.length_map, e2, hw, hrow, e3]
        exact ⟨hlt, hP, trivial⟩
      · rw [if_neg h0] at hP
        have e3 : (l[k] != 0) = true := by simp [h0]
        rw [← hP]
        simp -implicitDefEqProofs (maxSteps := 1000000) only [go_sem, Nat.reduceAdd, Nat.reduceSub, Nat.reduceBEq, Nat.reduceMul, Nat.reduceLeDiff, Nat.reduceLT, Int.reduceEq, Int.reduceNeg, List.length_map, e2, hw, hrow, e3]
    · have e2 := dec_f (show ¬ (k : Int) < l.length by omega)
      have hkn : k = l.length := by omega
      rw [hkn, List.drop_length] at hP
      simp -implicitDefEqProofs (maxSteps := 1000000) only [go_sem, Nat.reduceAdd, Nat.reduceSub, Nat.reduceBEq, Nat.reduceMul, Nat.reduceLeDiff, Nat.reduceLT, Int.reduceEq, Int.reduceNeg, List.length_map, e2, ← hP, orI]
@[go_sem] theorem or_s (l_l : List Int) (l_c : Bool) (hl : (⟨l_l, l_c⟩ : Sl Int).l.length ≤ 1000000) (st : St) : callV E 44 [.sl 1 (l_l.map enc1) l_c] st = some (.i .i64 (orI (⟨l_l, l_c⟩ : Sl Int).l), st) := or_run ⟨l_l, l_c⟩ hl st
def cmpH (x y : Harm) : Int := orI [cmpI x.flood y.flood, cmpI x.spill y.spill, cmpI x.short y.short, cmpI x.moves y.moves]
theorem compare_run (x : Harm) (y : Harm) (st : St) : callV E 18 [.ag (encHarm x), .ag (encHarm y)] st = some (.i .i64 (cmpH x y), st) := by
  refine call1 E fn18 rfl (by simp -implicitDefEqProofs only [go_sem, Nat.reduceAdd, Nat.reduceBEq, Nat.reduceMul, Nat.reduceLeDiff, encHarm]) (by simp -implicitDefEqProofs only [go_sem, Nat.reduceAdd, Nat.reduceBEq, Nat.reduceLeDiff, encHarm]) ?_
  refine FN_enter E fn18 ?_
  simp only [c18, Option.getD, Try.f18, encHarm]
  have h := fun st => or_run ⟨[cmpI x.flood y.flood, cmpI x.spill y.spill, cmpI x.short y.short, cmpI x.moves y.moves], true⟩ (by simp) st
  simp only [List.map_cons, List.map_nil, enc1] at h
  unfold cmpH
  simp -implicitDefEqProofs (maxSteps := 1000000) only [go_sem, Nat.reduceAdd, Nat.reduceSub, Nat.reduceBEq, Nat.reduceMul, Nat.reduceLeDiff, Nat.reduceLT, Int.reduceEq, Int.reduceNeg, List.length_map, h]
@[go_sem] theorem compare_s (x_flood : Int) (x_spill : Int) (x_short : Int) (x_moves : Int) (y_flood : Int) (y_spill : Int) (y_short : Int) (y_moves : Int) (st : St) : callV E 18 [.ag [.i .i64 x_flood, .i .i64 x_spill, .i .i64 x_short, .i .i64 x_moves], .ag [.i .i64 y_flood, .i .i64 y_spill, .i .i64 y_short, .i .i64 y_moves]] st = some (.i .i64 (cmpH (⟨x_flood, x_spill, x_short, x_moves⟩ : Harm) (⟨y_flood, y_spill, y_short, y_moves⟩ : Harm)), st) := compare_run ⟨x_flood, x_spill, x_short, x_moves⟩ ⟨y_flood, y_spill, y_short, y_moves⟩ st
def lessH (x y : Harm) : Bool := decide (cmpH x y < 0)
theorem less_run (x : Harm) (y : Harm) (st : St) : callV E 8 [.ag (encHarm x), .ag (encHarm y)] st = some (.b (lessH x y), st) := by
  refine call1 E fn8 rfl (by simp -implicitDefEqProofs only [go_sem, Nat.reduceAdd, Nat.reduceBEq, Nat.reduceMul, Nat.reduceLeDiff, encHarm]) (by simp -implicitDefEqProofs only [go_sem, Nat.reduceAdd, Nat.reduceBEq, Nat.reduceLeDiff, encHarm]) ?_
  refine FN_enter E fn8 ?_
  simp only [c8, Option.getD, Try.f8, encHarm]
  unfold lessH
  simp -implicitDefEqProofs (maxSteps := 1000000) only [go_sem, Nat.reduceAdd, Nat.reduceSub, Nat.reduceBEq, Nat.reduceMul, Nat.reduceLeDiff, Nat.reduceLT, Int.reduceEq, Int.reduceNeg, List.length_map]
@[go_sem] theorem less_s (x_flood : Int) (x_spill : Int) (x_short : Int) (x_moves : Int) (y_flood : Int) (y_spill : Int) (y_short : Int) (y_moves : Int) (st : St) : callV E 8 [.ag [.i .i64 x_flood, .i .i64 x_spill, .i .i64 x_short, .i .i64 x_moves], .ag [.i .i64 y_flood, .i .i64 y_spill, .i .i64 y_short, .i .i64 y_moves]] st = some (.b (lessH (⟨x_flood, x_spill, x_short, x_moves⟩ : Harm) (⟨y_flood, y_spill, y_short, y_moves⟩ : Harm)), st) := less_run ⟨x_flood, x_spill, x_short, x_moves⟩ ⟨y_flood, y_spill, y_short, y_moves⟩ st
def addH (x y : Harm) : Harm := ⟨sadd x.flood y.flood, sadd x.spill y.spill, sadd x.short y.short, sadd x.moves y.moves⟩
theorem addHarm_run (x : Harm) (y : Harm) (st : St) : callV E 9 [.ag (encHarm x), .ag (encHarm y)] st = some (.ag [.i .i64 ((addH x y).flood), .i .i64 ((addH x y).spill), .i .i64 ((addH x y).short), .i .i64 ((addH x y).moves)], st) := by
  refine call1 E fn9 rfl (by simp -implicitDefEqProofs only [go_sem, Nat.reduceAdd, Nat.reduceBEq, Nat.reduceMul, Nat.reduceLeDiff, encHarm]) (by simp -implicitDefEqProofs only [go_sem, Nat.reduceAdd, Nat.reduceBEq, Nat.reduceLeDiff, encHarm]) ?_
  refine FN_enter E fn9 ?_
  simp only [c9, Option.getD, Try.f9, encHarm]
  simp -implicitDefEqProofs (maxSteps := 1000000) only [go_sem, Nat.reduceAdd, Nat.reduceSub, Nat.reduceBEq, Nat.reduceMul, Nat.reduceLeDiff, Nat.reduceLT, Int.reduceEq, Int.reduceNeg, List.length_map, addH]
@[go_sem] theorem addHarm_s (x_flood : Int) (x_spill : Int) (x_short : Int) (x_moves : Int) (y_flood : Int) (y_spill : Int) (y_short : Int) (y_moves : Int) (st : St) : callV E 9 [.ag [.i .i64 x_flood, .i .i64 x_spill, .i .i64 x_short, .i .i64 x_moves], .ag [.i .i64 y_flood, .i .i64 y_spill, .i .i64 y_short, .i .i64 y_moves]] st = some (.ag [.i .i64 ((addH (⟨x_flood, x_spill, x_short, x_moves⟩ : Harm) (⟨y_flood, y_spill, y_short, y_moves⟩ : Harm)).flood), .i .i64 ((addH (⟨x_flood, x_spill, x_short, x_moves⟩ : Harm) (⟨y_flood, y_spill, y_short, y_moves⟩ : Harm)).spill), .i .i64 ((addH (⟨x_flood, x_spill, x_short, x_moves⟩ : Harm) (⟨y_flood, y_spill, y_short, y_moves⟩ : Harm)).short), .i .i64 ((addH (⟨x_flood, x_spill, x_short, x_moves⟩ : Harm) (⟨y_flood, y_spill, y_short, y_moves⟩ : Harm)).moves)], st) := addHarm_run ⟨x_flood, x_spill, x_short, x_moves⟩ ⟨y_flood, y_spill, y_short, y_moves⟩ st
/-- the greater one, the first if neither is -/
def pickH (m h : Harm) : Harm := if cmpH h m > 0 then h else m
def maxH : List Harm → Harm
  | [] => ⟨0, 0, 0, 0⟩
  | x :: r => r.foldl pickH x
theorem maxH_next (l : List Harm) (k : Nat) (h : k + 1 < l.length) : maxH (l.take (k + 2)) = pickH (maxH (l.take (k + 1))) l[k + 1] := by
  cases l with
  | nil => simp at h
  | cons x r =>
    simp only [List.length_cons] at h
    simp only [List.take_succ_cons, maxH, List.getElem_cons_succ]
    rw [List.take_succ_eq_append_getElem (show k < r.length by omega), List.foldl_append]; rfl
theorem maxf_run (l : List Harm) (h : 0 < l.length) (hl : l.length ≤ 1000000) (c : Bool) (st : St) : callV E 17 [.sl 4 (l.map encHarm) c, .fn 18 []] st = some (.ag (encHarm (maxH l)), st) := by
  refine call1 E fn17 rfl (by simp -implicitDefEqProofs only [go_sem, Nat.reduceAdd, Nat.reduceBEq, Nat.reduceMul, Nat.reduceLeDiff]) (by simp -implicitDefEqProofs only [go_sem, Nat.reduceAdd, Nat.reduceBEq, Nat.reduceLeDiff]) ?_
  refine FN_enter E fn17 ?_
  simp only [c17, Option.getD, Try.f17]
  have e1 := dec_f (show ¬ ((l.length : Int) < 1) by omega)
  have hrow := row_map encHarm l 0 h
  simp only [encHarm, Int.natCast_zero] at hrow
  simp -implicitDefEqProofs (maxSteps := 1000000) only [go_sem, Nat.reduceAdd, Nat.reduceSub, Nat.reduceBEq, Nat.reduceMul, Nat.reduceLeDiff, Nat.reduceLT, Int.reduceEq, Int.reduceNeg, List.length_map, e1, hrow]
  refine EX_for E (l.length - 1) (fun k => [(6, .i .i64 ((k + 1 : Nat) : Int))]) (fun k => [(5, encHarm (maxH (l.take (k + 1))))]) (fun _ => []) (fun _ => True) trivial ?_ (fun k hk _ => ?_)
  · have h1 : maxH (l.take 1) = l[0] := by
      cases l with
      | nil => simp at h
      | cons x r => simp [maxH]
    simp only [go_sem, Nat.zero_add, h1, encHarm] <;> rfl
  · by_cases hlt : k + 1 < l.length
    · have e2 := dec_t (show ((k + 1 : Nat) : Int) < l.length by omega)
      have hw := wrap64_succ hlt (by omega)
      have hrow := row_map encHarm l (k + 1) hlt
      have hnx := maxH_next l k hlt
      simp only [encHarm] at hrow
      rw [hnx]
      generalize maxH (l.take (k + 1)) = m
      by_cases hc : cmpH l[k + 1] m > 0
      · have e3 := dec_t hc
        rw [pickH, if_pos hc]
        simp -implicitDefEqProofs (maxSteps := 1000000) only [go_sem, Nat.reduceAdd, Nat.reduceSub, Nat.reduceBEq, Nat.reduceMul, Nat.reduceLeDiff, Nat.reduceLT, Int.reduceEq, Int.reduceNeg, List.length_map, e2, hw, hrow, e3, encHarm]
        exact ⟨by omega, trivial, trivial⟩
      · have e3 := dec_f hc
        rw [pickH, if_neg hc]
        simp -implicitDefEqProofs (maxSteps := 1000000) only [go_sem, Nat.reduceAdd, Nat.reduceSub, Nat.reduceBEq, Nat.reduceMul, Nat.reduceLeDiff, Nat.reduceLT, Int.reduceEq, Int.reduceNeg, List.length_map, e2, hw, hrow, e3, encHarm]
        exact ⟨by omega, trivial, trivial⟩
    · have e2 := dec_f (show ¬ ((k + 1 : Nat) : Int) < l.length by omega)
      have hkn : l.take (k + 1) = l := List.take_of_length_le (by omega)
      rw [hkn]
      simp -implicitDefEqProofs (maxSteps := 1000000) only [go_sem, Nat.reduceAdd, Nat.reduceSub, Nat.reduceBEq, Nat.reduceMul, Nat.reduceLeDiff, Nat.reduceLT, Int.reduceEq, Int.reduceNeg, List.length_map, e2, encHarm]
theorem worst_FN (l : List Harm) (hl : l.length ≤ 1000000) (c : Bool) : FN E 7 [.sl 4 (l.map encHarm) c] [] fun r h' => r = .ag (encHarm (maxH l)) := by
  refine FN_enter E fn7 ?_
  simp only [c7, Option.getD, Try.f7]
  by_cases h : l = []
  · subst h
    simp -implicitDefEqProofs (maxSteps := 1000000) only [go_sem, Nat.reduceAdd, Nat.reduceSub, Nat.reduceBEq, Nat.reduceMul, Nat.reduceLeDiff, Nat.reduceLT, Int.reduceEq, Int.reduceNeg, List.length_map, List.length_nil, List.map_nil]
    rfl
  · have h1 : 0 < l.length := List.length_pos_iff.2 h
    have e1 : ((l.length : Int) == 0) = false := by simp; omega
    have hm := maxf_run l h1 hl c
    simp only [encHarm] at hm
    simp -implicitDefEqProofs (maxSteps := 1000000) only [go_sem, Nat.reduceAdd, Nat.reduceSub, Nat.reduceBEq, Nat.reduceMul, Nat.reduceLeDiff, Nat.reduceLT, Int.reduceEq, Int.reduceNeg, List.length_map, e1, hm, encHarm]
theorem worst_at (l : List Harm) (hl : l.length ≤ 1000000) (c : Bool) (x : AV) (st : St) (hx : ro st.heap 8 x = some (.sl 4 (l.map encHarm) c)) : callV E 7 [x] st = some (.ag (encHarm (maxH l)), st) := by
  refine call2 fn7 rfl (args' := [.sl 4 (l.map encHarm) c]) (by simp only [mapO, hx]) ?_
  obtain ⟨r, h', h1, h2⟩ := FN_eq E (worst_FN l hl c)
  exact optQ_iff.2 ⟨(r, h'), h1, by rw [h2]; exact ⟨rfl, rfl⟩⟩
theorem worst_run (l : List Harm) (hl : l.length ≤ 1000000) (c : Bool) (st : St) : callV E 7 [.sl 4 (l.map encHarm) c] st = some (.ag (encHarm (maxH l)), st) := worst_at l hl c _ st rfl
-- plain laws
theorem orI4 (a b c d : Int) : orI [a, b, c, d] = if a = 0 then (if b = 0 then (if c = 0 then d else c) else b) else a := by
  simp only [orI]
  by_cases h1 : a = 0 <;> by_cases h2 : b = 0 <;> by_cases h3 : c = 0 <;> by_cases h4 : d = 0 <;> simp [h1, h2, h3, h4]
theorem less_iff (x y : Harm) : lessH x y = true ↔ (x.flood < y.flood ∨ x.flood = y.flood ∧ (x.spill < y.spill ∨ x.spill = y.spill ∧ (x.short < y.short ∨ x.short = y.short ∧ x.moves < y.moves))) := by
  unfold lessH cmpH cmpI
  rw [orI4, decide_eq_true_eq]
  repeat' split
  all_goals omega
theorem cmpH_pos (x y : Harm) : cmpH x y > 0 ↔ lessH y x = true := by
  rw [less_iff]
  unfold cmpH cmpI
  rw [orI4]
  repeat' split
  all_goals omega
theorem harm_ext {x y : Harm} (h1 : x.flood = y.flood) (h2 : x.spill = y.spill) (h3 : x.short = y.short) (h4 : x.moves = y.moves) : x = y := by
  cases x; cases y; simp_all
theorem less_total {x y : Harm} (h1 : lessH x y = false) (h2 : lessH y x = false) : x = y := by
  have h1 : ¬ lessH x y = true := by simp [h1]
  have h2 : ¬ lessH y x = true := by simp [h2]
  rw [less_iff] at h1 h2
  apply harm_ext <;> omega
theorem maxH_spec : ∀ (r : List Harm) (x : Harm), (r.foldl pickH x ∈ x :: r) ∧ ∀ h ∈ x :: r, lessH (r.foldl pickH x) h = false
  | [], x => ⟨by simp, fun h hh => by
      have : h = x := by simpa using hh
      subst this
      rw [Bool.eq_false_iff, Ne, less_iff]; simp only [List.foldl_nil]; omega⟩
  | y :: r, x => by
    obtain ⟨h1, h2⟩ := maxH_spec r (pickH x y)
    simp only [List.foldl_cons]
    have hp : pickH x y = x ∨ pickH x y = y := by unfold pickH; split <;> simp
    refine ⟨?_, fun h hh => ?_⟩
    · rcases List.mem_cons.1 h1 with e | e
      · rw [e]; rcases hp with hp | hp <;> rw [hp] <;> simp
      · exact List.mem_cons_of_mem _ (List.mem_cons_of_mem _ e)
    · have hb := h2 (pickH x y) (List.mem_cons_self)
      generalize r.foldl pickH (pickH x y) = m at h1 h2 hb
      rcases List.mem_cons.1 hh with e | e
      · -- h = x
        subst e
        have : lessH (pickH h y) h = false := by
          unfold pickH; split
          · rename_i hc; rw [gt_iff_lt, ← gt_iff_lt, cmpH_pos] at hc
            rw [Bool.eq_false_iff]; intro hl; rw [less_iff] at hl hc; omega
          · rw [Bool.eq_false_iff]; intro hl; rw [less_iff] at hl; omega
        rw [Bool.eq_false_iff] at hb this ⊢
        intro hl; rw [less_iff] at hl; rw [Ne, less_iff] at hb this; omega
      · rcases List.mem_cons.1 e with e | e
        · subst e
          have : lessH (pickH x h) h = false := by
            unfold pickH; split
            · rw [Bool.eq_false_iff]; intro hl; rw [less_iff] at hl; omega
            · rename_i hc; rw [cmpH_pos] at hc
              rw [Bool.eq_false_iff]; exact hc
          rw [Bool.eq_false_iff] at hb this ⊢
          intro hl; rw [less_iff] at hl; rw [Ne, less_iff] at hb this; omega
        · exact h2 h (List.mem_cons_of_mem _ e)
theorem maxH_mem (l : List Harm) (h : l ≠ []) : maxH l ∈ l := by
  cases l with
  | nil => exact absurd rfl h
  | cons x r => exact (maxH_spec r x).1
theorem maxH_ge (l : List Harm) (h : Harm) (hh : h ∈ l) : lessH (maxH l) h = false := by
  cases l with
  | nil => simp at hh
  | cons x r => exact (maxH_spec r x).2 h hh
theorem maxH_reverse (l : List Harm) : maxH l.reverse = maxH l := by
  by_cases h : l = []
  · subst h; rfl
  · have h1 := maxH_mem l h
    have h2 := maxH_mem l.reverse (by simpa using h)
    exact less_total (maxH_ge _ _ (by simpa using h1)) (maxH_ge _ _ (by simpa using h2))
end Go.Proofs.Ytfghngkiephakaa
