/- HarmWorst: the walk. -/
import Derived.Test.YtfghngkiephakaaH1
import Derived.KernelRfl
set_option linter.unnecessarySimpa false
set_option linter.unusedVariables false
set_option linter.unusedSimpArgs false
set_option linter.unusedSectionVars false
set_option linter.deprecated false
set_option autoImplicit false
set_option linter.unusedVariables false
namespace Go.Proofs.Ytfghngkiephakaa
open Go.Ex Go.Proofs
set_option maxHeartbeats 4000000
set_option maxRecDepth 100000
theorem small33_run (st : St) : callV E 6 [] st = some (.b true, st) := callV_of_runF fn6 rfl (n := 400) (by kernel_rfl) st
def eqH (a b : Harm) : Bool := a.flood == b.flood && (a.spill == b.spill && (a.short == b.short && a.moves == b.moves))
theorem eqH_refl (a : Harm) : eqH a a = true := by simp [eqH]
/-- the list, back to front: its value and the memory behind it -/
def bv (l : List Harm) : Nat → AV
  | 0 => .sl 4 [] true
  | 1 => .sl 4 ((l.take 1).reverse.map encHarm) true
  | k + 2 => .hs k 4 0 (k + 2) (k + 2)
def bh (l : List Harm) (k : Nat) : List OB := (List.range (k - 1)).map fun j => .arr 4 ((l.take (j + 2)).reverse.map encHarm) true 1
theorem levRows_harm (l : List Harm) : levRows (l.map encHarm) = 0 := by
  induction l with
  | nil => rfl
  | cons x r ih => simp only [levRows] at ih ⊢; simp only [List.map_cons, List.foldr_cons, ih]; rfl
theorem bh_get (l : List Harm) (k : Nat) : (bh l (k + 2))[k]? = some (.arr 4 ((l.take (k + 2)).reverse.map encHarm) true 1) := by simp [bh]
theorem bh_next (l : List Harm) (k : Nat) : bh l (k + 2) = bh l (k + 1) ++ [.arr 4 ((l.take (k + 2)).reverse.map encHarm) true 1] := by
  simp only [bh, Nat.add_sub_cancel, show k + 2 - 1 = k + 1 by omega]; rw [List.range_succ, List.map_append]; rfl
theorem rev_len (l : List Harm) (k : Nat) (h : k ≤ l.length) : ((l.take k).reverse.map encHarm).length = k := by simp; omega
theorem rev_next (l : List Harm) (k : Nat) (h : k < l.length) : [encHarm l[k]] ++ (l.take k).reverse.map encHarm = (l.take (k + 1)).reverse.map encHarm := by
  rw [List.take_succ_eq_append_getElem h, List.reverse_append, List.map_append]; rfl
theorem bv_elems (l : List Harm) (k : Nat) (h : k ≤ l.length) (vs ls tl) : elems 4 ⟨vs, ls, bh l k, tl⟩ (bv l k) = some ((l.take k).reverse.map encHarm) := by
  match k, h with
  | 0, _ => simp [bv, elems]
  | 1, _ => simp [bv, elems]
  | k + 2, h =>
    have h1 := rev_len l (k + 2) h
    have h2 : ((l.take (k + 2)).reverse.map encHarm).take (k + 2) = (l.take (k + 2)).reverse.map encHarm := List.take_of_length_le (by omega)
    simp only [bv, elems, bh_get, h1, List.drop_zero, h2, nb_eq, ble_dec, beq_self_eq_true, Nat.zero_add, Nat.le_refl, decide_true, Bool.and_self, cond_true]
theorem bv_append (l : List Harm) (k : Nat) (h : k < l.length) (hl : l.length ≤ 1000) (vs ls tl) : appendAV 4 32 ⟨vs, ls, bh l k, tl⟩ (.sl 4 [encHarm l[k]] true) ((l.take k).reverse.map encHarm) = some (⟨vs, ls, bh l (k + 1), tl⟩, bv l (k + 1)) := by
  have hn := rev_next l k h
  match k, h with
  | 0, h =>
    simp only [appendAV, List.take_zero, List.reverse_nil, List.map_nil, List.isEmpty_cons, List.isEmpty_nil, Bool.not_true, Bool.and_false, Bool.false_and, cond_false, nb_eq, beq_self_eq_true, Bool.not_false, Bool.and_true, cond_true, Bool.true_and] at hn ⊢
    have hn1 : (l.take 1).reverse.map encHarm = [encHarm l[0]] := by rw [← rev_next l 0 h]; rfl
    simp only [bv, Nat.zero_add, hn1]; rfl
  | k + 1, h =>
    have h1 := rev_len l (k + 1) (by omega)
    have h2 : ((l.take (k + 1)).reverse.map encHarm).isEmpty = false := by
      cases hq : (l.take (k + 1)).reverse.map encHarm with
      | nil => rw [hq] at h1; simp at h1
      | cons => rfl
    have h3 : decide (([encHarm l[k + 1]].length + ((l.take (k + 1)).reverse.map encHarm).length) * 32 ≤ 35184372088832) = true := by rw [h1]; simp; omega
    have h4 := rev_len l (k + 2) (by omega)
    have h5 : (bh l (k + 1)).length = k := by simp [bh]
    have h6 : Nat.max 1 0 = 1 := rfl
    simp only [appendAV, h2, h3, List.isEmpty_cons, cond_false, nb_eq, beq_self_eq_true, Bool.not_false, Bool.and_true, Bool.true_and, ble_dec, cond_true, hn, levRows_harm, h6, Ex.newObj, h4, h5, bh_next, bv]
theorem bv_ro (l : List Harm) (k : Nat) (h0 : 0 < k) (h : k ≤ l.length) : ∃ c, ro (bh l k) 8 (bv l k) = some (.sl 4 ((l.take k).reverse.map encHarm) c) := by
  match k, h0, h with
  | 1, _, _ => exact ⟨true, rfl⟩
  | k + 2, _, h =>
    have h1 := rev_len l (k + 2) h
    have h2 : ((l.take (k + 2)).reverse.map encHarm).take (k + 2) = (l.take (k + 2)).reverse.map encHarm := List.take_of_length_le (by omega)
    exact ⟨false, by simp only [bv, ro, lev, bh_get, h1, List.drop_zero, h2, nb_eq, ble_dec, beq_self_eq_true, Nat.zero_add, Nat.le_refl, decide_true, Bool.and_self, cond_true]; rfl⟩
theorem harmWorst_run (l : List Harm) : FN E 3 [.sl 4 (l.map encHarm) false] [] fun r _ => r = .b true := by
  refine FN_enter E fn3 ?_
  have h0 := small33_run
  by_cases hn : 10 < l.length
  · have e1 := dec_t (show (l.length : Int) > 10 by omega)
    simp only [c3, Option.getD, Try.f3]
    simp -implicitDefEqProofs (maxSteps := 1000000) only [go_sem, Nat.reduceAdd, Nat.reduceSub, Nat.reduceBEq, Nat.reduceMul, Nat.reduceLeDiff, Nat.reduceLT, Int.reduceEq, Int.reduceNeg, List.length_map, h0, e1]
  · have e1 := dec_f (show ¬ (l.length : Int) > 10 by omega)
    have hw := worst_run l (by omega) false
    simp only [encHarm] at hw
    have hw0 := fun st => worst_run [] (by simp) true st
    simp only [encHarm, List.map_nil] at hw0
    obtain ⟨x, hx⟩ : ∃ x, x = maxH l := ⟨_, rfl⟩
    rw [← hx] at hw
    obtain ⟨fd, hfd⟩ : ∃ fd : Nat → Bool, fd = fun k => (decide (l = []) || (l.take k).any (fun h => eqH h x)) := ⟨_, rfl⟩
    have hfd0 : ((l.length : Int) == 0 && (x.flood == 0 && (x.spill == 0 && (x.short == 0 && x.moves == 0)))) = fd 0 := by
      rw [hfd]
      by_cases hl : l = []
      · subst hl; rw [hx]; rfl
      · have e2 : ((l.length : Int) == 0) = false := by simp; exact hl
        rw [e2]; simp [hl]
    simp only [c3, Option.getD, Try.f3]
    simp -implicitDefEqProofs (maxSteps := 1000000) only [go_sem, Nat.reduceAdd, Nat.reduceSub, Nat.reduceBEq, Nat.reduceMul, Nat.reduceLeDiff, Nat.reduceLT, Int.reduceEq, Int.reduceNeg, List.length_map, h0, e1, hw, hfd0]
    refine EX_for E l.length (fun k => [(5, .b (fd k)), (6, bv l k), (7, .i .i64 k)]) (fun _ => []) (fun k => bh l k) (fun _ => True) trivial ?_ (fun k hk _ => ?_)
    · simp only [go_sem, bv, bh] <;> rfl
    · by_cases hlt : k < l.length
      · have e2 := dec_t (show (k : Int) < l.length by omega)
        have hwk := wrap64_succ hlt (by omega)
        have hrow := row_map encHarm l k hlt
        have hel := bv_elems l k hk
        have hap := bv_append l k hlt (by omega)
        have hls : lessH x l[k] = false := by rw [hx]; exact maxH_ge l _ (List.getElem_mem hlt)
        have hf1 : (fd k || (l[k].flood == x.flood && (l[k].spill == x.spill && (l[k].short == x.short && l[k].moves == x.moves)))) = fd (k + 1) := by
          rw [hfd]; simp only
          rw [List.take_succ_eq_append_getElem hlt, List.any_append, ← Bool.or_assoc]
          simp [eqH]
        simp only [encHarm] at hrow hap
        generalize bv l (k + 1) = nv at hap
        generalize bv l k = ov at hel
        simp -implicitDefEqProofs (maxSteps := 1000000) only [go_sem, Nat.reduceAdd, Nat.reduceSub, Nat.reduceBEq, Nat.reduceMul, Nat.reduceLeDiff, Nat.reduceLT, Int.reduceEq, Int.reduceNeg, List.length_map, e2, hwk, hrow, hls, hf1, ↓hel, ↓hap]
        exact ⟨hlt, trivial, trivial⟩
      · have e2 := dec_f (show ¬ (k : Int) < l.length by omega)
        have hkn : k = l.length := by omega
        subst hkn
        have hfin : fd l.length = true := by
          rw [hfd]; simp only
          by_cases hl : l = []
          · simp [hl]
          · rw [List.take_length]
            have : l.any (fun h => eqH h x) = true := by
              rw [List.any_eq_true]; exact ⟨x, by rw [hx]; exact maxH_mem l hl, eqH_refl x⟩
            rw [this]; simp
        have hback : ∀ vs ls tl, callV E 7 [bv l l.length] ⟨vs, ls, bh l l.length, tl⟩ = some (.ag [.i .i64 x.flood, .i .i64 x.spill, .i .i64 x.short, .i .i64 x.moves], ⟨vs, ls, bh l l.length, tl⟩) := by
          intro vs ls tl
          by_cases hl : l = []
          · subst hl; rw [hx]; exact hw0 _
          · obtain ⟨c, hr⟩ := bv_ro l l.length (List.length_pos_iff.2 hl) (Nat.le_refl _)
            rw [List.take_length] at hr
            have := worst_at l.reverse (by simp; omega) c (bv l l.length) ⟨vs, ls, bh l l.length, tl⟩ hr
            rw [maxH_reverse, ← hx] at this
            exact this
        generalize bv l l.length = ov at hback
        simp -implicitDefEqProofs (maxSteps := 1000000) only [go_sem, Nat.reduceAdd, Nat.reduceSub, Nat.reduceBEq, Nat.reduceMul, Nat.reduceLeDiff, Nat.reduceLT, Int.reduceEq, Int.reduceNeg, List.length_map, e2, hfin, hback, beq_self_eq_true]
end Go.Proofs.Ytfghngkiephakaa
