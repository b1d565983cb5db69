/- For all towns, numbers of wardens and lists of sights the law WardenAlarms returns true and leaves its arguments as they were; no condition. -/
import Derived.Test.YtdnhlbbbcallpaaPosts
import Derived.Test.YtdnhlbbbcallpaaFacts
import Derived.Test.YtdnhlbbbcallpaaRead
set_option linter.unnecessarySimpa false
set_option linter.unusedVariables false
set_option linter.unusedSimpArgs false
set_option linter.unusedSectionVars false
set_option linter.deprecated false
/- The law WardenAlarms: the walk. -/
set_option autoImplicit false
set_option linter.unusedVariables false
namespace Go.Proofs.Ytdnhlbbbcallpaa
open Go.Ex Go.Proofs
set_option maxHeartbeats 4000000
set_option maxRecDepth 100000
/-- raised, since, orders so far: ahead of hour i -/
def gst (t : Town) (ss : List Sight) : Nat → Bool × Nat × Nat
  | 0 => (false, 0, 0)
  | i + 1 => if (at' t ss (i + 1)).level = (at' t ss i).level then gst t ss i else (true, i, (gst t ss i).2.2 + 1)
theorem gst_ok (t : Town) (ss : List Sight) : ∀ i, (gst t ss i).2.1 ≤ i ∧ (gst t ss i).2.2 ≤ i ∧ ((gst t ss i).1 = false → (at' t ss i).level = 0 ∧ (gst t ss i).2.2 = 0)
  | 0 => by simp [gst, at_zero]
  | i + 1 => by
    obtain ⟨h1, h2, h3⟩ := gst_ok t ss i
    unfold gst
    split
    · rename_i he; exact ⟨by omega, by omega, fun h => by rw [he]; exact h3 h⟩
    · exact ⟨by simp, by simp; omega, fun h => by simp at h⟩
def es5 (t : Town) (ss : List Sight) (i : Nat) : List (Int × WO) := if (gst t ss i).1 then [(5, ⟨(at' t ss i).level, (gst t ss i).2.2, (gst t ss i).2.1, false⟩)] else []
theorem opens_nil : ∀ k, opens [] k = []
  | 0 => rfl
  | k + 1 => by
    have : isOpen [] k = false := rfl
    simp only [opens, opens_nil k, this]; rfl
theorem opens_one (t : Nat) (o : WO) (h : o.done = false) : ∀ k, opens [((t : Int), o)] k = if t < k then [(t : Int)] else []
  | 0 => by simp [opens]
  | k + 1 => by
    simp only [opens, opens_one t o h k]
    have hi : isOpen [((t : Int), o)] k = decide (k = t) := by
      unfold isOpen wfind
      by_cases hk : k = t
      · subst hk; simp [h]
      · have : ¬ (k : Int) = t := by omega
        rw [if_neg this]; simp [wfind, hk]
    rw [hi]
    by_cases hk : k = t
    · subst hk; simp
    · by_cases hlt : t < k
      · simp [hk, hlt, show t < k + 1 by omega]
      · simp [hk, hlt, show ¬ t < k + 1 by omega]
theorem opens5 (o : WO) (h : o.done = false) : opens [(5, o)] 40 = [5] := by
  have := opens_one 5 o h 40
  simpa using this
theorem callsOf_get (t : Int) (o : WO) : ∀ (n k : Nat) (h : k < (callsOf t o n).length), (callsOf t o n)[k] = ⟨t, o.level, o.number, k⟩
  | 0, k, h => by simp [callsOf] at h
  | n + 1, k, h => by
    simp only [callsOf]
    by_cases hk : k < n
    · rw [List.getElem_append_left (by rw [callsOf_len]; exact hk)]
      exact callsOf_get t o n k _
    · have : k = n := by simp [callsOf, callsOf_len] at h; omega
      subst this
      rw [List.getElem_append_right (by rw [callsOf_len]; omega)]
      simp [callsOf_len]

theorem min_many (w : Int) (i s : Nat) (o : WO) (ho : o.hour = s) (hw : 1 ≤ w ∧ w ≤ 16) (h1 : s ≤ i) (h2 : i ≤ 1000) :
    (((many w i o : Nat) : Int) != if IntKind.i64.wrap (1 + IntKind.i64.wrap ((IntKind.i64.wrap ((i : Int) - (s : Int))).tdiv 3)) < w then IntKind.i64.wrap (1 + IntKind.i64.wrap ((IntKind.i64.wrap ((i : Int) - (s : Int))).tdiv 3)) else w) = false := by
  have e1 : IntKind.i64.wrap ((i : Int) - (s : Int)) = (i : Int) - s := wrap64 (by omega) (by omega)
  have e2 : ((i : Int) - (s : Int)).tdiv 3 = ((i : Int) - s) / 3 := Int.tdiv_eq_ediv_of_nonneg (by omega)
  have e3 : IntKind.i64.wrap (((i : Int) - s) / 3) = ((i : Int) - s) / 3 := wrap64 (by omega) (by omega)
  have e4 : IntKind.i64.wrap (1 + ((i : Int) - s) / 3) = 1 + ((i : Int) - s) / 3 := wrap64 (by omega) (by omega)
  have hm : ((many w i o : Nat) : Int) = min w (((i : Int) - s) / 3 + 1) := by
    unfold many
    rw [ho, if_pos (by omega), e1, e2, e3]
    omega
  rw [e1, e2, e3, e4, hm]
  simp only [bne_eq_false_iff_eq]
  split <;> omega
theorem wardenAlarms_run (t : Town) (w : Int) (ss : List Sight) : FN E 10 [.ag (encTown t), .i .i64 w, .sl 2 (ss.map encSight) false] [] fun r _ => r = .b true := by
  refine FN_enter E fn10 ?_
  have h0 := small44_run
  by_cases hw : 1 ≤ w ∧ w ≤ 16
  · have hnew := new1 w hw
    by_cases hn : 40 < ss.length
    · have e1 : decide ((ss.length : Int) > 40) = true := by simp; omega
      simp only [c10, Option.getD, Try.f10, encTown]
      simp -implicitDefEqProofs (maxSteps := 1000000) only [go_sem, Nat.reduceAdd, Nat.reduceBEq, Nat.reduceMul, Nat.reduceLeDiff, Int.reduceEq, ti3, ti4, ti23, ti26, ti28, ti37, ti42, ti48, ti51, h0, hnew, List.length_map, e1]
    · have e1 : decide ((ss.length : Int) > 40) = false := by simp; omega
      have hR := fun st => run_run t ss (by omega) st
      simp only [encTown] at hR
      have hl : (runs t ⟨0, 0, 0⟩ ss).length = ss.length := runs_length t ss _
      have hrn : ∀ k (h : k < ss.length) h', (runs t ⟨0, 0, 0⟩ ss)[k]'h' = at' t ss (k + 1) := fun k h h' => run_at t ss k h h'
      generalize hrs : runs t ⟨0, 0, 0⟩ ss = rs at hR hl hrn
      simp only [c10, Option.getD, Try.f10, encTown]
      simp -implicitDefEqProofs (maxSteps := 1000000) only [go_sem, Nat.reduceAdd, Nat.reduceBEq, Nat.reduceMul, Nat.reduceLeDiff, Int.reduceEq, ti3, ti4, ti23, ti26, ti28, ti37, ti42, ti48, ti51, h0, hnew, List.length_map, e1, hR, hl]
      refine EX_for E ss.length (fun i => [(10, .i .i64 (at' t ss i).level), (11, .b (gst t ss i).1), (12, .i .i64 (gst t ss i).2.1), (13, .i .i64 i)]) (fun _ => []) (fun i => postH w (gst t ss i).2.2 0 (es5 t ss i)) (fun _ => True) trivial ?_ (fun i hi _ => ?_)
      · simp only [go_sem, Nat.reduceAdd, Nat.reduceBEq, Nat.reduceMul, Nat.reduceLeDiff, at_zero, gst, es5] <;> rfl
      · by_cases hlt : i < ss.length
        · have e2 : decide ((i : Int) < ss.length) = true := by simp; omega
          have hw1 := wrap64_succ hlt (by omega)
          have hrow := row_map encAlarm rs i (by omega)
          rw [hrn i hlt] at hrow
          simp only [encAlarm] at hrow
          obtain ⟨g1, g2, g3⟩ := gst_ok t ss i
          have hra := at_range t ss (i + 1) (by omega)
          by_cases hc : (at' t ss (i + 1)).level = (at' t ss i).level
          · have e3 : ((at' t ss (i + 1)).level != (at' t ss i).level) = false := by simp [hc]
            have hgs : gst t ss (i + 1) = gst t ss i := by rw [gst, if_pos hc]
            have hes : es5 t ss (i + 1) = es5 t ss i := by unfold es5; rw [hgs, hc]
            cases hra2 : (gst t ss i).1 with
            | false =>
              have hd : dues w i (es5 t ss i) (opens (es5 t ss i) 40) = [] := by unfold es5; rw [hra2]; simp only [Bool.false_eq_true, if_false, opens_nil, dues]
              have hdue := due1 w ((gst t ss i).2.2 : Int) i (es5 t ss i) hw.2
              rw [hd] at hdue
              simp only [List.map_nil] at hdue
              simp -implicitDefEqProofs (maxSteps := 1000000) only [go_sem, Nat.reduceAdd, Nat.reduceBEq, Nat.reduceMul, Nat.reduceLeDiff, Int.reduceEq, ti3, ti4, ti23, ti25, ti26, ti28, ti37, ti42, ti48, ti51, List.length_map, hl, e2, e3, hrow, hw1, hra2, hdue, hgs, hes, hc]
              exact ⟨hlt, trivial, trivial⟩
            | true =>
              have hes1 : es5 t ss i = [(5, ⟨(at' t ss i).level, (gst t ss i).2.2, (gst t ss i).2.1, false⟩)] := by unfold es5; rw [hra2]; rfl
              have hd : dues w i (es5 t ss i) (opens (es5 t ss i) 40) = callsOf 5 ⟨(at' t ss i).level, (gst t ss i).2.2, (gst t ss i).2.1, false⟩ (many w i ⟨(at' t ss i).level, (gst t ss i).2.2, (gst t ss i).2.1, false⟩) := by
                rw [hes1, opens5 _ rfl]; simp [dues, wfind]
              have hdue := due1 w ((gst t ss i).2.2 : Int) i (es5 t ss i) hw.2
              rw [hd] at hdue
              have hcl := callsOf_len 5 ⟨(at' t ss i).level, (gst t ss i).2.2, (gst t ss i).2.1, false⟩ (many w i ⟨(at' t ss i).level, (gst t ss i).2.2, (gst t ss i).2.1, false⟩)
              have hcg := callsOf_get 5 ⟨(at' t ss i).level, (gst t ss i).2.2, (gst t ss i).2.1, false⟩ (many w i ⟨(at' t ss i).level, (gst t ss i).2.2, (gst t ss i).2.1, false⟩)
              generalize hcs : callsOf 5 ⟨(at' t ss i).level, (gst t ss i).2.2, (gst t ss i).2.1, false⟩ (many w i ⟨(at' t ss i).level, (gst t ss i).2.2, (gst t ss i).2.1, false⟩) = cs at hdue hcl hcg
              simp -implicitDefEqProofs (maxSteps := 1000000) only [go_sem, Nat.reduceAdd, Nat.reduceBEq, Nat.reduceMul, Nat.reduceLeDiff, Int.reduceEq, ti3, ti4, ti23, ti25, ti26, ti28, ti37, ti42, ti48, ti51, List.length_map, hl, e2, e3, hrow, hw1, hra2, hdue, hgs, hes, hc]
              have hmin : ((cs.length : Int) != if IntKind.i64.wrap (1 + IntKind.i64.wrap ((IntKind.i64.wrap ((i : Int) - ((gst t ss i).2.1 : Int))).tdiv 3)) < w then IntKind.i64.wrap (1 + IntKind.i64.wrap ((IntKind.i64.wrap ((i : Int) - ((gst t ss i).2.1 : Int))).tdiv 3)) else w) = false := by
                rw [hcl]; exact min_many w i (gst t ss i).2.1 _ rfl hw (by omega) (by omega)
              refine ⟨fun h => (by rw [hmin] at h; cases h), fun _ => ?_⟩
              refine EX_for E cs.length (fun k => [(15, .i .i64 k)]) (fun _ => []) (fun _ => postH w (gst t ss i).2.2 0 (es5 t ss i)) (fun _ => True) trivial ?_ (fun k hk _ => ?_)
              · simp only [go_sem, Nat.reduceAdd, Nat.reduceBEq, Nat.reduceMul, Nat.reduceLeDiff] <;> rfl
              · by_cases hkl : k < cs.length
                · have f2 : decide ((k : Int) < cs.length) = true := by simp; omega
                  have fw := wrap64_succ hkl (by rw [hcl]; have := many_le w i ⟨(at' t ss i).level, (gst t ss i).2.2, (gst t ss i).2.1, false⟩ hw.2; omega)
                  have frow := row_map encCL cs k hkl
                  rw [hcg k hkl] at frow
                  simp only [encCL] at frow
                  simp -implicitDefEqProofs (maxSteps := 1000000) only [go_sem, Nat.reduceAdd, Nat.reduceBEq, Nat.reduceMul, Nat.reduceLeDiff, Int.reduceEq, ti3, ti4, ti23, ti25, ti26, ti28, ti37, ti42, ti48, ti51, List.length_map, hl, e2, hrow, f2, fw, frow, bne_self_eq_false, hgs, hes, hc, e3, hra2]
                  exact ⟨hkl, trivial, trivial⟩
                · have f2 : decide ((k : Int) < cs.length) = false := by simp; omega
                  simp -implicitDefEqProofs (maxSteps := 1000000) only [go_sem, Nat.reduceAdd, Nat.reduceBEq, Nat.reduceMul, Nat.reduceLeDiff, Int.reduceEq, ti3, ti4, ti23, ti25, ti26, ti28, ti37, ti42, ti48, ti51, List.length_map, hl, e2, hrow, hw1, f2, hgs, hes, hc, e3, hra2]
                  exact ⟨hlt, trivial, trivial⟩
          · have e3 : ((at' t ss (i + 1)).level != (at' t ss i).level) = true := by simp [hc]
            have hgs : gst t ss (i + 1) = (true, i, (gst t ss i).2.2 + 1) := by rw [gst, if_neg hc]
            have hes : es5 t ss (i + 1) = [(5, ⟨(at' t ss (i + 1)).level, (((gst t ss i).2.2 : Nat) : Int) + 1, i, false⟩)] := by unfold es5; rw [hgs]; rfl
            have hok : okRaise 5 (at' t ss (i + 1)).level i = true := by
              obtain ⟨q1, q2, -⟩ := hra
              clear hR hrow hrn hw1
              unfold okRaise; simp only [Bool.and_eq_true, decide_eq_true_eq]
              exact ⟨⟨⟨⟨⟨by decide, by decide⟩, q1⟩, q2⟩, by omega⟩, by omega⟩
            have hra3 := raise1 w (gst t ss i).2.2 (es5 t ss i) 5 (at' t ss (i + 1)).level i hok (by omega)
            have hws : wset 5 ⟨(at' t ss (i + 1)).level, (((gst t ss i).2.2 : Nat) : Int) + 1, i, false⟩ (es5 t ss i) = [(5, ⟨(at' t ss (i + 1)).level, (((gst t ss i).2.2 : Nat) : Int) + 1, i, false⟩)] := by
              unfold es5; cases (gst t ss i).1 <;> simp [wset]
            rw [hws] at hra3
            have hne : (((((gst t ss i).2.2 : Nat) : Int) + 1) == 0) = false := by simp; omega
            have hne2 : (((((gst t ss i).2.2 : Nat) : Int) + 1) != 0) = true := by simp; omega
            have hcast : ((((gst t ss i).2.2 + 1 : Nat)) : Int) = (((gst t ss i).2.2 : Nat) : Int) + 1 := by omega
            have hwm : IntKind.i64.wrap ((((gst t ss i).2.2 : Nat) : Int) + 1) = (((gst t ss i).2.2 : Nat) : Int) + 1 := wrap64 (by omega) (by omega)
            have hd : dues w i [(5, ⟨(at' t ss (i + 1)).level, (((gst t ss i).2.2 : Nat) : Int) + 1, i, false⟩)] (opens [(5, ⟨(at' t ss (i + 1)).level, (((gst t ss i).2.2 : Nat) : Int) + 1, i, false⟩)] 40) = callsOf 5 ⟨(at' t ss (i + 1)).level, (((gst t ss i).2.2 : Nat) : Int) + 1, i, false⟩ (many w i ⟨(at' t ss (i + 1)).level, (((gst t ss i).2.2 : Nat) : Int) + 1, i, false⟩) := by
              rw [opens5 _ rfl]; simp [dues, wfind]
            have hdue := due1 w ((((gst t ss i).2.2 : Nat) : Int) + 1) i [(5, ⟨(at' t ss (i + 1)).level, (((gst t ss i).2.2 : Nat) : Int) + 1, i, false⟩)] hw.2
            rw [hd] at hdue
            have hcl := callsOf_len 5 ⟨(at' t ss (i + 1)).level, (((gst t ss i).2.2 : Nat) : Int) + 1, i, false⟩ (many w i ⟨(at' t ss (i + 1)).level, (((gst t ss i).2.2 : Nat) : Int) + 1, i, false⟩)
            have hcg := callsOf_get 5 ⟨(at' t ss (i + 1)).level, (((gst t ss i).2.2 : Nat) : Int) + 1, i, false⟩ (many w i ⟨(at' t ss (i + 1)).level, (((gst t ss i).2.2 : Nat) : Int) + 1, i, false⟩)
            generalize hcs : callsOf 5 ⟨(at' t ss (i + 1)).level, (((gst t ss i).2.2 : Nat) : Int) + 1, i, false⟩ (many w i ⟨(at' t ss (i + 1)).level, (((gst t ss i).2.2 : Nat) : Int) + 1, i, false⟩) = cs at hdue hcl hcg
            have hmin : ((cs.length : Int) != if IntKind.i64.wrap (1 + IntKind.i64.wrap ((IntKind.i64.wrap ((i : Int) - (i : Int))).tdiv 3)) < w then IntKind.i64.wrap (1 + IntKind.i64.wrap ((IntKind.i64.wrap ((i : Int) - (i : Int))).tdiv 3)) else w) = false := by
              rw [hcl]; exact min_many w i i _ rfl hw (by omega) (by omega)
            simp -implicitDefEqProofs (maxSteps := 1000000) only [go_sem, Nat.reduceAdd, Nat.reduceBEq, Nat.reduceMul, Nat.reduceLeDiff, Int.reduceEq, ti3, ti4, ti23, ti25, ti26, ti28, ti37, ti42, ti48, ti51, List.length_map, hl, e2, e3, hrow, hw1, hra3, hne, hne2, hwm, hdue, hgs, hes, hc, hcast]
            refine ⟨fun h => (by rw [hmin] at h; cases h), fun _ => ?_⟩
            refine EX_for E cs.length (fun k => [(15, .i .i64 k)]) (fun _ => []) (fun _ => postH w ((((gst t ss i).2.2 : Nat) : Int) + 1) 0 [(5, ⟨(at' t ss (i + 1)).level, (((gst t ss i).2.2 : Nat) : Int) + 1, i, false⟩)]) (fun _ => True) trivial ?_ (fun k hk _ => ?_)
            · simp only [go_sem, Nat.reduceAdd, Nat.reduceBEq, Nat.reduceMul, Nat.reduceLeDiff] <;> rfl
            · by_cases hkl : k < cs.length
              · have f2 : decide ((k : Int) < cs.length) = true := by simp; omega
                have fw := wrap64_succ hkl (by rw [hcl]; have := many_le w i ⟨(at' t ss (i + 1)).level, (((gst t ss i).2.2 : Nat) : Int) + 1, i, false⟩ hw.2; omega)
                have frow := row_map encCL cs k hkl
                rw [hcg k hkl] at frow
                simp only [encCL] at frow
                simp -implicitDefEqProofs (maxSteps := 1000000) only [go_sem, Nat.reduceAdd, Nat.reduceBEq, Nat.reduceMul, Nat.reduceLeDiff, Int.reduceEq, ti3, ti4, ti23, ti25, ti26, ti28, ti37, ti42, ti48, ti51, List.length_map, hl, e2, hrow, f2, fw, frow, bne_self_eq_false, hgs, hes, hc, hcast, e3]
                exact ⟨hkl, trivial, trivial⟩
              · have f2 : decide ((k : Int) < cs.length) = false := by simp; omega
                simp -implicitDefEqProofs (maxSteps := 1000000) only [go_sem, Nat.reduceAdd, Nat.reduceBEq, Nat.reduceMul, Nat.reduceLeDiff, Int.reduceEq, ti3, ti4, ti23, ti25, ti26, ti28, ti37, ti42, ti48, ti51, List.length_map, hl, e2, hrow, hw1, f2, hgs, hes, hc, hcast, e3]
                exact ⟨hlt, trivial, trivial⟩
        · have e2 : decide ((i : Int) < ss.length) = false := by simp; omega
          simp -implicitDefEqProofs (maxSteps := 1000000) only [go_sem, Nat.reduceAdd, Nat.reduceBEq, Nat.reduceMul, Nat.reduceLeDiff, Int.reduceEq, ti3, ti4, ti23, ti26, ti28, ti37, ti42, ti48, ti51, List.length_map, hl, e2]
  · have hnew := new_no w hw
    simp only [c10, Option.getD, Try.f10, encTown]
    simp -implicitDefEqProofs (maxSteps := 1000000) only [go_sem, Nat.reduceAdd, Nat.reduceBEq, Nat.reduceMul, Nat.reduceLeDiff, Int.reduceEq, ti3, ti4, ti23, ti26, ti28, ti37, ti42, ti48, ti51, h0, hnew, List.length_map]
end Go.Proofs.Ytdnhlbbbcallpaa
/- WardenAlarms -/
set_option autoImplicit false
set_option linter.unusedVariables false
namespace Go.Proofs.Ytdnhlbbbcallpaa
open Go.Ex Go.Proofs Go.ChangeShapes Go.WideShapes Go.ChangeAt Go.RowKit
set_option maxRecDepth 100000
theorem wardenAlarms_contract (H : Type) (enc : TypeId × Value → H) (W : World) (base : Nat) (args : Array Value) (ds gs : List (DataW H)) (before : List MemPlace)
    (hval : ∀ (j : Nat) t v, Try.f10.params[j]? = some t → args[j]? = some v → Value.okWide Try.prog W .any base t v)
    (hW : DataW.Whole enc Try.prog Try.f10.params.toList Rows.wardenAlarmsSpec.vars false W args.toList ds gs before) :
    Calls Try.prog 10 args W fun e W' => ∃ v, e = .returned v ∧ Rows.wardenAlarmsSpec.post enc Try.prog Try.f10 false true false false W args v W' := by
  have hW' := hW
  obtain ⟨pp, qq, hA, _⟩ := hW'
  rw [Try.params10] at hA hval
  obtain ⟨v0, vs0, d0, ds0, p0, q0, ha0, hd0, hp0, h0, r0⟩ := trodAll_cons hA
  obtain ⟨v1, vs1, d1, ds1, p1, q1, ha1, hd1, hp1, h1, r1⟩ := trodAll_cons r0
  obtain ⟨v2, vs2, d2, ds2, p2, q2, ha2, hd2, hp2, h2, r2⟩ := trodAll_cons r1
  obtain ⟨e1, e2, e3⟩ := trodAll_nil r2
  have hargs : args.toList = [v0, v1, v2] := by rw [ha0, ha1, ha2, e1]
  have hav : ∀ j : Nat, args[j]? = [v0, v1, v2][j]? := fun j => by rw [← hargs, Array.getElem?_toList]
  obtain ⟨x0, o0, _, k0⟩ := rdv_struct Try.underlying23 (hval 0 23 v0 rfl (hav 0)) h0 rd_Town
  obtain ⟨x1, o1, _, k1⟩ := rdv_int Try.underlying3 (hval 1 3 v1 rfl (hav 1)) h1 
  obtain ⟨x2, o2, _, k2⟩ := rdv_slice Try.underlying26 (hval 2 26 v2 rfl (hav 2)) h2 rd_Sights
  obtain ⟨h', hr⟩ := FN_run (wardenAlarms_run x0 x1 x2)
  refine law_post (tb := 4) laid ?_ rfl Try.underlying4 (by kernel_rfl) ?_ hW (law_calls runOK (by rw [hargs]; exact VRs.cons k0 (VRs.cons k1 (VRs.cons k2 VRs.nil))) hr)
  · intro t ht
    rw [Try.params10] at ht
    have : t = 23 ∨ t = 3 ∨ t = 26 := by simpa using ht
    rcases this with rfl | rfl | rfl
    all_goals exact ⟨by kernel_rfl, of_decide_eq_true (by kernel_rfl)⟩
  · intro ds hl
    rw [Try.params10] at hl
    match ds, hl with
    | [a0, a1, a2], _ => rfl
theorem wardenAlarms_lifted (os : Os) (started : os.Started) (H : Type) (enc : TypeId × Value → H) :
    ReturnsInHanded {} Try.checked os 10 .any (Rows.wardenAlarmsSpec.pre6 enc Try.prog Try.f10 Rows.wardenAlarmsRow.domain false) (Rows.wardenAlarmsSpec.post enc Try.prog Try.f10 false true false false) := by
  refine returnsInHanded_of_change (C := Try.checked) own started (by kernel_rfl) Try.func10
    (ChangeSpec.witness6 (enc := enc) (C := Try.checked) false ⟨#[], #[.agg #[.string ByteArray.empty, .int .i64 0, .int .i64 0, .int .i64 0, .int .i64 0, .int .i64 0, .int .i64 0], .int .i64 0, .slice none 0 0], []⟩ 8 (by kernel_rfl) (by kernel_rfl) (by kernel_rfl) (by kernel_rfl)) ?_
  intro W base args ds gs before hval hW _ _
  exact wardenAlarms_contract H enc W base args ds gs before hval hW
theorem wardenAlarms_holds : Rows.WardenAlarmsSaid :=
  OpenClaim.holds_of_wide 10 Try.f10 rfl rfl rfl rfl rfl rfl rfl ⟨rfl, rfl, rfl, rfl, rfl⟩ rfl rfl rfl rfl rfl (by kernel_rfl) Try.func10 (by kernel_rfl)
    (of_decide_eq_true (by kernel_rfl)) (by unfold Func.isWrapper; first | (rw [if_pos (by decide +kernel)]; kernel_rfl) | (rw [if_neg (by decide +kernel)]; exact ⟨rfl, rfl⟩))
    (fun os started H enc _ => wardenAlarms_lifted os started H enc)
end Go.Proofs.Ytdnhlbbbcallpaa
