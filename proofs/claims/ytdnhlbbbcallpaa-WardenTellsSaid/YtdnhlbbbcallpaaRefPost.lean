/- The reference post: what each function computes. -/
import Derived.Test.YtdnhlbbbcallpaaPosts3
import Derived.Test.YtdnhlbbbcallpaaEng20
set_option linter.unnecessarySimpa false
set_option linter.unusedVariables false
set_option linter.unusedSimpArgs false
set_option linter.unusedSectionVars false
set_option linter.deprecated false
/- The reference's post: what each function computes. -/
set_option autoImplicit false
set_option linter.unusedVariables false
namespace Go.Proofs.Ytdnhlbbbcallpaa
open Go.Ex Go.Proofs
set_option maxHeartbeats 4000000
set_option maxRecDepth 100000
structure RO where (town level hour : Int) (done : Bool)
def encRO (o : RO) : List AV := [.i .i64 o.town, .i .i64 o.level, .i .i64 o.hour, .b o.done]
/-- the last order of a town among the first n -/
def lastR (L : List RO) (t : Int) : Nat → Int
  | 0 => -1
  | n + 1 => if (L[n]?.map (·.town)) = some t then n else lastR L t n
theorem lastR_range (L : List RO) (t : Int) : ∀ n, -1 ≤ lastR L t n ∧ lastR L t n < n
  | 0 => by simp [lastR]
  | n + 1 => by
    have := lastR_range L t n
    simp only [lastR]; split <;> omega
theorem last_FN (w : Int) (L : List RO) (c : Bool) (t : Int) (hL : L.length ≤ 1000) : FN E 34 [.ep [.i .i64 w, .sl 4 (L.map encRO) c] 0, .i .i64 t] [] fun r h' => r = .i .i64 (lastR L t L.length) := by
  refine FN_enter E fn34 ?_
  obtain ⟨res, hres⟩ : ∃ r, r = lastR L t L.length := ⟨_, rfl⟩
  rw [← hres]
  have w0 : IntKind.i64.wrap ((L.length : Int) - 1) = (L.length : Int) - 1 := wrap64 (by omega) (by omega)
  simp only [c34, Option.getD, Try.f34]
  simp -implicitDefEqProofs (maxSteps := 1000000) only [go_sem, Nat.reduceAdd, Nat.reduceBEq, Nat.reduceMul, Nat.reduceLeDiff, ti3, ti4, ti39, ti62, ti64, ti68, w0, List.length_map]
  refine EX_for E L.length (fun k => [(5, .i .i64 ((L.length : Int) - 1 - k))]) (fun _ => []) (fun _ => []) (fun k => lastR L t (L.length - k) = res) (by rw [Nat.sub_zero, hres]) ?_ (fun k hk hP => ?_)
  · simp only [go_sem, Nat.reduceAdd, Nat.reduceBEq, Nat.reduceMul, Nat.reduceLeDiff, Int.natCast_zero, Int.sub_zero, Int.cast_ofNat_Int] <;> rfl
  · by_cases hlt : k < L.length
    · have e2 : decide ((L.length : Int) - 1 - k ≥ 0) = true := by simp; omega
      have hw : IntKind.i64.wrap ((L.length : Int) - 1 - k - 1) = (L.length : Int) - 1 - (k + 1 : Nat) := by rw [wrap64 (by omega) (by omega)]; omega
      obtain ⟨j, hj⟩ : ∃ j, L.length - k = j + 1 := ⟨L.length - k - 1, by omega⟩
      have hjl : j < L.length := by omega
      have hji : (L.length : Int) - 1 - k = (j : Int) := by omega
      have hrow := row_map encRO L j hjl
      simp only [encRO] at hrow
      have hjk : L.length - (k + 1) = j := by omega
      rw [hj] at hP
      simp only [lastR, List.getElem?_eq_getElem hjl, Option.map_some, Option.some.injEq] at hP
      rw [hji] at e2 hw
      rw [hjk]
      by_cases ht : L[j].town = t
      · have e3 : (L[j].town == t) = true := by simp [ht]
        rw [if_pos ht] at hP
        subst hP
        simp -implicitDefEqProofs (maxSteps := 1000000) only [go_sem, Nat.reduceAdd, Nat.reduceBEq, Nat.reduceMul, Nat.reduceLeDiff, ti3, ti4, ti39, ti62, ti64, ti68, hji, e2, hrow, e3]
      · have e3 : (L[j].town == t) = false := by simp [ht]
        rw [if_neg ht] at hP
        simp -implicitDefEqProofs (maxSteps := 1000000) only [go_sem, Nat.reduceAdd, Nat.reduceBEq, Nat.reduceMul, Nat.reduceLeDiff, ti3, ti4, ti39, ti62, ti64, ti68, hji, e2, hrow, e3, hw]
        exact ⟨hlt, hP, trivial⟩
    · have e2 : decide ((L.length : Int) - 1 - k ≥ 0) = false := by simp; omega
      have : L.length - k = 0 := by omega
      rw [this] at hP
      simp only [lastR] at hP
      simp -implicitDefEqProofs (maxSteps := 1000000) only [go_sem, Nat.reduceAdd, Nat.reduceBEq, Nat.reduceMul, Nat.reduceLeDiff, ti3, ti4, ti39, ti62, ti64, ti68, e2, ← hP]
theorem last_ep (w : Int) (L : List RO) (c : Bool) (t : Int) (hL : L.length ≤ 1000) (st : St) : callV E 34 [.ep [.i .i64 w, .sl 4 (L.map encRO) c] 0, .i .i64 t] st = some (.i .i64 (lastR L t L.length), st) := by
  refine call1 E fn34 rfl (by simp -implicitDefEqProofs only [go_sem, Nat.reduceAdd, Nat.reduceBEq, Nat.reduceMul, Nat.reduceLeDiff]) (by simp -implicitDefEqProofs only [go_sem, Nat.reduceAdd, Nat.reduceBEq, Nat.reduceLeDiff]) ?_
  obtain ⟨r, h', h1, h2⟩ := FN_eq E (last_FN w L c t hL)
  exact optQ_iff.2 ⟨(r, h'), h1, by rw [h2]; rfl⟩
def doneR (L : List RO) (i : Int) : Bool := match L[i.toNat]? with | some o => o.done | none => true
def awaitsR (w : Int) (L : List RO) (c : CL) : Bool :=
  decide (lastR L c.town L.length ≥ 0) && (lastR L c.town L.length == IntKind.i64.wrap (c.number - 1)) && !doneR L (lastR L c.town L.length) && decide (c.warden ≥ 0) && decide (c.warden < w)
theorem awaitsR_FN (w : Int) (L : List RO) (cl : Bool) (c : CL) (hL : L.length ≤ 1000) : FN E 25 [.ep [.i .i64 w, .sl 4 (L.map encRO) cl] 0, .ag (encCL c)] [] fun r h' => r = .b (awaitsR w L c) := by
  refine FN_enter E fn25 ?_
  have hl := fun st => last_ep w L cl c.town hL st
  unfold awaitsR
  have hr := lastR_range L c.town L.length
  generalize lastR L c.town L.length = i at hl hr
  simp only [c25, Option.getD, Try.f25, encCL]
  by_cases hi : 0 ≤ i
  · obtain ⟨j, rfl⟩ := Int.eq_ofNat_of_zero_le hi
    have hj : j < L.length := by omega
    have hrow := row_map encRO L j hj
    simp only [encRO] at hrow
    have hd : doneR L (j : Int) = L[j].done := by simp [doneR, hj]
    have e1 : decide ((j : Int) ≥ 0) = true := by simp
    rw [hd]
    cases h1 : ((j : Int) == IntKind.i64.wrap (c.number - 1)) with
    | false =>
      simp -implicitDefEqProofs (maxSteps := 1000000) only [go_sem, Nat.reduceAdd, Nat.reduceBEq, Nat.reduceMul, Nat.reduceLeDiff, ti3, ti4, ti39, ti42, ti62, ti64, ti68, hl, hrow, e1, h1]
    | true =>
      cases h2 : L[j].done with
      | true =>
        rw [h2] at hrow
        simp -implicitDefEqProofs (maxSteps := 1000000) only [go_sem, Nat.reduceAdd, Nat.reduceBEq, Nat.reduceMul, Nat.reduceLeDiff, ti3, ti4, ti39, ti42, ti62, ti64, ti68, hl, hrow, e1, h1]
      | false =>
        rw [h2] at hrow
        cases h3 : decide (c.warden ≥ 0) with
        | true =>
          simp -implicitDefEqProofs (maxSteps := 1000000) only [go_sem, Nat.reduceAdd, Nat.reduceBEq, Nat.reduceMul, Nat.reduceLeDiff, ti3, ti4, ti39, ti42, ti62, ti64, ti68, hl, hrow, e1, h1, h3]
        | false =>
          simp -implicitDefEqProofs (maxSteps := 1000000) only [go_sem, Nat.reduceAdd, Nat.reduceBEq, Nat.reduceMul, Nat.reduceLeDiff, ti3, ti4, ti39, ti42, ti62, ti64, ti68, hl, hrow, e1, h1, h3]
  · have e1 : decide (i ≥ 0) = false := by simp; omega
    have e2 : i = -1 := by omega
    simp -implicitDefEqProofs (maxSteps := 1000000) only [go_sem, Nat.reduceAdd, Nat.reduceBEq, Nat.reduceMul, Nat.reduceLeDiff, ti3, ti4, ti39, ti42, ti62, ti64, ti68, hl, e1]
end Go.Proofs.Ytdnhlbbbcallpaa
/- The reference's post against the program's: Open, Due, Raise, Ack. -/
set_option autoImplicit false
set_option linter.unusedVariables false
namespace Go.Proofs.Ytdnhlbbbcallpaa
open Go.Ex Go.Proofs
set_option maxHeartbeats 4000000
set_option maxRecDepth 100000
/-- a post and the reference's list of orders tell the same -/
structure Agree (p : PS) (L : List RO) : Prop where
  m : p.m = L.length
  len : L.length ≤ 1000
  hours : ∀ o ∈ L, 0 ≤ o.hour ∧ o.hour ≤ 16777216
  find : ∀ t, wfind t p.es = if h : 0 ≤ lastR L t L.length ∧ (lastR L t L.length).toNat < L.length then some ⟨L[(lastR L t L.length).toNat].level, lastR L t L.length + 1, L[(lastR L t L.length).toNat].hour, L[(lastR L t L.length).toNat].done⟩ else none
theorem agree_cases {p : PS} {L : List RO} (h : Agree p L) (t : Int) : (lastR L t L.length = -1 ∧ wfind t p.es = none) ∨ ∃ (j : Nat) (hj : j < L.length), lastR L t L.length = j ∧ wfind t p.es = some ⟨L[j].level, (j : Int) + 1, L[j].hour, L[j].done⟩ := by
  have hr := lastR_range L t L.length
  have hf := h.find t
  by_cases h0 : 0 ≤ lastR L t L.length
  · obtain ⟨j, hj⟩ := Int.eq_ofNat_of_zero_le h0
    have hjl : j < L.length := by omega
    right
    refine ⟨j, hjl, hj, ?_⟩
    rw [hf, dif_pos ⟨h0, by omega⟩]
    simp only [hj, Int.toNat_natCast]
  · left
    rw [dif_neg (fun hh => h0 hh.1)] at hf
    exact ⟨by omega, hf⟩
theorem open_RF {p : PS} {L : List RO} (h : Agree p L) (w : Int) (c : Bool) : FN E 31 [.ep [.i .i64 w, .sl 4 (L.map encRO) c] 0] [] fun r h' => ro h' 8 r = some (.sl 1 ((opens p.es 40).map enc1) false) ∧ clean h' r = true := by
  refine FN_enter E fn31 ?_
  have hl := fun t st => last_ep w L c t h.len st
  obtain ⟨es, hes⟩ : ∃ es, es = p.es := ⟨_, rfl⟩
  have hca := agree_cases h
  rw [← hes] at hca ⊢
  obtain ⟨r, hr⟩ : ∃ r, r = (opens es 40).map enc1 := ⟨_, rfl⟩
  rw [← hr]
  simp only [c31, Option.getD, Try.f31]
  simp -implicitDefEqProofs only [go_sem, Nat.reduceAdd, Nat.reduceBEq, Nat.reduceMul, Nat.reduceLeDiff, ti3, ti4, ti39, ti51, ti62, ti64, ti68]
  refine EX_for E 40 (fun k => [(3, .hs 0 1 0 (opens es k).length (opens es k).length), (4, .i .i64 k)]) (fun _ => []) (fun k => [.arr 1 ((opens es k).map enc1) true 0]) (fun _ => True) trivial ?_ (fun k hk _ => ?_)
  · simp only [go_sem, Nat.reduceAdd, Nat.reduceBEq, Nat.reduceMul, Nat.reduceLeDiff, opens, List.map_nil] <;> rfl
  · by_cases hlt : k < 40
    · have e2 : decide ((k : Int) < 40) = true := by simp; omega
      have hw := wrap64_succ hlt (by omega)
      have hll := opens_len es k
      have hfit : decide (((opens es k).length + 1) * 8 ≤ 35184372088832) = true := by simp; omega
      have hop : isOpen es k = match wfind (k : Int) es with | some o => !o.done | none => false := rfl
      have hk1 : opens es (k + 1) = opens es k ++ (if isOpen es k then [(k : Int)] else []) := rfl
      rcases hca (k : Int) with ⟨h1, h2⟩ | ⟨j, hj, h1, h2⟩
      · rw [h2] at hop
        simp only at hop
        rw [hop] at hk1
        simp only [Bool.false_eq_true, if_false, List.append_nil] at hk1
        have hlk := hl (k : Int)
        rw [h1] at hlk
        have e3 : decide ((-1 : Int) ≥ 0) = false := by decide
        rw [hk1]
        simp -implicitDefEqProofs (maxSteps := 1000000) only [go_sem, Nat.reduceAdd, Nat.reduceBEq, Nat.reduceMul, Nat.reduceLeDiff, ti3, ti4, ti39, ti51, ti62, ti64, ti68, e2, hw, hlk, e3]
        exact ⟨hlt, trivial, trivial⟩
      · rw [h2] at hop
        simp only at hop
        have hlk := hl (k : Int)
        rw [h1] at hlk
        have e3 : decide ((j : Int) ≥ 0) = true := by simp
        have hrow := row_map encRO L j hj
        simp only [encRO] at hrow
        rw [hop] at hk1
        cases hd : L[j].done with
        | true =>
          rw [hd] at hrow hk1
          simp only [Bool.not_true, Bool.false_eq_true, if_false, List.append_nil] at hk1
          rw [hk1]
          simp -implicitDefEqProofs (maxSteps := 1000000) only [go_sem, Nat.reduceAdd, Nat.reduceBEq, Nat.reduceMul, Nat.reduceLeDiff, ti3, ti4, ti39, ti51, ti62, ti64, ti68, e2, hw, hlk, e3, hrow]
          exact ⟨hlt, trivial, trivial⟩
        | false =>
          rw [hd] at hrow hk1
          simp only [Bool.not_false, if_true] at hk1
          rw [hk1]
          simp -implicitDefEqProofs (maxSteps := 1000000) only [go_sem, Nat.reduceAdd, Nat.reduceBEq, Nat.reduceMul, Nat.reduceLeDiff, ti3, ti4, ti39, ti51, ti62, ti64, ti68, e2, hw, hlk, e3, hrow, List.length_map, hfit, List.map_append, List.map_cons, List.map_nil, enc1, List.length_append]
          exact ⟨hlt, trivial, trivial⟩
    · have e2 : decide ((k : Int) < 40) = false := by simp; omega
      have hkn : k = 40 := by omega
      simp -implicitDefEqProofs only [go_sem, Nat.reduceAdd, Nat.reduceBEq, Nat.reduceMul, Nat.reduceLeDiff, ti3, ti4, ti39, ti51, ti62, ti64, ti68, e2, List.length_map]
      rw [hr, hkn]
      all_goals try simp
theorem open_R {p : PS} {L : List RO} (h : Agree p L) (w : Int) (c : Bool) (st : St) : callV E 31 [.ep [.i .i64 w, .sl 4 (L.map encRO) c] 0] st = some (.sl 1 ((opens p.es 40).map enc1) false, st) := by
  refine call1 E fn31 rfl (by simp -implicitDefEqProofs only [go_sem, Nat.reduceAdd, Nat.reduceBEq, Nat.reduceMul, Nat.reduceLeDiff]) (by simp -implicitDefEqProofs only [go_sem, Nat.reduceAdd, Nat.reduceBEq, Nat.reduceLeDiff]) ?_
  obtain ⟨r, h', h1, h2⟩ := FN_eq E (open_RF h w c)
  exact optQ_iff.2 ⟨(r, h'), h1, h2.1⟩
/-- a warden is called -/
theorem called_R (W hour oh : Int) (o : WO) (v : Nat) (ho : o.hour = oh) (h1 : 0 ≤ oh ∧ oh ≤ 16777216) (h2 : -9223372036854775808 ≤ hour ∧ hour ≤ 9223372036854775807) (hW : 1 ≤ W ∧ W ≤ 16) (hv : (v : Int) < W) :
    decide (hour ≥ IntKind.i64.wrap (oh + IntKind.i64.wrap (3 * (v : Int)))) = decide (v < many W hour o) := by
  have e1 : IntKind.i64.wrap (3 * (v : Int)) = 3 * v := wrap64 (by omega) (by omega)
  have e2 : IntKind.i64.wrap (oh + 3 * (v : Int)) = oh + 3 * v := wrap64 (by omega) (by omega)
  rw [e1, e2]
  unfold many
  rw [ho]
  by_cases hh : hour ≥ oh
  · have e3 : IntKind.i64.wrap (hour - oh) = hour - oh := wrap64 (by omega) (by omega)
    have e4 : (hour - oh).tdiv 3 = (hour - oh) / 3 := Int.tdiv_eq_ediv_of_nonneg (by omega)
    have e5 : IntKind.i64.wrap ((hour - oh) / 3) = (hour - oh) / 3 := wrap64 (by omega) (by omega)
    rw [if_pos hh, e3, e4, e5]
    rw [decide_eq_decide]; omega
  · rw [if_neg hh, decide_eq_decide]; omega
theorem due_RF {p : PS} {L : List RO} (h : Agree p L) (W hour : Int) (c : Bool) (hW : 1 ≤ W ∧ W ≤ 16) (hh : -9223372036854775808 ≤ hour ∧ hour ≤ 9223372036854775807) :
    FN E 28 [.ep [.i .i64 W, .sl 4 (L.map encRO) c] 0, .i .i64 hour] [] fun r h' => ro h' 8 r = some (.sl 4 ((dues W hour p.es (opens p.es 40)).map encCL) false) ∧ clean h' r = true := by
  refine FN_enter E fn28 ?_
  have hlast := fun t st => last_ep W L c t h.len st
  have hopen := fun st => open_R h W c st
  obtain ⟨es, hes⟩ : ∃ es, es = p.es := ⟨_, rfl⟩
  have hca := agree_cases h
  rw [← hes] at hca hopen ⊢
  have hmem := opens_mem es 40
  have hll := opens_len es 40
  obtain ⟨r, hr⟩ : ∃ r, r = (dues W hour es (opens es 40)).map encCL := ⟨_, rfl⟩
  rw [← hr]
  generalize hl : opens es 40 = l at hr hopen hmem hll
  have w3 : IntKind.i64.wrap (-1) = -1 := by decide
  simp only [c28, Option.getD, Try.f28]
  simp -implicitDefEqProofs only [go_sem, Nat.reduceAdd, Nat.reduceBEq, Nat.reduceMul, Nat.reduceLeDiff, Int.reduceEq, ti3, ti4, ti39, ti42, ti48, ti51, ti62, ti64, ti68, hopen, List.length_map]
  refine EX_for E l.length (fun k => [(6, .hs 0 4 0 (dues W hour es (l.take k)).length (dues W hour es (l.take k)).length), (7, .i .i64 k)]) (fun _ => []) (fun k => [.arr 4 ((dues W hour es (l.take k)).map encCL) true 0]) (fun _ => True) trivial ?_ (fun k hk _ => ?_)
  · simp only [go_sem, Nat.reduceAdd, Nat.reduceBEq, Nat.reduceMul, Nat.reduceLeDiff, List.take_zero, dues, List.map_nil] <;> rfl
  · by_cases hlt : k < l.length
    · have e2 : decide ((k : Int) < l.length) = true := by simp; omega
      have hw := wrap64_succ hlt (by omega)
      have hrow := row_map enc1 l k hlt
      simp only [enc1] at hrow
      have hop := hmem l[k] (List.getElem_mem hlt)
      unfold isOpen at hop
      rcases hca l[k] with ⟨h1, h2⟩ | ⟨j, hj, h1, h2⟩
      · rw [h2] at hop; cases hop
      · have hlk := hlast l[k]
        rw [h1] at hlk
        have hrow2 := row_map encRO L j hj
        simp only [encRO] at hrow2
        have hhr := h.hours L[j] (List.getElem_mem hj)
        obtain ⟨x, hx⟩ : ∃ x : WO, x = ⟨L[j].level, (j : Int) + 1, L[j].hour, L[j].done⟩ := ⟨_, rfl⟩
        rw [← hx] at h2
        have htk : dues W hour es (l.take (k + 1)) = dues W hour es (l.take k) ++ callsOf l[k] x (many W hour x) := by
          rw [List.take_succ_eq_append_getElem hlt, dues_append]
          simp [dues, h2]
        have hdl := dues_len W hour es hW.2 (l.take k)
        have hdl2 : (l.take k).length ≤ 40 := by simp; omega
        have hwj : IntKind.i64.wrap ((j : Int) + 1) = (j : Int) + 1 := by have := h.len; rw [wrap64 (by omega) (by omega)]
        generalize hd : dues W hour es (l.take k) = base at htk hdl
        simp -implicitDefEqProofs (maxSteps := 1000000) only [go_sem, Nat.reduceAdd, Nat.reduceBEq, Nat.reduceMul, Nat.reduceLeDiff, Int.reduceEq, ti3, ti4, ti39, ti42, ti48, ti51, ti62, ti64, ti68, e2, hlk, hrow, hrow2, List.length_map, hd]
        refine EX_for E W.toNat (fun v => [(6, .hs 0 4 0 (base ++ callsOf l[k] x (min v (many W hour x))).length (base ++ callsOf l[k] x (min v (many W hour x))).length), (10, .i .i64 v)]) (fun _ => []) (fun v => [.arr 4 ((base ++ callsOf l[k] x (min v (many W hour x))).map encCL) true 0]) (fun _ => True) trivial ?_ (fun v hv _ => ?_)
        · simp only [go_sem, Nat.reduceAdd, Nat.reduceBEq, Nat.reduceMul, Nat.reduceLeDiff, Nat.zero_min, callsOf, List.append_nil] <;> rfl
        · by_cases hvl : v < W.toNat
          · have c0 : decide ((v : Int) < W) = true := by simp; omega
            have hw2 := wrap64_succ hvl (by omega)
            have c1 := called_R W hour L[j].hour x v (by rw [hx]) hhr hh hW (by omega)
            have hmn := many_le W hour x hW.2
            cases c2 : decide (v < many W hour x) with
            | true =>
              rw [c2] at c1
              have c3 : v < many W hour x := by simpa using c2
              have m1 : min v (many W hour x) = v := by omega
              have m2 : min (v + 1) (many W hour x) = v + 1 := by omega
              have hfit : decide (((base ++ callsOf l[k] x v).length + 1) * 32 ≤ 35184372088832) = true := by simp [callsOf_len]; omega
              rw [m1, m2]
              simp -implicitDefEqProofs (maxSteps := 1000000) only [go_sem, Nat.reduceAdd, Nat.reduceBEq, Nat.reduceMul, Nat.reduceLeDiff, Int.reduceEq, ti3, ti4, ti39, ti42, ti48, ti51, ti62, ti64, ti68, c0, c1, hw2, hwj, hrow, List.length_map, hfit]
              exact ⟨hvl, trivial, by simp [callsOf, encCL, hx]⟩
            | false =>
              rw [c2] at c1
              have c3 : ¬ v < many W hour x := by simpa using c2
              have m1 : min v (many W hour x) = many W hour x := by omega
              have m2 : min (v + 1) (many W hour x) = many W hour x := by omega
              rw [m1, m2]
              simp -implicitDefEqProofs (maxSteps := 1000000) only [go_sem, Nat.reduceAdd, Nat.reduceBEq, Nat.reduceMul, Nat.reduceLeDiff, Int.reduceEq, ti3, ti4, ti39, ti42, ti48, ti51, ti62, ti64, ti68, c0, c1, hw2, hwj, List.length_map]
              exact ⟨hvl, trivial, trivial⟩
          · have c0 : decide ((v : Int) < W) = false := by simp; omega
            have hml := many_lt W hour x hW.1
            have m1 : min v (many W hour x) = many W hour x := by omega
            rw [m1]
            simp -implicitDefEqProofs (maxSteps := 1000000) only [go_sem, Nat.reduceAdd, Nat.reduceBEq, Nat.reduceMul, Nat.reduceLeDiff, Int.reduceEq, ti3, ti4, ti39, ti42, ti48, ti51, ti62, ti64, ti68, c0, hw, List.length_map, htk]
            exact ⟨hlt, trivial, trivial⟩
    · have e2 : decide ((k : Int) < l.length) = false := by simp; omega
      have hkn : k = l.length := by omega
      simp -implicitDefEqProofs only [go_sem, Nat.reduceAdd, Nat.reduceBEq, Nat.reduceMul, Nat.reduceLeDiff, Int.reduceEq, ti3, ti4, ti39, ti42, ti48, ti51, ti62, ti64, ti68, e2, List.length_map]
      rw [hr, hkn]
      all_goals try simp
/-- equal lists -/
theorem same_run (cs : List CL) (hc : cs.length ≤ 1000) (st : St) : callV E 26 [.sl 4 (cs.map encCL) false, .sl 4 (cs.map encCL) false] st = some (.b true, st) := by
  refine call1 E fn26 rfl (by simp -implicitDefEqProofs only [go_sem, Nat.reduceAdd, Nat.reduceBEq, Nat.reduceMul, Nat.reduceLeDiff]) (by simp -implicitDefEqProofs only [go_sem, Nat.reduceAdd, Nat.reduceBEq, Nat.reduceLeDiff]) ?_
  refine FN_enter E fn26 ?_
  simp only [c26, Option.getD, Try.f26]
  simp -implicitDefEqProofs (maxSteps := 1000000) only [go_sem, Nat.reduceAdd, Nat.reduceBEq, Nat.reduceMul, Nat.reduceLeDiff, Int.reduceEq, ti3, ti4, ti42, ti48, bne_self_eq_false, List.length_map]
  refine EX_for E cs.length (fun k => [(5, .i .i64 k)]) (fun _ => []) (fun _ => []) (fun _ => True) trivial ?_ (fun k hk _ => ?_)
  · simp only [go_sem, Nat.reduceAdd, Nat.reduceBEq, Nat.reduceMul, Nat.reduceLeDiff] <;> rfl
  · by_cases hlt : k < cs.length
    · have e2 : decide ((k : Int) < cs.length) = true := by simp; omega
      have hw := wrap64_succ hlt (by omega)
      have hrow := row_map encCL cs k hlt
      simp only [encCL] at hrow
      simp -implicitDefEqProofs (maxSteps := 1000000) only [go_sem, Nat.reduceAdd, Nat.reduceBEq, Nat.reduceMul, Nat.reduceLeDiff, Int.reduceEq, ti3, ti4, ti42, ti48, e2, hw, hrow, bne_self_eq_false, List.length_map]
      exact ⟨hlt, trivial, trivial⟩
    · have e2 : decide ((k : Int) < cs.length) = false := by simp; omega
      simp -implicitDefEqProofs (maxSteps := 1000000) only [go_sem, Nat.reduceAdd, Nat.reduceBEq, Nat.reduceMul, Nat.reduceLeDiff, Int.reduceEq, ti3, ti4, ti42, ti48, e2, List.length_map]
theorem sameTowns_run (cs : List Int) (hc : cs.length ≤ 1000) (st : St) : callV E 29 [.sl 1 (cs.map enc1) false, .sl 1 (cs.map enc1) false] st = some (.b true, st) := by
  refine call1 E fn29 rfl (by simp -implicitDefEqProofs only [go_sem, Nat.reduceAdd, Nat.reduceBEq, Nat.reduceMul, Nat.reduceLeDiff]) (by simp -implicitDefEqProofs only [go_sem, Nat.reduceAdd, Nat.reduceBEq, Nat.reduceLeDiff]) ?_
  refine FN_enter E fn29 ?_
  simp only [c29, Option.getD, Try.f29]
  simp -implicitDefEqProofs (maxSteps := 1000000) only [go_sem, Nat.reduceAdd, Nat.reduceBEq, Nat.reduceMul, Nat.reduceLeDiff, Int.reduceEq, ti3, ti4, ti51, bne_self_eq_false, List.length_map]
  refine EX_for E cs.length (fun k => [(5, .i .i64 k)]) (fun _ => []) (fun _ => []) (fun _ => True) trivial ?_ (fun k hk _ => ?_)
  · simp only [go_sem, Nat.reduceAdd, Nat.reduceBEq, Nat.reduceMul, Nat.reduceLeDiff] <;> rfl
  · by_cases hlt : k < cs.length
    · have e2 : decide ((k : Int) < cs.length) = true := by simp; omega
      have hw := wrap64_succ hlt (by omega)
      have hrow := row_map enc1 cs k hlt
      simp only [enc1] at hrow
      simp -implicitDefEqProofs (maxSteps := 1000000) only [go_sem, Nat.reduceAdd, Nat.reduceBEq, Nat.reduceMul, Nat.reduceLeDiff, Int.reduceEq, ti3, ti4, ti51, e2, hw, hrow, bne_self_eq_false, List.length_map]
      exact ⟨hlt, trivial, trivial⟩
    · have e2 : decide ((k : Int) < cs.length) = false := by simp; omega
      simp -implicitDefEqProofs (maxSteps := 1000000) only [go_sem, Nat.reduceAdd, Nat.reduceBEq, Nat.reduceMul, Nat.reduceLeDiff, Int.reduceEq, ti3, ti4, ti51, e2, List.length_map]
end Go.Proofs.Ytdnhlbbbcallpaa
/- WardenTells: Raise and Ack of the reference, and the walk. -/
set_option autoImplicit false
set_option linter.unusedVariables false
namespace Go.Proofs.Ytdnhlbbbcallpaa
open Go.Ex Go.Proofs
set_option maxHeartbeats 4000000
set_option maxRecDepth 100000
def postT (w : Int) (p : PS) (T : List OB) : List OB := .map (p.es.map encE) 0 :: .arr 3 [[.i .i64 w, .i .i64 p.m, .mp 0]] false 2 :: T
def refT (w : Int) : List RO → List OB
  | [] => [.arr 2 [[.i .i64 w, .sl 4 [] true]] false 1]
  | o :: r => [.arr 2 [[.i .i64 w, .hs 3 4 0 (r.length + 1) (r.length + 1)]] false 2, .arr 4 ((o :: r).map encRO) true 0]
theorem raiseT (w : Int) (p : PS) (T : List OB) (town level hour : Int) (hm : 0 ≤ p.m ∧ p.m ≤ 1000000) (vs ls tl) :
    callV E 20 [.hp 1 3 1 0 0, .i .i64 town, .i .i64 level, .i .i64 hour] ⟨vs, ls, postT w p T, tl⟩ = some (.i .i64 (if okRaise town level hour then p.m + 1 else 0), ⟨vs, ls, postT w (raiseP town level hour p) T, tl⟩) := by
  unfold raiseP
  cases h : okRaise town level hour with
  | true => exact raise_yes 1 0 w p.m p.es _ town level hour rfl rfl (by decide) h hm vs ls tl
  | false => exact raise_no 1 _ town level hour h vs ls tl
theorem ackT (w : Int) (p : PS) (T : List OB) (c : CL) (vs ls tl) :
    callV E 22 [.hp 1 3 1 0 0, .ag (encCL c)] ⟨vs, ls, postT w p T, tl⟩ = some (.b (awaits w p.es c), ⟨vs, ls, postT w (ackP w c p) T, tl⟩) := by
  unfold ackP
  cases h : awaits w p.es c with
  | true => exact ack_yes 1 0 w p.m p.es c vs ls tl _ rfl rfl h
  | false => exact ack_no 1 0 w p.m p.es c vs ls tl _ rfl rfl h
theorem awaitsT (w : Int) (p : PS) (T : List OB) (c : CL) (vs ls tl) : callV E 24 [.hp 1 3 1 0 0, .ag (encCL c)] ⟨vs, ls, postT w p T, tl⟩ = some (.b (awaits w p.es c), ⟨vs, ls, postT w p T, tl⟩) :=
  awaits_run 1 0 w p.m p.es c _ rfl rfl
theorem dueT (w : Int) (p : PS) (T : List OB) (hour : Int) (hw : w ≤ 16) (vs ls tl) : callV E 27 [.hp 1 3 1 0 0, .i .i64 hour] ⟨vs, ls, postT w p T, tl⟩ = some (.sl 4 ((dues w hour p.es (opens p.es 40)).map encCL) false, ⟨vs, ls, postT w p T, tl⟩) :=
  due_run 1 0 w p.m hour p.es _ hw (post_ro rfl rfl)
theorem openT (w : Int) (p : PS) (T : List OB) (vs ls tl) : callV E 30 [.hp 1 3 1 0 0] ⟨vs, ls, postT w p T, tl⟩ = some (.sl 1 ((opens p.es 40).map enc1) false, ⟨vs, ls, postT w p T, tl⟩) :=
  open_run 1 0 w p.m p.es _ (post_ro rfl rfl)
theorem refT_ro (w : Int) (p : PS) (L : List RO) : ∃ c, ro (postT w p (refT w L)) 8 (.hp 2 2 1 0 0) = some (.ep [.i .i64 w, .sl 4 (L.map encRO) c] 0) := by
  cases L with
  | nil => exact ⟨true, rfl⟩
  | cons o r =>
    refine ⟨false, ?_⟩
    have h1 : ((o :: r).map encRO).length = r.length + 1 := by simp
    have h2 : ((o :: r).map encRO).take (r.length + 1) = (o :: r).map encRO := by rw [← h1, List.take_length]
    simp only [ro, lev, postT, refT, List.getElem?_cons_succ, List.getElem?_cons_zero, mapO, h1, List.drop_zero, h2, nb_eq, ble_dec, beq_self_eq_true, Nat.zero_add, Nat.le_refl, decide_true, Bool.and_self, cond_true, Option.map_some, List.length_singleton]
    rfl
/-- a call of a function that runs by itself and answers plainly -/
theorem call_b {f : FuncId} {args args' : List AV} {st : St} {b : Bool} {fi : FI} (hf : E.fn f = some fi) (hm : fi.mode = 1) (hl : mapO (ro st.heap 8) args = some args')
    (H : FN E f args' [] fun r h' => r = .b b) : callV E f args st = some (.b b, st) := by
  refine call2 hf hm hl ?_
  obtain ⟨r, h', h1, h2⟩ := FN_eq E H
  exact optQ_iff.2 ⟨(r, h'), h1, by rw [h2]; exact ⟨rfl, rfl⟩⟩
theorem lastR_append (L : List RO) (o : RO) (t : Int) : ∀ n, n ≤ L.length → lastR (L ++ [o]) t n = lastR L t n
  | 0, _ => rfl
  | n + 1, h => by
    simp only [lastR, lastR_append L o t n (by omega), List.getElem?_append_left (show n < L.length by omega)]
theorem lastR_set (L : List RO) (i : Nat) (o : RO) (ho : ∀ h : i < L.length, o.town = L[i].town) (t : Int) : ∀ n, lastR (L.set i o) t n = lastR L t n
  | 0 => rfl
  | n + 1 => by
    simp only [lastR, lastR_set L i o ho t n, List.getElem?_set]
    by_cases e : i = n
    · subst e
      by_cases hl : i < L.length
      · simp [hl, ho hl]
      · simp [hl]
    · simp [e]
theorem agree_nil : Agree ⟨0, []⟩ [] := ⟨rfl, by simp, by simp, fun t => by simp [lastR, wfind]⟩
theorem agree_raise {p : PS} {L : List RO} (h : Agree p L) (hl : L.length < 1000) (town level hour : Int) (hok : okRaise town level hour = true) : Agree (raiseP town level hour p) (L ++ [⟨town, level, hour, false⟩]) := by
  have hm := h.m
  have ep : raiseP town level hour p = ⟨p.m + 1, wset town ⟨level, p.m + 1, hour, false⟩ p.es⟩ := by rw [raiseP, if_pos hok]
  rw [ep]
  have hb : 0 ≤ hour ∧ hour ≤ 16777216 := by unfold okRaise at hok; simp only [Bool.and_eq_true, decide_eq_true_eq] at hok; omega
  refine ⟨by simp [hm], by simp; omega, ?_, fun t => ?_⟩
  · intro o ho
    rcases List.mem_append.1 ho with ho | ho
    · exact h.hours o ho
    · simp at ho; subst ho; exact hb
  · have hla : lastR (L ++ [⟨town, level, hour, false⟩]) t (L ++ [(⟨town, level, hour, false⟩ : RO)]).length = if town = t then (L.length : Int) else lastR L t L.length := by
      have : (L ++ [(⟨town, level, hour, false⟩ : RO)]).length = L.length + 1 := by simp
      rw [this]
      simp only [lastR, lastR_append L _ t L.length (Nat.le_refl _), List.getElem?_append_right (Nat.le_refl _), Nat.sub_self, List.getElem?_cons_zero, Option.map_some, Option.some.injEq]
    simp only [hla, wfind_wset]
    by_cases e : t = town
    · subst e
      simp only [if_true]
      rw [dif_pos (by simp)]
      simp [hm]
    · have e2 : ¬ town = t := fun h => e h.symm
      simp only [if_neg e, if_neg e2]
      rw [h.find t]
      have hr := lastR_range L t L.length
      by_cases h0 : 0 ≤ lastR L t L.length ∧ (lastR L t L.length).toNat < L.length
      · rw [dif_pos h0, dif_pos ⟨h0.1, by simp; omega⟩]
        simp only [List.getElem_append_left h0.2]
      · rw [dif_neg h0, dif_neg (fun hh => h0 ⟨hh.1, by have := hh.1; omega⟩)]
theorem awaitsR_eq {p : PS} {L : List RO} (h : Agree p L) (w : Int) (c : CL) (hn : -9223372036854775808 ≤ c.number ∧ c.number ≤ 9223372036854775807) : awaitsR w L c = awaits w p.es c := by
  unfold awaitsR awaits
  rcases agree_cases h c.town with ⟨h1, h2⟩ | ⟨j, hj, h1, h2⟩
  · rw [h1, h2]; simp
  · rw [h1, h2]
    have hl := h.len
    have e1 : decide ((j : Int) ≥ 0) = true := by simp
    have e2 : ((j : Int) == IntKind.i64.wrap (c.number - 1)) = ((j : Int) + 1 == c.number) := by
      rw [Bool.eq_iff_iff]; simp only [beq_iff_eq]
      by_cases hb : c.number = -9223372036854775808
      · rw [hb]
        have : IntKind.i64.wrap (-9223372036854775808 - 1) = 9223372036854775807 := by decide
        rw [this]; omega
      · rw [wrap64 (by omega) (by omega)]; omega
    have e3 : doneR L (j : Int) = L[j].done := by simp [doneR, hj]
    rw [e1, e2, e3]
    simp only [Bool.true_and]
    rw [Bool.and_comm ((j : Int) + 1 == c.number)]
def ackR (L : List RO) (t : Int) : List RO := match L[(lastR L t L.length).toNat]? with | some o => L.set (lastR L t L.length).toNat { o with done := true } | none => L
theorem agree_ack {p : PS} {L : List RO} (h : Agree p L) (w : Int) (c : CL) (ha : awaits w p.es c = true) : Agree (ackP w c p) (ackR L c.town) := by
  have ha0 := ha
  rcases agree_cases h c.town with ⟨h1, h2⟩ | ⟨j, hj, h1, h2⟩
  · unfold awaits at ha; rw [h2] at ha; simp at ha
  · have er : ackR L c.town = L.set j ⟨L[j].town, L[j].level, L[j].hour, true⟩ := by
      unfold ackR; rw [h1]; simp [hj]
    have ep : ackP w c p = ⟨p.m, wset c.town ⟨L[j].level, (j : Int) + 1, L[j].hour, true⟩ p.es⟩ := by
      rw [ackP, if_pos ha0, ackd, h2]
    rw [er, ep]
    have hls : ∀ t, lastR (L.set j ⟨L[j].town, L[j].level, L[j].hour, true⟩) t L.length = lastR L t L.length := fun t => lastR_set L j _ (fun _ => rfl) t _
    refine ⟨by simp [h.m], by simp [h.len], ?_, fun t => ?_⟩
    · intro o ho
      rcases List.mem_or_eq_of_mem_set ho with ho | ho
      · exact h.hours o ho
      · subst ho; exact h.hours L[j] (List.getElem_mem hj)
    · simp only [List.length_set, hls, wfind_wset]
      by_cases e : t = c.town
      · subst e
        simp only [if_true, h1, Int.toNat_natCast]
        rw [dif_pos ⟨by omega, hj⟩]; simp
      · simp only [if_neg e]
        rw [h.find t]
        by_cases h0 : 0 ≤ lastR L t L.length ∧ (lastR L t L.length).toNat < L.length
        · rw [dif_pos h0, dif_pos h0]
          have hne : j ≠ (lastR L t L.length).toNat := by
            intro hh
            have ht1 : ∀ (t : Int) n, 0 ≤ lastR L t n → (L[(lastR L t n).toNat]?.map (·.town)) = some t := by
              intro t n
              induction n with
              | zero => intro h; simp [lastR] at h
              | succ n ih =>
                intro h; simp only [lastR] at h ⊢
                split at h
                · rename_i hx; rw [if_pos hx]; simpa using hx
                · rename_i hx; rw [if_neg hx]; exact ih h
            have a1 := ht1 t L.length h0.1
            have a2 := ht1 c.town L.length (by rw [h1]; omega)
            rw [← hh] at a1; rw [h1, Int.toNat_natCast] at a2
            rw [a1] at a2; simp at a2; exact e a2
          simp only [List.getElem_set, if_neg hne]
        · rw [dif_neg h0, dif_neg h0]
end Go.Proofs.Ytdnhlbbbcallpaa
