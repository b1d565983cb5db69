/- For all numbers of wardens and lists of calls the law WardenTells returns true and leaves its arguments as they were; no condition. -/
import Derived.Test.YtdnhlbbbcallpaaRefPost
import Derived.Test.YtdnhlbbbcallpaaWRead
set_option linter.unnecessarySimpa false
set_option linter.unusedVariables false
set_option linter.unusedSimpArgs false
set_option linter.unusedSectionVars false
set_option linter.deprecated false
/- WardenTells: the walk. -/
set_option autoImplicit false
set_option linter.unusedVariables false
namespace Go.Proofs.Ytdnhlbbbcallpaa
open Go.Ex Go.Proofs
set_option maxHeartbeats 4000000
set_option maxRecDepth 100000
def raiseL (town level hour : Int) (L : List RO) : List RO := if okRaise town level hour then L ++ [⟨town, level, hour, false⟩] else L
theorem newR (w : Int) (h : 1 ≤ w ∧ w ≤ 16) (vs ls tl) : callV E 19 [.i .i64 w] ⟨vs, ls, postH w 0 0 [], tl⟩ = some (.hp 2 2 1 0 0, ⟨vs, ls, postT w ⟨0, []⟩ (refT w []), tl⟩) := by
  refine call0 fn19 rfl ?_
  refine FN_enter E fn19 ?_
  have e1 : decide (w < 1) = false := by simp; omega
  have e2 : decide (w > 16) = false := by simp; omega
  simp only [c19, Option.getD, Try.f19]
  simp -implicitDefEqProofs only [go_sem, Nat.reduceAdd, Nat.reduceBEq, Nat.reduceMul, Nat.reduceLeDiff, ti3, ti4, ti39, ti62, ti64, e1, e2]
  exact ⟨rfl, rfl⟩
theorem newR_no (w : Int) (h : ¬ (1 ≤ w ∧ w ≤ 16)) (vs ls H tl) : callV E 19 [.i .i64 w] ⟨vs, ls, H, tl⟩ = some (.np, ⟨vs, ls, H, tl⟩) := by
  refine call0 fn19 rfl ?_
  refine FN_enter E fn19 ?_
  have e1 : (decide (w < 1) || decide (w > 16)) = true := by simp; omega
  simp only [c19, Option.getD, Try.f19]
  simp -implicitDefEqProofs only [go_sem, Nat.reduceAdd, Nat.reduceBEq, Nat.reduceMul, Nat.reduceLeDiff, ti3, ti4, ti39, ti62, ti64, e1]
  exact ⟨trivial, trivial⟩
theorem raiseR (w : Int) (p : PS) (L : List RO) (hl : L.length ≤ 1000) (town level hour : Int) (vs ls tl) :
    callV E 21 [.hp 2 2 1 0 0, .i .i64 town, .i .i64 level, .i .i64 hour] ⟨vs, ls, postT w p (refT w L), tl⟩ = some (.i .i64 (if okRaise town level hour then (L.length : Int) + 1 else 0), ⟨vs, ls, postT w p (refT w (raiseL town level hour L)), tl⟩) := by
  refine call0 fn21 rfl ?_
  refine FN_enter E fn21 ?_
  cases h : okRaise town level hour with
  | false =>
    have e1 : (decide (town < 0) || decide (town ≥ 40) || decide (level < 0) || decide (level > 3) || decide (hour < 0) || decide (hour > 16777216)) = true := by
      unfold okRaise at h
      simp only [Bool.and_eq_false_iff, decide_eq_false_iff_not] at h
      simp only [Bool.or_eq_true, decide_eq_true_eq]
      omega
    simp only [c21, Option.getD, Try.f21]
    simp -implicitDefEqProofs only [go_sem, Nat.reduceAdd, Nat.reduceBEq, Nat.reduceMul, Nat.reduceLeDiff, ti3, ti4, ti39, ti62, ti64, ti68, e1, raiseL, h, Bool.false_eq_true, if_false]
    exact ⟨trivial, trivial⟩
  | true =>
    have e1 : (decide (town < 0) || decide (town ≥ 40) || decide (level < 0) || decide (level > 3) || decide (hour < 0) || decide (hour > 16777216)) = false := by
      unfold okRaise at h
      simp only [Bool.and_eq_true, decide_eq_true_eq] at h
      simp only [Bool.or_eq_false_iff, decide_eq_false_iff_not]
      omega
    cases L with
    | nil =>
      simp only [c21, Option.getD, Try.f21, postT, refT, raiseL, h, if_true, List.nil_append]
      simp -implicitDefEqProofs only [go_sem, Nat.reduceAdd, Nat.reduceBEq, Nat.reduceMul, Nat.reduceLeDiff, ti3, ti4, ti39, ti62, ti64, ti68, e1, List.isEmpty_nil]
      exact ⟨rfl, rfl⟩
    | cons o r =>
      have hl2 : r.length + 1 ≤ 1000 := by simpa using hl
      have f1 : decide ((r.length + 1 + 1) * 32 ≤ 35184372088832) = true := by simp; omega
      simp only [c21, Option.getD, Try.f21, postT, refT, raiseL, h, if_true, List.cons_append, List.length_append, List.length_cons, List.length_nil]
      simp -implicitDefEqProofs only [go_sem, Nat.reduceAdd, Nat.reduceBEq, Nat.reduceMul, Nat.reduceLeDiff, ti3, ti4, ti39, ti62, ti64, ti68, e1, f1, List.map_cons, List.length_map, List.length_append, List.length_cons]
      exact ⟨rfl, by simp [encRO]⟩
theorem awaitsRef (w : Int) (p : PS) (L : List RO) (hl : L.length ≤ 1000) (c : CL) (vs ls tl) : callV E 25 [.hp 2 2 1 0 0, .ag (encCL c)] ⟨vs, ls, postT w p (refT w L), tl⟩ = some (.b (awaitsR w L c), ⟨vs, ls, postT w p (refT w L), tl⟩) := by
  obtain ⟨cl, h⟩ := refT_ro w p L
  refine call_b fn25 rfl (args' := [.ep [.i .i64 w, .sl 4 (L.map encRO) cl] 0, .ag (encCL c)]) ?_ (awaitsR_FN w L cl c hl)
  simp -implicitDefEqProofs only [go_sem, Nat.reduceAdd, Nat.reduceBEq, Nat.reduceMul, Nat.reduceLeDiff, h, encCL]
theorem lastRef (w : Int) (p : PS) (L : List RO) (hl : L.length ≤ 1000) (t : Int) (vs ls tl) : callV E 34 [.hp 2 2 1 0 0, .i .i64 t] ⟨vs, ls, postT w p (refT w L), tl⟩ = some (.i .i64 (lastR L t L.length), ⟨vs, ls, postT w p (refT w L), tl⟩) := by
  obtain ⟨cl, h⟩ := refT_ro w p L
  refine call2 fn34 rfl (args' := [.ep [.i .i64 w, .sl 4 (L.map encRO) cl] 0, .i .i64 t]) ?_ ?_
  · simp -implicitDefEqProofs only [go_sem, Nat.reduceAdd, Nat.reduceBEq, Nat.reduceMul, Nat.reduceLeDiff, h]
  · obtain ⟨r, h', h1, h2⟩ := FN_eq E (last_FN w L cl t hl)
    exact optQ_iff.2 ⟨(r, h'), h1, by rw [h2]; exact ⟨rfl, rfl⟩⟩
theorem dueRef {p : PS} {L : List RO} (h : Agree p L) (W hour : Int) (hW : 1 ≤ W ∧ W ≤ 16) (hh : -9223372036854775808 ≤ hour ∧ hour ≤ 9223372036854775807) (vs ls tl) : callV E 28 [.hp 2 2 1 0 0, .i .i64 hour] ⟨vs, ls, postT W p (refT W L), tl⟩ = some (.sl 4 ((dues W hour p.es (opens p.es 40)).map encCL) false, ⟨vs, ls, postT W p (refT W L), tl⟩) := by
  obtain ⟨cl, h1⟩ := refT_ro W p L
  refine call2 fn28 rfl (args' := [.ep [.i .i64 W, .sl 4 (L.map encRO) cl] 0, .i .i64 hour]) ?_ (due_RF h W hour cl hW hh)
  simp -implicitDefEqProofs only [go_sem, Nat.reduceAdd, Nat.reduceBEq, Nat.reduceMul, Nat.reduceLeDiff, h1]
theorem openRef {p : PS} {L : List RO} (h : Agree p L) (W : Int) (vs ls tl) : callV E 31 [.hp 2 2 1 0 0] ⟨vs, ls, postT W p (refT W L), tl⟩ = some (.sl 1 ((opens p.es 40).map enc1) false, ⟨vs, ls, postT W p (refT W L), tl⟩) := by
  obtain ⟨cl, h1⟩ := refT_ro W p L
  refine call2 fn31 rfl (args' := [.ep [.i .i64 W, .sl 4 (L.map encRO) cl] 0]) ?_ (open_RF h W cl)
  simp -implicitDefEqProofs only [go_sem, Nat.reduceAdd, Nat.reduceBEq, Nat.reduceMul, Nat.reduceLeDiff, h1]
theorem pt2 (w : Int) (p : PS) (o : RO) (r : List RO) : (postT w p (refT w (o :: r)))[2]? = some (.arr 2 [[.i .i64 w, .hs 3 4 0 (r.length + 1) (r.length + 1)]] false 2) := rfl
theorem pt3 (w : Int) (p : PS) (o : RO) (r : List RO) : (postT w p (refT w (o :: r)))[3]? = some (.arr 4 ((o :: r).map encRO) true 0) := rfl
theorem pt3s (w : Int) (p : PS) (o : RO) (r : List RO) (j : Nat) (x : RO) : (postT w p (refT w (o :: r))).set 3 (.arr 4 (((o :: r).map encRO).set j (encRO x)) true 0) = postT w p (refT w ((o :: r).set j x)) := by
  cases j <;> simp [postT, refT]
def ackL (w : Int) (p : PS) (c : CL) (L : List RO) : List RO := if awaits w p.es c then ackR L c.town else L
theorem ackRef (w : Int) {p : PS} {L : List RO} (h : Agree p L) (p' : PS) (c : CL) (hn : -9223372036854775808 ≤ c.number ∧ c.number ≤ 9223372036854775807) (vs ls tl) :
    callV E 23 [.hp 2 2 1 0 0, .ag (encCL c)] ⟨vs, ls, postT w p' (refT w L), tl⟩ = some (.b (awaits w p.es c), ⟨vs, ls, postT w p' (refT w (ackL w p c L)), tl⟩) := by
  refine call0 fn23 rfl ?_
  refine FN_enter E fn23 ?_
  have h1 := awaitsRef w p' L h.len c
  rw [awaitsR_eq h w c hn] at h1
  have h2 := lastRef w p' L h.len c.town
  unfold ackL
  cases ha : awaits w p.es c with
  | false =>
    rw [ha] at h1
    simp only [encCL] at h1
    simp only [c23, Option.getD, Try.f23, encCL]
    simp -implicitDefEqProofs only [go_sem, Nat.reduceAdd, Nat.reduceBEq, Nat.reduceMul, Nat.reduceLeDiff, ti3, ti4, ti39, ti42, ti62, ti64, ti68, h1, h2, Bool.false_eq_true, if_false]
    exact ⟨trivial, trivial⟩
  | true =>
    rw [ha] at h1
    rcases agree_cases h c.town with ⟨g1, g2⟩ | ⟨j, hj, g1, g2⟩
    · unfold awaits at ha; rw [g2] at ha; simp at ha
    · rw [g1] at h2
      have er : ackR L c.town = L.set j ⟨L[j].town, L[j].level, L[j].hour, true⟩ := by
        unfold ackR; rw [g1]; simp [hj]
      rw [er]
      cases L with
      | nil => simp at hj
      | cons o r =>
        have hjr : (0 ≤ (j : Int) ∧ (j : Int) < ((r.length + 1 : Nat) : Int)) = True := by simp at hj ⊢; omega
        have hrow : ((o :: r).map encRO)[j]? = some [.i .i64 (o :: r)[j].town, .i .i64 (o :: r)[j].level, .i .i64 (o :: r)[j].hour, .b (o :: r)[j].done] := by
          simp only [List.getElem?_map, List.getElem?_eq_getElem hj, Option.map_some]; rfl
        have hset := pt3s w p' o r j ⟨(o :: r)[j].town, (o :: r)[j].level, (o :: r)[j].hour, true⟩
        simp only [encRO] at hset
        simp only [encCL] at h1
        simp only [c23, Option.getD, Try.f23, encCL]
        simp -implicitDefEqProofs only [go_sem, Nat.reduceAdd, Nat.reduceBEq, Nat.reduceMul, Nat.reduceLeDiff, ti3, ti4, ti39, ti42, ti62, ti64, ti68, h1, h2, hjr, hrow, pt2, pt3, hset, List.length_map, Int.toNat_natCast, if_true]
        exact ⟨trivial, trivial⟩
/-- both posts -/
structure TS where (p : PS) (L : List RO)
def stepT (w : Int) (s : TS) (x : WS) : TS :=
  if actOf x == 0 then ⟨raiseP x.town x.level x.hour s.p, raiseL x.town x.level x.hour s.L⟩
  else if actOf x == 1 then ⟨ackP w x.call s.p, ackL w s.p x.call s.L⟩ else s
theorem stepT_ok (w : Int) (s : TS) (x : WS) (h : Agree s.p s.L) (hl : s.L.length < 1000) : Agree (stepT w s x).p (stepT w s x).L ∧ (stepT w s x).L.length ≤ s.L.length + 1 := by
  unfold stepT
  split
  · unfold raiseL
    cases hok : okRaise x.town x.level x.hour with
    | true => exact ⟨agree_raise h hl _ _ _ hok, by simp⟩
    | false =>
      have : raiseP x.town x.level x.hour s.p = s.p := by rw [raiseP, hok]; rfl
      rw [this]; exact ⟨h, by simp⟩
  · split
    · unfold ackL
      cases ha : awaits w s.p.es x.call with
      | true =>
        refine ⟨agree_ack h w x.call ha, ?_⟩
        simp only [if_true, ackR]; split <;> simp
      | false =>
        have : ackP w x.call s.p = s.p := by rw [ackP, ha]; rfl
        rw [this]; exact ⟨h, by simp⟩
    · exact ⟨h, by omega⟩
theorem foldT (w : Int) : ∀ (l : List WS) (s : TS), Agree s.p s.L → s.L.length + l.length ≤ 1000 → Agree (l.foldl (stepT w) s).p (l.foldl (stepT w) s).L ∧ (l.foldl (stepT w) s).L.length ≤ s.L.length + l.length
  | [], s, h, hl => by simp; exact h
  | x :: l, s, h, hl => by
    simp only [List.length_cons] at hl
    obtain ⟨h1, h2⟩ := stepT_ok w s x h (by omega)
    have h3 := foldT w l (stepT w s x) h1 (by omega)
    simp only [List.foldl_cons, List.length_cons]
    exact ⟨h3.1, by omega⟩
theorem wardenTells_run (w : Int) (l : List WS) (hok : ∀ x ∈ l, okWS x) : FN E 6 [.i .i64 w, .sl 8 (l.map encWS) false] [] fun r _ => r = .b true := by
  refine FN_enter E fn6 ?_
  have h0 := small44_run
  by_cases hw : 1 ≤ w ∧ w ≤ 16
  · have hnew := new1 w hw
    have hnew2 := newR w hw
    by_cases hn : 40 < l.length
    · have e1 : decide ((l.length : Int) > 40) = true := by simp; omega
      simp only [c6, Option.getD, Try.f6]
      simp -implicitDefEqProofs (maxSteps := 1000000) only [go_sem, Nat.reduceAdd, Nat.reduceBEq, Nat.reduceMul, Nat.reduceLeDiff, Int.reduceEq, ti3, ti4, ti36, ti37, ti39, ti42, ti44, ti48, ti51, List.length_map, h0, hnew, hnew2, e1, beq_self_eq_true]
    · have e1 : decide ((l.length : Int) > 40) = false := by simp; omega
      have key := fun k => foldT w (l.take k) ⟨⟨0, []⟩, []⟩ agree_nil
      obtain ⟨A, hA⟩ : ∃ A : Nat → TS, A = fun k => (l.take k).foldl (stepT w) ⟨⟨0, []⟩, []⟩ := ⟨_, rfl⟩
      have hA0 : A 0 = ⟨⟨0, []⟩, []⟩ := by rw [hA]; rfl
      have hAn : ∀ k (h : k < l.length), A (k + 1) = stepT w (A k) l[k] := by
        intro k h; rw [hA]; simp only; rw [List.take_succ_eq_append_getElem h, List.foldl_append]; rfl
      have hag : ∀ k, k ≤ l.length → Agree (A k).p (A k).L ∧ (A k).L.length ≤ 40 := by
        intro k hk
        have := key k
        rw [List.length_take, Nat.min_eq_left hk] at this
        rw [hA]; simp only
        simp only [List.length_nil, Nat.zero_add] at this
        have := this (by omega)
        exact ⟨this.1, by omega⟩
      clear key hA
      simp only [c6, Option.getD, Try.f6]
      simp -implicitDefEqProofs (maxSteps := 1000000) only [go_sem, Nat.reduceAdd, Nat.reduceBEq, Nat.reduceMul, Nat.reduceLeDiff, Int.reduceEq, ti3, ti4, ti36, ti37, ti39, ti42, ti44, ti48, ti51, List.length_map, h0, hnew, hnew2, e1]
      refine EX_for E l.length (fun k => [(8, .i .i64 k)]) (fun _ => []) (fun k => postT w (A k).p (refT w (A k).L)) (fun _ => True) trivial ?_ (fun k hk _ => ?_)
      · rw [hA0]; simp only [go_sem, Nat.reduceAdd, Nat.reduceBEq, Nat.reduceMul, Nat.reduceLeDiff] <;> rfl
      · obtain ⟨ha, hl40⟩ := hag k hk
        by_cases hlt : k < l.length
        · have e2 : decide ((k : Int) < l.length) = true := by simp; omega
          have hw1 := wrap64_succ hlt (by omega)
          have hrow := row_map encWS l k hlt
          simp only [encWS, encCL, List.cons_append, List.nil_append] at hrow
          have hAk := hAn k hlt
          rw [hAk]
          generalize A k = s at ha hl40
          obtain ⟨p, L⟩ := s
          have hwf := hok l[k] (List.getElem_mem hlt)
          generalize hx : l[k] = x at hrow hwf
          obtain ⟨ac, to, le, ho, ⟨ct, cl, cn, cw⟩⟩ := x
          simp only at ha hl40 hrow
          obtain ⟨_, _, _, ho1, _, _, cn1, _⟩ := hwf
          simp only [Lit.wf, Bool.and_eq_true, decide_eq_true_eq] at ho1 cn1
          have hho : -9223372036854775808 ≤ ho ∧ ho ≤ 9223372036854775807 := ho1
          have hcn : -9223372036854775808 ≤ cn ∧ cn ≤ 9223372036854775807 := cn1
          have hm := ha.m
          cases h0 : (IntKind.i64.wrap ((BitVec.ofInt IntKind.i64.bits ac &&& BitVec.ofInt IntKind.i64.bits 3).toNat) == 0) with
          | true =>
            have hst : stepT w ⟨p, L⟩ ⟨ac, to, le, ho, ⟨ct, cl, cn, cw⟩⟩ = ⟨raiseP to le ho p, raiseL to le ho L⟩ := by simp only [stepT, actOf, h0, if_true]
            rw [hst]
            have h1 := fun vs ls tl => raiseT w p (refT w L) to le ho (by omega) vs ls tl
            have h2 := fun vs ls tl => raiseR w (raiseP to le ho p) L (by omega) to le ho vs ls tl
            rw [hm] at h1
            simp -implicitDefEqProofs only [go_sem] at h0
            simp -implicitDefEqProofs (maxSteps := 1000000) only [go_sem, Nat.reduceAdd, Nat.reduceBEq, Nat.reduceMul, Nat.reduceLeDiff, Int.reduceEq, ti3, ti4, ti36, ti37, ti39, ti42, ti44, ti48, ti51, List.length_map, e2, hw1, hrow, h0, h1, h2, beq_self_eq_true]
            exact ⟨hlt, trivial, trivial⟩
          | false =>
            cases h1 : (IntKind.i64.wrap ((BitVec.ofInt IntKind.i64.bits ac &&& BitVec.ofInt IntKind.i64.bits 3).toNat) == 1) with
            | true =>
              have hst : stepT w ⟨p, L⟩ ⟨ac, to, le, ho, ⟨ct, cl, cn, cw⟩⟩ = ⟨ackP w ⟨ct, cl, cn, cw⟩ p, ackL w p ⟨ct, cl, cn, cw⟩ L⟩ := by simp only [stepT, actOf, h0, h1, if_true, Bool.false_eq_true, if_false]
              rw [hst]
              have h2 := fun vs ls tl => ackT w p (refT w L) ⟨ct, cl, cn, cw⟩ vs ls tl
              have h3 := fun vs ls tl => ackRef w ha (ackP w ⟨ct, cl, cn, cw⟩ p) ⟨ct, cl, cn, cw⟩ hcn vs ls tl
              simp only [encCL] at h2 h3
              simp -implicitDefEqProofs only [go_sem] at h0 h1
              simp -implicitDefEqProofs (maxSteps := 1000000) only [go_sem, Nat.reduceAdd, Nat.reduceBEq, Nat.reduceMul, Nat.reduceLeDiff, Int.reduceEq, ti3, ti4, ti36, ti37, ti39, ti42, ti44, ti48, ti51, List.length_map, e2, hw1, hrow, h0, h1, h2, h3, beq_self_eq_true]
              exact ⟨hlt, trivial, trivial⟩
            | false =>
              have hst : stepT w ⟨p, L⟩ ⟨ac, to, le, ho, ⟨ct, cl, cn, cw⟩⟩ = ⟨p, L⟩ := by simp only [stepT, actOf, h0, h1, Bool.false_eq_true, if_false]
              rw [hst]
              cases h2 : (IntKind.i64.wrap ((BitVec.ofInt IntKind.i64.bits ac &&& BitVec.ofInt IntKind.i64.bits 3).toNat) == 2) with
              | true =>
                simp -implicitDefEqProofs only [go_sem] at h0 h1 h2
                have h3 := fun vs ls tl => awaitsT w p (refT w L) ⟨ct, cl, cn, cw⟩ vs ls tl
                have h4 := fun vs ls tl => awaitsRef w p L (by omega) ⟨ct, cl, cn, cw⟩ vs ls tl
                rw [awaitsR_eq ha w ⟨ct, cl, cn, cw⟩ hcn] at h4
                simp only [encCL] at h3 h4
                simp -implicitDefEqProofs (maxSteps := 1000000) only [go_sem, Nat.reduceAdd, Nat.reduceBEq, Nat.reduceMul, Nat.reduceLeDiff, Int.reduceEq, ti3, ti4, ti36, ti37, ti39, ti42, ti44, ti48, ti51, List.length_map, e2, hw1, hrow, h0, h1, h2, h3, h4, beq_self_eq_true]
                exact ⟨hlt, trivial, trivial⟩
              | false =>
                simp -implicitDefEqProofs only [go_sem] at h0 h1 h2
                have h3 := fun vs ls tl => dueT w p (refT w L) ho hw.2 vs ls tl
                have h4 := fun vs ls tl => dueRef ha w ho hw hho vs ls tl
                have h5 := fun vs ls tl => openT w p (refT w L) vs ls tl
                have h6 := fun vs ls tl => openRef ha w vs ls tl
                have h7 := same_run (dues w ho p.es (opens p.es 40)) (by have := dues_len w ho p.es hw.2 (opens p.es 40); have := opens_len p.es 40; omega)
                have h8 := sameTowns_run (opens p.es 40) (by have := opens_len p.es 40; omega)
                simp -implicitDefEqProofs (maxSteps := 1000000) only [go_sem, Nat.reduceAdd, Nat.reduceBEq, Nat.reduceMul, Nat.reduceLeDiff, Int.reduceEq, ti3, ti4, ti36, ti37, ti39, ti42, ti44, ti48, ti51, List.length_map, e2, hw1, hrow, h0, h1, h2, h3, h4, h5, h6, h7, h8]
                exact ⟨hlt, trivial, trivial⟩
        · have e2 : decide ((k : Int) < l.length) = false := by simp; omega
          simp -implicitDefEqProofs (maxSteps := 1000000) only [go_sem, Nat.reduceAdd, Nat.reduceBEq, Nat.reduceMul, Nat.reduceLeDiff, Int.reduceEq, ti3, ti4, ti36, ti37, ti39, ti42, ti44, ti48, ti51, List.length_map, e2]
  · have hnew := new_no w hw
    have hnew2 := newR_no w hw
    simp only [c6, Option.getD, Try.f6]
    simp -implicitDefEqProofs (maxSteps := 1000000) only [go_sem, Nat.reduceAdd, Nat.reduceBEq, Nat.reduceMul, Nat.reduceLeDiff, Int.reduceEq, ti3, ti4, ti36, ti37, ti39, ti42, ti44, ti48, ti51, List.length_map, h0, hnew, hnew2, beq_self_eq_true]
end Go.Proofs.Ytdnhlbbbcallpaa
/- WardenTells -/
set_option autoImplicit false
set_option linter.unusedVariables false
namespace Go.Proofs.Ytdnhlbbbcallpaa
open Go.Ex Go.Proofs Go.ChangeShapes Go.WideShapes Go.ChangeAt Go.RowKit
set_option maxRecDepth 100000
theorem wardenTells_contract (H : Type) (enc : TypeId × Value → H) (W : World) (base : Nat) (args : Array Value) (ds gs : List (DataW H)) (before : List MemPlace)
    (hval : ∀ (j : Nat) t v, Try.f6.params[j]? = some t → args[j]? = some v → Value.okWide Try.prog W .any base t v)
    (hW : DataW.Whole enc Try.prog Try.f6.params.toList Rows.wardenTellsSpec.vars false W args.toList ds gs before) :
    Calls Try.prog 6 args W fun e W' => ∃ v, e = .returned v ∧ Rows.wardenTellsSpec.post enc Try.prog Try.f6 false true false false W args v W' := by
  have hW' := hW
  obtain ⟨pp, qq, hA, _⟩ := hW'
  rw [Try.params6] at hA hval
  obtain ⟨v0, vs0, d0, ds0, p0, q0, ha0, hd0, hp0, h0, r0⟩ := trodAll_cons hA
  obtain ⟨v1, vs1, d1, ds1, p1, q1, ha1, hd1, hp1, h1, r1⟩ := trodAll_cons r0
  obtain ⟨e1, e2, e3⟩ := trodAll_nil r1
  have hargs : args.toList = [v0, v1] := by rw [ha0, ha1, e1]
  have hav : ∀ j : Nat, args[j]? = [v0, v1][j]? := fun j => by rw [← hargs, Array.getElem?_toList]
  obtain ⟨x0, o0, _, k0⟩ := rdv_int Try.underlying3 (hval 0 3 v0 rfl (hav 0)) h0 
  obtain ⟨x1, o1, _, k1⟩ := rdv_slice Try.underlying36 (hval 1 36 v1 rfl (hav 1)) h1 rd_WSs
  obtain ⟨h', hr⟩ := FN_run (wardenTells_run x0 x1 o1.2)
  refine law_post (tb := 4) laid ?_ rfl Try.underlying4 (by kernel_rfl) ?_ hW (law_calls runOK (by rw [hargs]; exact VRs.cons k0 (VRs.cons k1 VRs.nil)) hr)
  · intro t ht
    rw [Try.params6] at ht
    have : t = 3 ∨ t = 36 := by simpa using ht
    rcases this with rfl | rfl
    all_goals exact ⟨by kernel_rfl, of_decide_eq_true (by kernel_rfl)⟩
  · intro ds hl
    rw [Try.params6] at hl
    match ds, hl with
    | [a0, a1], _ => rfl
theorem wardenTells_lifted (os : Os) (started : os.Started) (H : Type) (enc : TypeId × Value → H) :
    ReturnsInHanded {} Try.checked os 6 .any (Rows.wardenTellsSpec.pre6 enc Try.prog Try.f6 Rows.wardenTellsRow.domain false) (Rows.wardenTellsSpec.post enc Try.prog Try.f6 false true false false) := by
  refine returnsInHanded_of_change (C := Try.checked) own started (by kernel_rfl) Try.func6
    (ChangeSpec.witness6 (enc := enc) (C := Try.checked) false ⟨#[], #[.int .i64 0, .slice none 0 0], []⟩ 8 (by kernel_rfl) (by kernel_rfl) (by kernel_rfl) (by kernel_rfl)) ?_
  intro W base args ds gs before hval hW _ _
  exact wardenTells_contract H enc W base args ds gs before hval hW
theorem wardenTells_holds : Rows.WardenTellsSaid :=
  OpenClaim.holds_of_wide 6 Try.f6 rfl rfl rfl rfl rfl rfl rfl ⟨rfl, rfl, rfl, rfl, rfl⟩ rfl rfl rfl rfl rfl (by kernel_rfl) Try.func6 (by kernel_rfl)
    (of_decide_eq_true (by kernel_rfl)) (by unfold Func.isWrapper; first | (rw [if_pos (by decide +kernel)]; kernel_rfl) | (rw [if_neg (by decide +kernel)]; exact ⟨rfl, rfl⟩))
    (fun os started H enc _ => wardenTells_lifted os started H enc)
#print axioms wardenTells_holds
end Go.Proofs.Ytdnhlbbbcallpaa
