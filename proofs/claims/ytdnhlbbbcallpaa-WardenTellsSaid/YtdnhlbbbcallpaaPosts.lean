/- The wardens: what each function computes. -/
import Derived.Test.YtdnhlbbbcallpaaAlarm
set_option linter.unnecessarySimpa false
set_option linter.unusedVariables false
set_option linter.unusedSimpArgs false
set_option linter.unusedSectionVars false
set_option linter.deprecated false
/- The wardens: what each function computes. -/
set_option autoImplicit false
set_option linter.unusedVariables false
namespace Go.Proofs.Ytdnhlbbbcallpaa
open Go.Ex Go.Proofs
set_option maxHeartbeats 4000000
set_option maxRecDepth 100000

/-- a call of a function that runs in its caller's memory -/
theorem call0 {E : EP} {f : FuncId} {args : List AV} {st : St} {x : AV} {H' : List OB} {fi : FI} (hf : E.fn f = some fi) (hm : fi.mode = 0) (H : FN E f args st.heap fun r h' => r = x ∧ h' = H') : callV E f args st = some (x, { st with heap := H' }) := by
  obtain ⟨r, h', h1, rfl, rfl⟩ := FN_eq E H
  rw [callV_eq, hf]
  simp only [hm]
  have h0 : Nat.beq 0 0 = true := rfl
  rw [h0]
  simp only [cond_true, h1]

structure WO where
  level : Int
  number : Int
  hour : Int
  done : Bool
def encWO (o : WO) : List AV := [.i .i64 o.level, .i .i64 o.number, .i .i64 o.hour, .b o.done]
def encE (e : Int × WO) : AV × AV := (.i .i64 e.1, .ag (encWO e.2))
def wfind (t : Int) : List (Int × WO) → Option WO
  | [] => none
  | (k, o) :: r => if t = k then some o else wfind t r
def wset (t : Int) (o : WO) : List (Int × WO) → List (Int × WO)
  | [] => [(t, o)]
  | (k, u) :: r => if t = k then (k, o) :: r else (k, u) :: wset t o r
theorem mfind_enc (t : Int) : ∀ (es : List (Int × WO)), mfind (.i .i64 t) (es.map encE) = some ((wfind t es).map fun o => .ag (encWO o))
  | [] => rfl
  | (k, o) :: r => by
    simp only [List.map_cons, encE, mfind, keyEq, if_true, wfind]
    by_cases h : t = k
    · subst h; simp
    · have : (t == k) = false := by simpa using h
      rw [this, if_neg h]
      simp only
      exact mfind_enc t r
theorem mset_enc (t : Int) (o : WO) : ∀ (es : List (Int × WO)), mset (.i .i64 t) (.ag (encWO o)) (es.map encE) = some ((wset t o es).map encE)
  | [] => rfl
  | (k, u) :: r => by
    simp only [List.map_cons, encE, mset, keyEq, if_true, wset]
    by_cases h : t = k
    · subst h; simp [encE]
    · have : (t == k) = false := by simpa using h
      rw [this, if_neg h]
      have ih := mset_enc t o r
      simp only [ih, List.map_cons, encE]

theorem new_run (w : Int) (st : St) : callV E 18 [.i .i64 w] st = if 1 ≤ w ∧ w ≤ 16 then some (.hp (st.heap.length + 1) 3 1 0 0, { st with heap := st.heap ++ [.map [] 0] ++ [.arr 3 [[.i .i64 w, .i .i64 0, .mp st.heap.length]] false 2] }) else some (.np, st) := by
  by_cases h : 1 ≤ w ∧ w ≤ 16
  · rw [if_pos h]
    refine call0 fn18 rfl ?_
    refine FN_enter E fn18 ?_
    have e1 : decide (w < 1) = false := by simp; omega
    have e2 : decide (w > 16) = false := by simp; omega
    simp only [c18, Option.getD, Try.f18]
    simp -implicitDefEqProofs only [go_sem, Nat.reduceAdd, Nat.reduceBEq, Nat.reduceMul, Nat.reduceLeDiff, ti3, ti4, ti37, ti59, ti61, e1, e2]
    exact ⟨by simp, trivial⟩
  · rw [if_neg h]
    have e1 : (decide (w < 1) || decide (w > 16)) = true := by simp; omega
    have : callV E 18 [.i .i64 w] st = some (.np, { st with heap := st.heap }) := by
      refine call0 fn18 rfl ?_
      refine FN_enter E fn18 ?_
      simp only [c18, Option.getD, Try.f18]
      simp -implicitDefEqProofs only [go_sem, Nat.reduceAdd, Nat.reduceBEq, Nat.reduceMul, Nat.reduceLeDiff, ti3, ti4, ti37, ti59, ti61]
      exact ⟨fun _ => ⟨trivial, trivial⟩, fun h => by rw [e1] at h; cases h⟩
    exact this

/-- is an order taken? -/
def okRaise (town level hour : Int) : Bool := decide (0 ≤ town) && decide (town < 40) && decide (0 ≤ level) && decide (level ≤ 3) && decide (0 ≤ hour) && decide (hour ≤ 16777216)

theorem raise_no (o : Nat) (H : List OB) (town level hour : Int) (h : okRaise town level hour = false) (vs ls tl) : callV E 20 [.hp o 3 1 0 0, .i .i64 town, .i .i64 level, .i .i64 hour] ⟨vs, ls, H, tl⟩ = some (.i .i64 0, ⟨vs, ls, H, tl⟩) := by
  refine call0 fn20 rfl ?_
  refine FN_enter E fn20 ?_
  have e1 : (decide (town < 0) || decide (town ≥ 40) || decide (level < 0) || decide (level > 3) || decide (hour < 0) || decide (hour > 16777216)) = true := by
    unfold okRaise at h
    simp only [Bool.and_eq_false_iff, decide_eq_false_iff_not] at h
    simp only [Bool.or_eq_true, decide_eq_true_eq]
    omega
  simp only [c20, Option.getD, Try.f20]
  simp -implicitDefEqProofs only [go_sem, Nat.reduceAdd, Nat.reduceBEq, Nat.reduceMul, Nat.reduceLeDiff, ti3, ti4, ti37, ti59, ti61, ti66, e1]
  exact ⟨trivial, trivial⟩

theorem raise_yes (o q : Nat) (w m : Int) (es : List (Int × WO)) (H : List OB) (town level hour : Int) (ho : H[o]? = some (.arr 3 [[.i .i64 w, .i .i64 m, .mp q]] false 2)) (hq : H[q]? = some (.map (es.map encE) 0)) (hoq : o ≠ q) (h : okRaise town level hour = true) (hm : 0 ≤ m ∧ m ≤ 1000000) (vs ls tl) :
    callV E 20 [.hp o 3 1 0 0, .i .i64 town, .i .i64 level, .i .i64 hour] ⟨vs, ls, H, tl⟩ = some (.i .i64 (m + 1), ⟨vs, ls, (H.set o (.arr 3 [[.i .i64 w, .i .i64 (m + 1), .mp q]] false 2)).set q (.map ((wset town ⟨level, m + 1, hour, false⟩ es).map encE) 0), tl⟩) := by
  refine call0 fn20 rfl ?_
  refine FN_enter E fn20 ?_
  have e1 : (decide (town < 0) || decide (town ≥ 40) || decide (level < 0) || decide (level > 3) || decide (hour < 0) || decide (hour > 16777216)) = false := by
    unfold okRaise at h
    simp only [Bool.and_eq_true, decide_eq_true_eq] at h
    simp only [Bool.or_eq_false_iff, decide_eq_false_iff_not]
    omega
  have hol : o < H.length := (List.getElem?_eq_some_iff.1 ho).1
  have g1 : ∀ X, (H.set o X)[o]? = some X := fun X => by simp [hol]
  have g2 : ∀ X, (H.set o X)[q]? = some (.map (es.map encE) 0) := fun X => by rw [List.getElem?_set_ne hoq]; exact hq
  have hql : q < H.length := (List.getElem?_eq_some_iff.1 hq).1
  have g3 : ∀ X Y, ((H.set o X).set q Y)[o]? = some X := fun X Y => by rw [List.getElem?_set_ne (Ne.symm hoq)]; exact g1 X
  have hw : IntKind.i64.wrap (m + 1) = m + 1 := wrap64 (by omega) (by omega)
  have hs := mset_enc town ⟨level, m + 1, hour, false⟩ es
  simp only [encWO] at hs
  simp only [c20, Option.getD, Try.f20]
  simp -implicitDefEqProofs only [go_sem, Nat.reduceAdd, Nat.reduceBEq, Nat.reduceMul, Nat.reduceLeDiff, ti3, ti4, ti37, ti59, ti61, ti66, e1, ho, hq, g1, g2, g3, hw, hs]
  exact ⟨trivial, trivial⟩

/-- a call of a function that runs by itself, its arguments read out of the caller's memory -/
theorem call2 {E : EP} {f : FuncId} {args args' : List AV} {st : St} {x : AV} {fi : FI} (hf : E.fn f = some fi) (hm : fi.mode = 1) (hl : mapO (ro st.heap 8) args = some args')
    (H : FN E f args' [] fun r h' => ro h' 8 r = some x ∧ clean h' r = true) : callV E f args st = some (x, st) := by
  obtain ⟨r, h', h1, h2, h3⟩ := FN_eq E H
  rw [callV_eq, hf]
  simp only [hm]
  have h0 : Nat.beq 1 0 = false := rfl
  rw [h0]
  simp only [cond_false, hl, h1, result, h2, h3, Bool.or_true, cond_true]

structure CL where
  town : Int
  level : Int
  number : Int
  warden : Int
def encCL (c : CL) : List AV := [.i .i64 c.town, .i .i64 c.level, .i .i64 c.number, .i .i64 c.warden]
def awaits (w : Int) (es : List (Int × WO)) (c : CL) : Bool :=
  match wfind c.town es with
  | some o => !o.done && o.number == c.number && decide (c.warden ≥ 0) && decide (c.warden < w)
  | none => false

/-- what a post is read as -/
theorem post_ro {o q : Nat} {w m : Int} {es : List (Int × WO)} {H : List OB} (ho : H[o]? = some (.arr 3 [[.i .i64 w, .i .i64 m, .mp q]] false 2)) (hq : H[q]? = some (.map (es.map encE) 0)) :
    ro H 8 (.hp o 3 1 0 0) = some (.ep [.i .i64 w, .i .i64 m, .im (es.map encE)] 0) := by
  simp only [ro, lev, ho, hq, mapO, Nat.beq, Nat.ble, cond_true, cond_false, Bool.and_self, List.length_cons, List.length_nil, List.getElem?_cons_zero, Option.map_some]

theorem awaits_run (o q : Nat) (w m : Int) (es : List (Int × WO)) (c : CL) (st : St) (ho : st.heap[o]? = some (.arr 3 [[.i .i64 w, .i .i64 m, .mp q]] false 2)) (hq : st.heap[q]? = some (.map (es.map encE) 0)) :
    callV E 24 [.hp o 3 1 0 0, .ag (encCL c)] st = some (.b (awaits w es c), st) := by
  refine call2 fn24 rfl (args' := [.ep [.i .i64 w, .i .i64 m, .im (es.map encE)] 0, .ag (encCL c)]) ?_ ?_
  · have h1 := post_ro ho hq
    simp -implicitDefEqProofs only [go_sem, Nat.reduceAdd, Nat.reduceBEq, Nat.reduceMul, Nat.reduceLeDiff, h1, encCL]
  · refine FN_enter E fn24 ?_
    have hf := mfind_enc c.town es
    unfold awaits
    cases hw : wfind c.town es with
    | none =>
      rw [hw] at hf
      simp only [Option.map_none] at hf
      simp only [c24, Option.getD, Try.f24, encCL]
      simp -implicitDefEqProofs only [go_sem, Nat.reduceAdd, Nat.reduceBEq, Nat.reduceMul, Nat.reduceLeDiff, ti3, ti4, ti37, ti42, ti59, ti61, ti66, hf]
      exact ⟨trivial, trivial⟩
    | some x =>
      rw [hw] at hf
      simp only [Option.map_some, encWO] at hf
      simp only [c24, Option.getD, Try.f24, encCL]
      simp -implicitDefEqProofs only [go_sem, Nat.reduceAdd, Nat.reduceBEq, Nat.reduceMul, Nat.reduceLeDiff, ti3, ti4, ti37, ti42, ti59, ti61, ti66, hf]
      exact ⟨trivial, trivial⟩

def ackd (w : Int) (es : List (Int × WO)) (c : CL) : List (Int × WO) :=
  match wfind c.town es with
  | some o => wset c.town { o with done := true } es
  | none => es
theorem ack_no (o q : Nat) (w m : Int) (es : List (Int × WO)) (c : CL) (vs ls tl) (H : List OB) (ho : H[o]? = some (.arr 3 [[.i .i64 w, .i .i64 m, .mp q]] false 2)) (hq : H[q]? = some (.map (es.map encE) 0)) (h : awaits w es c = false) :
    callV E 22 [.hp o 3 1 0 0, .ag (encCL c)] ⟨vs, ls, H, tl⟩ = some (.b false, ⟨vs, ls, H, tl⟩) := by
  refine call0 fn22 rfl ?_
  refine FN_enter E fn22 ?_
  have ha := fun st => awaits_run o q w m es c st
  rw [h] at ha
  simp only [encCL] at ha
  simp only [c22, Option.getD, Try.f22, encCL]
  simp -implicitDefEqProofs only [go_sem, Nat.reduceAdd, Nat.reduceBEq, Nat.reduceMul, Nat.reduceLeDiff, ti3, ti4, ti37, ti42, ti59, ti61, ti66, ha, ho, hq]
  exact ⟨trivial, trivial⟩
theorem ack_yes (o q : Nat) (w m : Int) (es : List (Int × WO)) (c : CL) (vs ls tl) (H : List OB) (ho : H[o]? = some (.arr 3 [[.i .i64 w, .i .i64 m, .mp q]] false 2)) (hq : H[q]? = some (.map (es.map encE) 0)) (h : awaits w es c = true) :
    callV E 22 [.hp o 3 1 0 0, .ag (encCL c)] ⟨vs, ls, H, tl⟩ = some (.b true, ⟨vs, ls, H.set q (.map ((ackd w es c).map encE) 0), tl⟩) := by
  refine call0 fn22 rfl ?_
  refine FN_enter E fn22 ?_
  have ha := fun st => awaits_run o q w m es c st
  rw [h] at ha
  simp only [encCL] at ha
  have hf := mfind_enc c.town es
  unfold awaits at h
  unfold ackd
  cases hw : wfind c.town es with
  | none => rw [hw] at h; cases h
  | some x =>
    rw [hw] at hf
    simp only [Option.map_some, encWO] at hf
    have hs := mset_enc c.town { x with done := true } es
    simp only [encWO] at hs
    simp only [c22, Option.getD, Try.f22, encCL]
    simp -implicitDefEqProofs only [go_sem, Nat.reduceAdd, Nat.reduceBEq, Nat.reduceMul, Nat.reduceLeDiff, ti3, ti4, ti37, ti42, ti59, ti61, ti66, ha, ho, hq, hf, hs]
    exact ⟨trivial, trivial⟩
end Go.Proofs.Ytdnhlbbbcallpaa
/- The wardens: Open and Due. -/
set_option autoImplicit false
set_option linter.unusedVariables false
namespace Go.Proofs.Ytdnhlbbbcallpaa
open Go.Ex Go.Proofs
set_option maxHeartbeats 4000000
set_option maxRecDepth 100000
def isOpen (es : List (Int × WO)) (t : Int) : Bool := match wfind t es with | some o => !o.done | none => false
/-- the open towns below k -/
def opens (es : List (Int × WO)) : Nat → List Int
  | 0 => []
  | k + 1 => opens es k ++ (if isOpen es k then [(k : Int)] else [])
def enc1 (x : Int) : List AV := [.i .i64 x]
theorem opens_len (es : List (Int × WO)) : ∀ k, (opens es k).length ≤ k
  | 0 => by simp [opens]
  | k + 1 => by
    have := opens_len es k
    simp only [opens, List.length_append]
    split <;> simp <;> omega

theorem open_FN (w m : Int) (es : List (Int × WO)) : FN E 30 [.ep [.i .i64 w, .i .i64 m, .im (es.map encE)] 0] [] fun r h' => ro h' 8 r = some (.sl 1 ((opens es 40).map enc1) false) ∧ clean h' r = true := by
  refine FN_enter E fn30 ?_
  obtain ⟨r, hr⟩ : ∃ r, r = (opens es 40).map enc1 := ⟨_, rfl⟩
  rw [← hr]
  simp only [c30, Option.getD, Try.f30]
  simp -implicitDefEqProofs only [go_sem, Nat.reduceAdd, Nat.reduceBEq, Nat.reduceMul, Nat.reduceLeDiff, ti3, ti4, ti37, ti42, ti51, ti59, ti61, ti66]
  refine EX_for E 40 (fun k => [(3, .hs 0 1 0 (opens es k).length (opens es k).length), (7, .i .i64 k)]) (fun _ => []) (fun k => [.arr 1 ((opens es k).map enc1) true 0]) (fun _ => True) trivial ?_ (fun k hk _ => ?_)
  · simp only [go_sem, Nat.reduceAdd, Nat.reduceBEq, Nat.reduceMul, Nat.reduceLeDiff, opens, List.map_nil] <;> rfl
  · by_cases hlt : k < 40
    · have e2 : decide ((k : Int) < 40) = true := by simp; omega
      have hw := wrap64_succ hlt (by omega)
      have hf := mfind_enc k es
      have hl := opens_len es k
      have hfit : decide (((opens es k).length + 1) * 8 ≤ 35184372088832) = true := by simp; omega
      have hop : isOpen es k = match wfind (k : Int) es with | some o => !o.done | none => false := rfl
      have hk1 : opens es (k + 1) = opens es k ++ (if isOpen es k then [(k : Int)] else []) := rfl
      cases hx : wfind (k : Int) es with
      | none =>
        rw [hx] at hf hop
        simp only [Option.map_none] at hf
        simp only at hop
        rw [hop] at hk1
        simp only [Bool.false_eq_true, if_false, List.append_nil] at hk1
        simp -implicitDefEqProofs (maxSteps := 1000000) only [go_sem, Nat.reduceAdd, Nat.reduceBEq, Nat.reduceMul, Nat.reduceLeDiff, ti3, ti4, ti37, ti42, ti51, ti59, ti61, ti66, e2, hw, hf, hk1]
        exact ⟨hlt, trivial, trivial⟩
      | some x =>
        rw [hx] at hf hop
        simp only [Option.map_some, encWO] at hf
        simp only at hop
        rw [hop] at hk1
        cases hd : x.done with
        | true =>
          rw [hd] at hf hk1
          simp only [Bool.not_true, Bool.false_eq_true, if_false, List.append_nil] at hk1
          simp -implicitDefEqProofs (maxSteps := 1000000) only [go_sem, Nat.reduceAdd, Nat.reduceBEq, Nat.reduceMul, Nat.reduceLeDiff, ti3, ti4, ti37, ti42, ti51, ti59, ti61, ti66, e2, hw, hf, hk1]
          exact ⟨hlt, trivial, trivial⟩
        | false =>
          rw [hd] at hf hk1
          simp only [Bool.not_false, if_true] at hk1
          simp -implicitDefEqProofs (maxSteps := 1000000) only [go_sem, Nat.reduceAdd, Nat.reduceBEq, Nat.reduceMul, Nat.reduceLeDiff, ti3, ti4, ti37, ti42, ti51, ti59, ti61, ti66, e2, hw, hf, hk1, List.length_map, hfit, List.map_append, List.map_cons, List.map_nil, enc1, List.length_append]
          exact ⟨hlt, trivial, trivial⟩
    · have e2 : decide ((k : Int) < 40) = false := by simp; omega
      have hkn : k = 40 := by omega
      simp -implicitDefEqProofs only [go_sem, Nat.reduceAdd, Nat.reduceBEq, Nat.reduceMul, Nat.reduceLeDiff, ti3, ti4, ti37, ti42, ti51, ti59, ti61, ti66, e2, List.length_map]
      rw [hr, hkn]
      simp
theorem open_run (o q : Nat) (w m : Int) (es : List (Int × WO)) (st : St) (hh : ro st.heap 8 (.hp o 3 1 0 0) = some (.ep [.i .i64 w, .i .i64 m, .im (es.map encE)] 0)) :
    callV E 30 [.hp o 3 1 0 0] st = some (.sl 1 ((opens es 40).map enc1) false, st) :=
  call2 fn30 rfl (args' := [.ep [.i .i64 w, .i .i64 m, .im (es.map encE)] 0]) (by simp -implicitDefEqProofs only [go_sem, Nat.reduceAdd, Nat.reduceBEq, Nat.reduceMul, Nat.reduceLeDiff, hh]) (open_FN w m es)
theorem open_ep (w m : Int) (es : List (Int × WO)) (st : St) :
    callV E 30 [.ep [.i .i64 w, .i .i64 m, .im (es.map encE)] 0] st = some (.sl 1 ((opens es 40).map enc1) false, st) :=
  call2 fn30 rfl (args' := [.ep [.i .i64 w, .i .i64 m, .im (es.map encE)] 0]) (by simp -implicitDefEqProofs only [go_sem, Nat.reduceAdd, Nat.reduceBEq, Nat.reduceMul, Nat.reduceLeDiff]) (open_FN w m es)
end Go.Proofs.Ytdnhlbbbcallpaa
/- The wardens: Due. -/
set_option autoImplicit false
set_option linter.unusedVariables false
namespace Go.Proofs.Ytdnhlbbbcallpaa
open Go.Ex Go.Proofs
set_option maxHeartbeats 4000000
set_option maxRecDepth 100000

/-- is warden v called in that hour? -/
def called (w hour : Int) (o : WO) (v : Int) : Bool := decide (hour ≥ o.hour) && decide (v < w) && decide (v ≤ IntKind.i64.wrap ((IntKind.i64.wrap (hour - o.hour)).tdiv 3))
/-- how many wardens are called -/
def many (w hour : Int) (o : WO) : Nat := if hour ≥ o.hour then (min w (IntKind.i64.wrap ((IntKind.i64.wrap (hour - o.hour)).tdiv 3) + 1)).toNat else 0
theorem called_lt (w hour : Int) (o : WO) (v : Nat) (h : v < many w hour o) : called w hour o v = true := by
  unfold many at h
  unfold called
  split at h
  · simp only [Bool.and_eq_true, decide_eq_true_eq]; omega
  · omega
theorem called_ge (w hour : Int) (o : WO) (v : Nat) (h : v = many w hour o) : called w hour o v = false := by
  unfold many at h
  unfold called
  split at h
  · simp only [Bool.and_eq_false_iff, decide_eq_false_iff_not]; omega
  · simp only [Bool.and_eq_false_iff, decide_eq_false_iff_not]; omega
theorem many_le (w hour : Int) (o : WO) (h : w ≤ 16) : many w hour o ≤ 16 := by
  unfold many; split <;> omega
def callsOf (t : Int) (o : WO) : Nat → List CL
  | 0 => []
  | v + 1 => callsOf t o v ++ [⟨t, o.level, o.number, v⟩]
theorem callsOf_len (t : Int) (o : WO) : ∀ v, (callsOf t o v).length = v
  | 0 => rfl
  | v + 1 => by simp [callsOf, callsOf_len t o v]
/-- the calls for a list of towns -/
def dues (w hour : Int) (es : List (Int × WO)) : List Int → List CL
  | [] => []
  | t :: r => (match wfind t es with | some o => callsOf t o (many w hour o) | none => []) ++ dues w hour es r
theorem dues_append (w hour : Int) (es : List (Int × WO)) : ∀ (l r : List Int), dues w hour es (l ++ r) = dues w hour es l ++ dues w hour es r
  | [], r => rfl
  | t :: l, r => by simp [dues, dues_append w hour es l r]
theorem dues_len (w hour : Int) (es : List (Int × WO)) (h : w ≤ 16) : ∀ (l : List Int), (dues w hour es l).length ≤ 16 * l.length
  | [] => by simp [dues]
  | t :: l => by
    have ih := dues_len w hour es h l
    simp only [dues, List.length_append, List.length_cons]
    cases wfind t es with
    | none => simp; omega
    | some o => simp only [callsOf_len]; have := many_le w hour o h; omega
theorem opens_mem (es : List (Int × WO)) : ∀ k t, t ∈ opens es k → isOpen es t = true
  | 0, t, h => by simp [opens] at h
  | k + 1, t, h => by
    simp only [opens, List.mem_append] at h
    rcases h with h | h
    · exact opens_mem es k t h
    · split at h
      · rename_i hx; have : t = k := by simpa using h
        rw [this]; exact hx
      · simp at h

theorem due_run (o q : Nat) (w m hour : Int) (es : List (Int × WO)) (st : St) (hw16 : w ≤ 16) (hh : ro st.heap 8 (.hp o 3 1 0 0) = some (.ep [.i .i64 w, .i .i64 m, .im (es.map encE)] 0)) :
    callV E 27 [.hp o 3 1 0 0, .i .i64 hour] st = some (.sl 4 ((dues w hour es (opens es 40)).map encCL) false, st) := by
  refine call2 fn27 rfl (args' := [.ep [.i .i64 w, .i .i64 m, .im (es.map encE)] 0, .i .i64 hour]) ?_ ?_
  · simp -implicitDefEqProofs only [go_sem, Nat.reduceAdd, Nat.reduceBEq, Nat.reduceMul, Nat.reduceLeDiff, hh]
  · refine FN_enter E fn27 ?_
    have hopen : ∀ st, callV E 30 [.ep [.i .i64 w, .i .i64 m, .im (es.map encE)] 0] st = some (.sl 1 ((opens es 40).map enc1) false, st) := fun st => open_ep w m es st
    have hmem := opens_mem es 40
    have hll := opens_len es 40
    obtain ⟨r, hr⟩ : ∃ r, r = (dues w hour es (opens es 40)).map encCL := ⟨_, rfl⟩
    rw [← hr]
    generalize hl : opens es 40 = l at hr hopen hmem hll
    simp only [c27, Option.getD, Try.f27]
    simp -implicitDefEqProofs only [go_sem, Nat.reduceAdd, Nat.reduceBEq, Nat.reduceMul, Nat.reduceLeDiff, Int.reduceEq, ti3, ti4, ti37, ti42, ti48, ti51, ti59, ti61, ti66, hopen, List.length_map]
    refine EX_for E l.length (fun k => [(5, .hs 0 4 0 (dues w hour es (l.take k)).length (dues w hour es (l.take k)).length), (13, .i .i64 k)]) (fun _ => []) (fun k => [.arr 4 ((dues w hour es (l.take k)).map encCL) true 0]) (fun _ => True) trivial ?_ (fun k hk _ => ?_)
    · simp only [go_sem, Nat.reduceAdd, Nat.reduceBEq, Nat.reduceMul, Nat.reduceLeDiff, List.take_zero, dues, List.map_nil] <;> rfl
    · by_cases hlt : k < l.length
      · have e2 : decide ((k : Int) < l.length) = true := by simp; omega
        have hw := wrap64_succ hlt (by omega)
        have hrow := row_map enc1 l k hlt
        simp only [enc1] at hrow
        have hf := mfind_enc l[k] es
        have hop := hmem l[k] (List.getElem_mem hlt)
        unfold isOpen at hop
        cases hx : wfind l[k] es with
        | none => rw [hx] at hop; cases hop
        | some x =>
          rw [hx] at hf
          simp only [Option.map_some, encWO] at hf
          have htk : dues w hour es (l.take (k + 1)) = dues w hour es (l.take k) ++ callsOf l[k] x (many w hour x) := by
            rw [List.take_succ_eq_append_getElem hlt, dues_append]
            simp [dues, hx]
          have hdl := dues_len w hour es hw16 (l.take k)
          have hdl2 : (l.take k).length ≤ 40 := by simp; omega
          generalize hd : dues w hour es (l.take k) = base at htk hdl
          simp -implicitDefEqProofs (maxSteps := 1000000) only [go_sem, Nat.reduceAdd, Nat.reduceBEq, Nat.reduceMul, Nat.reduceLeDiff, Int.reduceEq, ti3, ti4, ti37, ti42, ti48, ti51, ti59, ti61, ti66, e2, hw, hf, hrow, List.length_map, hd]
          refine EX_for E (many w hour x) (fun v => [(5, .hs 0 4 0 (base ++ callsOf l[k] x v).length (base ++ callsOf l[k] x v).length), (9, .i .i64 v)]) (fun _ => []) (fun v => [.arr 4 ((base ++ callsOf l[k] x v).map encCL) true 0]) (fun _ => True) trivial ?_ (fun v hv _ => ?_)
          · simp only [go_sem, Nat.reduceAdd, Nat.reduceBEq, Nat.reduceMul, Nat.reduceLeDiff, callsOf, List.append_nil] <;> rfl
          · by_cases hvl : v < many w hour x
            · have c1 := called_lt w hour x v hvl
              unfold called at c1
              have hv16 := many_le w hour x hw16
              have hw2 := wrap64_succ hvl (by omega)
              have hfit : decide (((base ++ callsOf l[k] x v).length + 1) * 32 ≤ 35184372088832) = true := by simp [callsOf_len]; omega
              simp -implicitDefEqProofs (maxSteps := 1000000) only [go_sem, Nat.reduceAdd, Nat.reduceBEq, Nat.reduceMul, Nat.reduceLeDiff, Int.reduceEq, ti3, ti4, ti37, ti42, ti48, ti51, ti59, ti61, ti66, e2, hw2, c1, List.length_map, hfit]
              exact ⟨hvl, trivial, by simp [callsOf, encCL]⟩
            · have c1 := called_ge w hour x v (by omega)
              unfold called at c1
              have hvn : v = many w hour x := by omega
              simp -implicitDefEqProofs (maxSteps := 1000000) only [go_sem, Nat.reduceAdd, Nat.reduceBEq, Nat.reduceMul, Nat.reduceLeDiff, Int.reduceEq, ti3, ti4, ti37, ti42, ti48, ti51, ti59, ti61, ti66, e2, hw, c1, List.length_map, htk]
              exact ⟨hlt, trivial, by rw [hvn]⟩
      · have e2 : decide ((k : Int) < l.length) = false := by simp; omega
        have hkn : k = l.length := by omega
        simp -implicitDefEqProofs only [go_sem, Nat.reduceAdd, Nat.reduceBEq, Nat.reduceMul, Nat.reduceLeDiff, Int.reduceEq, ti3, ti4, ti37, ti42, ti48, ti51, ti59, ti61, ti66, e2, List.length_map]
        rw [hr, hkn]
        simp
end Go.Proofs.Ytdnhlbbbcallpaa
/- The wardens: the fixed example. -/
set_option autoImplicit false
set_option linter.unusedVariables false
namespace Go.Proofs.Ytdnhlbbbcallpaa
open Go.Ex Go.Proofs
set_option maxHeartbeats 4000000
set_option maxRecDepth 100000
/-- a post's two objects -/
def postH (w m : Int) (q : Nat) (es : List (Int × WO)) : List OB := [.map (es.map encE) 0, .arr 3 [[.i .i64 w, .i .i64 m, .mp q]] false 2]
theorem raise1 (w m : Int) (es : List (Int × WO)) (town level hour : Int) (h : okRaise town level hour = true) (hm : 0 ≤ m ∧ m ≤ 1000000) (vs ls tl) :
    callV E 20 [.hp 1 3 1 0 0, .i .i64 town, .i .i64 level, .i .i64 hour] ⟨vs, ls, postH w m 0 es, tl⟩ = some (.i .i64 (m + 1), ⟨vs, ls, postH w (m + 1) 0 (wset town ⟨level, m + 1, hour, false⟩ es), tl⟩) :=
  raise_yes 1 0 w m es (postH w m 0 es) town level hour rfl rfl (by decide) h hm vs ls tl
theorem due1 (w m hour : Int) (es : List (Int × WO)) (hw : w ≤ 16) (vs ls tl) : callV E 27 [.hp 1 3 1 0 0, .i .i64 hour] ⟨vs, ls, postH w m 0 es, tl⟩ = some (.sl 4 ((dues w hour es (opens es 40)).map encCL) false, ⟨vs, ls, postH w m 0 es, tl⟩) :=
  due_run 1 0 w m hour es _ hw (post_ro rfl rfl)
theorem open1 (w m : Int) (es : List (Int × WO)) (vs ls tl) : callV E 30 [.hp 1 3 1 0 0] ⟨vs, ls, postH w m 0 es, tl⟩ = some (.sl 1 ((opens es 40).map enc1) false, ⟨vs, ls, postH w m 0 es, tl⟩) :=
  open_run 1 0 w m es _ (post_ro rfl rfl)
theorem awaits1 (w m : Int) (es : List (Int × WO)) (c : CL) (vs ls tl) : callV E 24 [.hp 1 3 1 0 0, .ag (encCL c)] ⟨vs, ls, postH w m 0 es, tl⟩ = some (.b (awaits w es c), ⟨vs, ls, postH w m 0 es, tl⟩) :=
  awaits_run 1 0 w m es c _ rfl rfl
theorem ack1_no (w m : Int) (es : List (Int × WO)) (c : CL) (h : awaits w es c = false) (vs ls tl) : callV E 22 [.hp 1 3 1 0 0, .ag (encCL c)] ⟨vs, ls, postH w m 0 es, tl⟩ = some (.b false, ⟨vs, ls, postH w m 0 es, tl⟩) :=
  ack_no 1 0 w m es c vs ls tl _ rfl rfl h
theorem ack1_yes (w m : Int) (es : List (Int × WO)) (c : CL) (h : awaits w es c = true) (vs ls tl) : callV E 22 [.hp 1 3 1 0 0, .ag (encCL c)] ⟨vs, ls, postH w m 0 es, tl⟩ = some (.b true, ⟨vs, ls, postH w m 0 (ackd w es c), tl⟩) :=
  ack_yes 1 0 w m es c vs ls tl _ rfl rfl h
theorem new1 (w : Int) (h : 1 ≤ w ∧ w ≤ 16) (vs ls tl) : callV E 18 [.i .i64 w] ⟨vs, ls, [], tl⟩ = some (.hp 1 3 1 0 0, ⟨vs, ls, postH w 0 0 [], tl⟩) := by
  rw [new_run, if_pos h]; rfl
theorem new_no (w : Int) (h : ¬ (1 ≤ w ∧ w ≤ 16)) (st : St) : callV E 18 [.i .i64 w] st = some (.np, st) := by rw [new_run, if_neg h]

theorem small44_run (st : St) : callV E 17 [] st = some (.b true, st) := by
  refine call2 fn17 rfl (args' := []) (by simp -implicitDefEqProofs only [go_sem]) ?_
  refine FN_enter E fn17 ?_
  have h1 := new1 2 (by decide)
  have h2 := raise1 2 0 [] 3 3 10 rfl (by decide)
  have h3 := due1 2 1 10 [(3, ⟨3, 1, 10, false⟩)] (by decide)
  have h4 := due1 2 1 13 [(3, ⟨3, 1, 10, false⟩)] (by decide)
  have h5 := raise1 2 1 [(3, ⟨3, 1, 10, false⟩)] 3 2 20 rfl (by decide)
  have h6 := ack1_no 2 2 [(3, ⟨2, 2, 20, false⟩)] ⟨3, 0, 1, 0⟩ rfl
  have h7 := awaits1 2 2 [(3, ⟨2, 2, 20, false⟩)] ⟨3, 0, 2, 1⟩
  have h8 := ack1_yes 2 2 [(3, ⟨2, 2, 20, false⟩)] ⟨3, 0, 2, 1⟩ rfl
  have h9 := awaits1 2 2 [(3, ⟨2, 2, 20, true⟩)] ⟨3, 0, 2, 1⟩
  have h10 := due1 2 2 20 [(3, ⟨2, 2, 20, true⟩)] (by decide)
  have h11 := new_no 0 (by decide)
  have d3 : dues 2 10 [(3, ⟨3, 1, 10, false⟩)] (opens [(3, ⟨3, 1, 10, false⟩)] 40) = [⟨3, 3, 1, 0⟩] := rfl
  have d4 : dues 2 13 [(3, ⟨3, 1, 10, false⟩)] (opens [(3, ⟨3, 1, 10, false⟩)] 40) = [⟨3, 3, 1, 0⟩, ⟨3, 3, 1, 1⟩] := rfl
  have d10 : dues 2 20 [(3, ⟨2, 2, 20, true⟩)] (opens [(3, ⟨2, 2, 20, true⟩)] 40) = [] := rfl
  have w2 : wset 3 ⟨3, 0 + 1, 10, false⟩ [] = [(3, ⟨3, 1, 10, false⟩)] := rfl
  have w5 : wset 3 ⟨2, 1 + 1, 20, false⟩ [(3, ⟨3, 1, 10, false⟩)] = [(3, ⟨2, 2, 20, false⟩)] := rfl
  have w8 : ackd 2 [(3, ⟨2, 2, 20, false⟩)] ⟨3, 0, 2, 1⟩ = [(3, ⟨2, 2, 20, true⟩)] := rfl
  have a7 : awaits 2 [(3, ⟨2, 2, 20, false⟩)] ⟨3, 0, 2, 1⟩ = true := rfl
  have a9 : awaits 2 [(3, ⟨2, 2, 20, true⟩)] ⟨3, 0, 2, 1⟩ = false := rfl
  rw [w2] at h2
  rw [d3] at h3
  rw [d4] at h4
  rw [w5] at h5
  rw [w8] at h8
  rw [a7] at h7
  rw [a9] at h9
  rw [d10] at h10
  simp only [encCL, List.map_cons, List.map_nil, Int.reduceAdd] at h2 h3 h4 h5 h6 h7 h8 h9 h10
  simp only [c17, Option.getD, Try.f17]
  simp -implicitDefEqProofs (maxSteps := 1000000) only [go_sem, Nat.reduceAdd, Nat.reduceBEq, Nat.reduceMul, Nat.reduceLeDiff, Int.reduceEq, Int.reduceBEq, ti3, ti4, ti37, ti42, ti48, ti51, ti59, ti61, ti66, h1, h2, h3, h4, h5, h6, h7, h8, h9, h10, h11]
  exact ⟨trivial, trivial⟩
end Go.Proofs.Ytdnhlbbbcallpaa
