/- The wardens: sequences of calls; plain facts. -/
import Derived.Test.YtdnhlbbbcallpaaPosts
set_option linter.unnecessarySimpa false
set_option linter.unusedVariables false
set_option linter.unusedSimpArgs false
set_option linter.unusedSectionVars false
set_option linter.deprecated false
/- The wardens: run. -/
set_option autoImplicit false
set_option linter.unusedVariables false
namespace Go.Proofs.Ytdnhlbbbcallpaa
open Go.Ex Go.Proofs
set_option maxHeartbeats 4000000
set_option maxRecDepth 100000
structure WS where (act town level hour : Int) (call : CL)
def encWS (s : WS) : List AV := [.i .i64 s.act, .i .i64 s.town, .i .i64 s.level, .i .i64 s.hour] ++ encCL s.call
/-- a post: how many orders, and which -/
structure PS where (m : Int) (es : List (Int × WO))
def actOf (x : WS) : Int := IntKind.i64.wrap ((BitVec.ofInt IntKind.i64.bits x.act &&& BitVec.ofInt IntKind.i64.bits 3).toNat)
def raiseP (town level hour : Int) (p : PS) : PS := if okRaise town level hour then ⟨p.m + 1, wset town ⟨level, p.m + 1, hour, false⟩ p.es⟩ else p
def ackP (w : Int) (c : CL) (p : PS) : PS := if awaits w p.es c then ⟨p.m, ackd w p.es c⟩ else p
def stepP (w : Int) (p : PS) (x : WS) : PS := if actOf x == 0 then raiseP x.town x.level x.hour p else if actOf x == 1 then ackP w x.call p else p
theorem raise_m (town level hour : Int) (p : PS) : p.m ≤ (raiseP town level hour p).m ∧ (raiseP town level hour p).m ≤ p.m + 1 := by unfold raiseP; split <;> simp <;> omega
theorem step_m (w : Int) (p : PS) (x : WS) : p.m ≤ (stepP w p x).m ∧ (stepP w p x).m ≤ p.m + 1 := by
  have := raise_m x.town x.level x.hour p
  unfold stepP; split; · exact this
  split
  · unfold ackP; split <;> simp <;> omega
  · simp; omega
theorem fold_m (w : Int) : ∀ (l : List WS) (p : PS), p.m ≤ (l.foldl (stepP w) p).m ∧ (l.foldl (stepP w) p).m ≤ p.m + l.length
  | [], p => by simp
  | x :: l, p => by
    have h1 := step_m w p x
    have h2 := fold_m w l (stepP w p x)
    simp only [List.foldl_cons, List.length_cons]; omega
theorem run1 (w : Int) (l : List WS) (p : PS) (hl : l.length ≤ 40) (hp : 0 ≤ p.m ∧ p.m ≤ 1000) :
    FN E 32 [.hp 1 3 1 0 0, .sl 8 (l.map encWS) false] (postH w p.m 0 p.es) fun r h' => r = .tp [] ∧ h' = postH w (l.foldl (stepP w) p).m 0 (l.foldl (stepP w) p).es := by
  refine FN_enter E fn32 ?_
  simp only [c32, Option.getD, Try.f32]
  simp -implicitDefEqProofs (maxSteps := 1000000) only [go_sem, Nat.reduceAdd, Nat.reduceBEq, Nat.reduceMul, Nat.reduceLeDiff, Int.reduceEq, ti3, ti4, ti37, List.length_map]
  refine EX_for E l.length (fun k => [(4, .i .i64 k)]) (fun _ => []) (fun k => postH w ((l.take k).foldl (stepP w) p).m 0 ((l.take k).foldl (stepP w) p).es) (fun _ => True) trivial ?_ (fun k hk _ => ?_)
  · simp only [go_sem, Nat.reduceAdd, Nat.reduceBEq, Nat.reduceMul, Nat.reduceLeDiff, List.take_zero, List.foldl_nil] <;> rfl
  · by_cases hlt : k < l.length
    · have e2 : decide ((k : Int) < l.length) = true := by simp; omega
      have hw1 := wrap64_succ hlt (by omega)
      have hrow := row_map encWS l k hlt
      simp only [encWS, encCL, List.cons_append, List.nil_append] at hrow
      have htk : (l.take (k + 1)).foldl (stepP w) p = stepP w ((l.take k).foldl (stepP w) p) l[k] := by
        rw [List.take_succ_eq_append_getElem hlt, List.foldl_append]; rfl
      have hm := fold_m w (l.take k) p
      rw [List.length_take, Nat.min_eq_left hk] at hm
      rw [htk]
      generalize (l.take k).foldl (stepP w) p = q at hm
      obtain ⟨m, es⟩ := q
      generalize hx : l[k] = x at hrow
      obtain ⟨ac, to, le, ho, ⟨ct, cl, cn, cw⟩⟩ := x
      simp only at hm hrow
      cases h0 : (IntKind.i64.wrap ((BitVec.ofInt IntKind.i64.bits ac &&& BitVec.ofInt IntKind.i64.bits 3).toNat) == 0) with
      | true =>
        have hst : stepP w ⟨m, es⟩ ⟨ac, to, le, ho, ⟨ct, cl, cn, cw⟩⟩ = raiseP to le ho ⟨m, es⟩ := by simp only [stepP, actOf, h0, if_true]
        rw [hst]
        simp -implicitDefEqProofs only [go_sem] at h0
        cases h1 : okRaise to le ho with
        | true =>
          have hr := raise1 w m es to le ho h1 (by omega)
          have hp2 : raiseP to le ho ⟨m, es⟩ = ⟨m + 1, wset to ⟨le, m + 1, ho, false⟩ es⟩ := by simp only [raiseP, h1, if_true]
          rw [hp2]
          simp -implicitDefEqProofs (maxSteps := 1000000) only [go_sem, Nat.reduceAdd, Nat.reduceBEq, Nat.reduceMul, Nat.reduceLeDiff, Int.reduceEq, ti3, ti4, ti36, ti37, ti42, ti44, List.length_map, e2, hw1, hrow, h0, hr]
          exact ⟨hlt, trivial, trivial⟩
        | false =>
          have hr := raise_no 1 (postH w m 0 es) to le ho h1
          have hp2 : raiseP to le ho ⟨m, es⟩ = ⟨m, es⟩ := by simp only [raiseP, h1, Bool.false_eq_true, if_false]
          rw [hp2]
          simp -implicitDefEqProofs (maxSteps := 1000000) only [go_sem, Nat.reduceAdd, Nat.reduceBEq, Nat.reduceMul, Nat.reduceLeDiff, Int.reduceEq, ti3, ti4, ti36, ti37, ti42, ti44, List.length_map, e2, hw1, hrow, h0, hr]
          exact ⟨hlt, trivial, trivial⟩
      | false =>
        cases h2 : (IntKind.i64.wrap ((BitVec.ofInt IntKind.i64.bits ac &&& BitVec.ofInt IntKind.i64.bits 3).toNat) == 1) with
        | true =>
          have hst : stepP w ⟨m, es⟩ ⟨ac, to, le, ho, ⟨ct, cl, cn, cw⟩⟩ = ackP w ⟨ct, cl, cn, cw⟩ ⟨m, es⟩ := by simp only [stepP, actOf, h0, h2, if_true, Bool.false_eq_true, if_false]
          rw [hst]
          simp -implicitDefEqProofs only [go_sem] at h0 h2
          cases h1 : awaits w es ⟨ct, cl, cn, cw⟩ with
          | true =>
            have hr := ack1_yes w m es ⟨ct, cl, cn, cw⟩ h1
            simp only [encCL] at hr
            have hp2 : ackP w ⟨ct, cl, cn, cw⟩ ⟨m, es⟩ = ⟨m, ackd w es ⟨ct, cl, cn, cw⟩⟩ := by simp only [ackP, h1, if_true]
            rw [hp2]
            simp -implicitDefEqProofs (maxSteps := 1000000) only [go_sem, Nat.reduceAdd, Nat.reduceBEq, Nat.reduceMul, Nat.reduceLeDiff, Int.reduceEq, ti3, ti4, ti36, ti37, ti42, ti44, List.length_map, e2, hw1, hrow, h0, h2, hr]
            exact ⟨hlt, trivial, trivial⟩
          | false =>
            have hr := ack1_no w m es ⟨ct, cl, cn, cw⟩ h1
            simp only [encCL] at hr
            have hp2 : ackP w ⟨ct, cl, cn, cw⟩ ⟨m, es⟩ = ⟨m, es⟩ := by simp only [ackP, h1, Bool.false_eq_true, if_false]
            rw [hp2]
            simp -implicitDefEqProofs (maxSteps := 1000000) only [go_sem, Nat.reduceAdd, Nat.reduceBEq, Nat.reduceMul, Nat.reduceLeDiff, Int.reduceEq, ti3, ti4, ti36, ti37, ti42, ti44, List.length_map, e2, hw1, hrow, h0, h2, hr]
            exact ⟨hlt, trivial, trivial⟩
        | false =>
          have hst : stepP w ⟨m, es⟩ ⟨ac, to, le, ho, ⟨ct, cl, cn, cw⟩⟩ = ⟨m, es⟩ := by simp only [stepP, actOf, h0, h2, Bool.false_eq_true, if_false]
          rw [hst]
          simp -implicitDefEqProofs only [go_sem] at h0 h2
          simp -implicitDefEqProofs (maxSteps := 1000000) only [go_sem, Nat.reduceAdd, Nat.reduceBEq, Nat.reduceMul, Nat.reduceLeDiff, Int.reduceEq, ti3, ti4, ti36, ti37, ti42, ti44, List.length_map, e2, hw1, hrow, h0, h2]
          exact ⟨hlt, trivial, trivial⟩
    · have e2 : decide ((k : Int) < l.length) = false := by simp; omega
      have hkn : k = l.length := by omega
      simp -implicitDefEqProofs (maxSteps := 1000000) only [go_sem, Nat.reduceAdd, Nat.reduceBEq, Nat.reduceMul, Nat.reduceLeDiff, Int.reduceEq, ti3, ti4, ti36, ti37, ti42, ti44, List.length_map, e2]
      rw [hkn, List.take_length]
      exact ⟨trivial, rfl⟩
end Go.Proofs.Ytdnhlbbbcallpaa
/- WardenAcks: plain facts. -/
set_option autoImplicit false
set_option linter.unusedVariables false
namespace Go.Proofs.Ytdnhlbbbcallpaa
open Go.Ex Go.Proofs
theorem wfind_wset (t u : Int) (o : WO) : ∀ es : List (Int × WO), wfind t (wset u o es) = if t = u then some o else wfind t es
  | [] => by simp [wset, wfind]
  | (k, x) :: r => by
    have ih := wfind_wset t u o r
    unfold wset
    by_cases hk : u = k
    · subst hk; simp only [if_true, wfind]; split <;> rfl
    · simp only [if_neg hk, wfind, ih]
      by_cases ht : t = k
      · subst ht; rw [if_pos rfl, if_pos rfl, if_neg (fun h => hk h.symm)]
      · rw [if_neg ht, if_neg ht]
/-- the state after acknowledging -/
def ack1 (w : Int) (es : List (Int × WO)) (c : CL) : List (Int × WO) := if awaits w es c then ackd w es c else es
def ackl (w : Int) (es : List (Int × WO)) (l : List CL) : List (Int × WO) := l.foldl (ack1 w) es
theorem isOpen_ack1 (w : Int) (es : List (Int × WO)) (c : CL) (t : Int) : isOpen (ack1 w es c) t = (isOpen es t && !(awaits w es c && decide (t = c.town))) := by
  unfold ack1
  cases h : awaits w es c with
  | false => simp
  | true =>
    unfold awaits at h
    simp only [if_true, ackd]
    cases hf : wfind c.town es with
    | none => rw [hf] at h; simp at h
    | some o =>
      simp only [isOpen, wfind_wset]
      by_cases ht : t = c.town
      · simp [ht]
      · simp [ht]
theorem wfind_ack1 (w : Int) (es : List (Int × WO)) (c : CL) (t : Int) (h : t ≠ c.town) : wfind t (ack1 w es c) = wfind t es := by
  unfold ack1; split
  · unfold ackd; split
    · rw [wfind_wset, if_neg h]
    · rfl
  · rfl
theorem opens_ack1 (w : Int) (es : List (Int × WO)) (c : CL) (h : awaits w es c = true) : ∀ k : Nat, 0 ≤ c.town →
    (opens (ack1 w es c) k).length + (if c.town < k then 1 else 0) = (opens es k).length
  | 0, h0 => by simp [opens]; omega
  | k + 1, h0 => by
    have ih := opens_ack1 w es c h k h0
    have ho : isOpen es c.town = true := by
      unfold awaits at h; unfold isOpen
      cases hf : wfind c.town es with
      | none => rw [hf] at h; simp at h
      | some o => rw [hf] at h; simp at h ⊢; exact h.1.1.1
    simp only [opens, List.length_append, isOpen_ack1, h, Bool.true_and]
    by_cases hk : (k : Int) = c.town
    · rw [hk, ho]
      simp only [decide_true, Bool.not_true, Bool.and_false, Bool.false_eq_true, if_false, if_true, List.length_nil, List.length_singleton]
      have h1 : ¬ c.town < (k : Int) := by omega
      have h2 : c.town < ((k + 1 : Nat) : Int) := by omega
      rw [← hk] at h1 h2 ih ⊢
      rw [if_neg h1] at ih; rw [if_pos h2]; omega
    · simp only [hk, decide_false, Bool.not_false, Bool.and_true]
      by_cases hc : c.town < (k : Int)
      · have h2 : c.town < ((k + 1 : Nat) : Int) := by omega
        rw [if_pos hc] at ih; rw [if_pos h2]; omega
      · have h2 : ¬ c.town < ((k + 1 : Nat) : Int) := by omega
        rw [if_neg hc] at ih; rw [if_neg h2]; omega
theorem opens_ge (es : List (Int × WO)) : ∀ k t, t ∈ opens es k → 0 ≤ t ∧ t < k
  | 0, t, h => by simp [opens] at h
  | k + 1, t, h => by
    simp only [opens, List.mem_append] at h
    rcases h with h | h
    · have := opens_ge es k t h; omega
    · split at h
      · simp at h; omega
      · simp at h
/-- the calls of a list of towns that grows: each is a call of an open order, towns do not fall -/
theorem callsOf_mem (t : Int) (o : WO) : ∀ n c, c ∈ callsOf t o n → c.town = t ∧ c.number = o.number ∧ 0 ≤ c.warden ∧ c.warden < n
  | 0, c, h => by simp [callsOf] at h
  | n + 1, c, h => by
    simp only [callsOf, List.mem_append, List.mem_singleton] at h
    rcases h with h | h
    · have := callsOf_mem t o n c h; refine ⟨this.1, this.2.1, this.2.2.1, by omega⟩
    · subst h; simp; omega
theorem many_lt (w hour : Int) (o : WO) (hw : 1 ≤ w) : (many w hour o : Int) ≤ w := by unfold many; split <;> omega
theorem dues_mem (w hour : Int) (es : List (Int × WO)) (hw : 1 ≤ w) : ∀ (l : List Int) c, c ∈ dues w hour es l → (c.town ∈ l) ∧ ∃ o, wfind c.town es = some o ∧ c.number = o.number ∧ 0 ≤ c.warden ∧ c.warden < w
  | [], c, h => by simp [dues] at h
  | t :: l, c, h => by
    simp only [dues, List.mem_append] at h
    rcases h with h | h
    · cases hf : wfind t es with
      | none => rw [hf] at h; simp at h
      | some o =>
        rw [hf] at h
        obtain ⟨h1, h2, h3, h4⟩ := callsOf_mem t o _ c h
        have := many_lt w hour o hw
        exact ⟨by simp [h1], o, by rw [h1, hf], h2, h3, by omega⟩
    · obtain ⟨h1, h2⟩ := dues_mem w hour es hw l c h
      exact ⟨by simp [h1], h2⟩
theorem opens_sorted (es : List (Int × WO)) : ∀ k, (opens es k).Pairwise (· < ·)
  | 0 => by simp [opens]
  | k + 1 => by
    simp only [opens, List.pairwise_append]
    refine ⟨opens_sorted es k, by split <;> simp, fun a ha b hb => ?_⟩
    have := (opens_ge es k a ha).2
    split at hb
    · simp at hb; omega
    · simp at hb
theorem dues_sorted (w hour : Int) (es : List (Int × WO)) (hw : 1 ≤ w) : ∀ l : List Int, l.Pairwise (· < ·) → (dues w hour es l).Pairwise (fun a b => a.town ≤ b.town)
  | [], _ => by simp [dues]
  | t :: l, h => by
    rw [List.pairwise_cons] at h
    simp only [dues, List.pairwise_append]
    refine ⟨?_, dues_sorted w hour es hw l h.2, fun a ha b hb => ?_⟩
    · split
      · rename_i o _
        rw [List.pairwise_iff_getElem]
        intro i j hi hj hij
        have h1 := (callsOf_mem t o _ _ (List.getElem_mem hi)).1
        have h2 := (callsOf_mem t o _ _ (List.getElem_mem hj)).1
        omega
      · simp
    · have hb1 := h.1 _ (dues_mem w hour es hw l b hb).1
      split at ha
      · have := (callsOf_mem _ _ _ a ha).1; omega
      · simp at ha
end Go.Proofs.Ytdnhlbbbcallpaa
/- WardenAcks: plain facts, the course of acknowledging. -/
set_option autoImplicit false
set_option linter.unusedVariables false
namespace Go.Proofs.Ytdnhlbbbcallpaa
open Go.Ex Go.Proofs
theorem awaits_open {w : Int} {es : List (Int × WO)} {c : CL} (h : isOpen es c.town = false) : awaits w es c = false := by
  unfold isOpen at h; unfold awaits
  cases hf : wfind c.town es with
  | none => rfl
  | some o => rw [hf] at h; simp at h; simp [h]
theorem ackl_find (w : Int) (t : Int) : ∀ (l : List CL) (es : List (Int × WO)), (∀ c ∈ l, c.town ≠ t) → wfind t (ackl w es l) = wfind t es
  | [], es, h => rfl
  | c :: l, es, h => by
    have : ackl w es (c :: l) = ackl w (ack1 w es c) l := rfl
    rw [this, ackl_find w t l _ (fun c hc => h c (List.mem_cons_of_mem _ hc)), wfind_ack1 w es c t (fun e => h c (List.mem_cons_self) e.symm)]
theorem ackl_closed (w : Int) (t : Int) : ∀ (l : List CL) (es : List (Int × WO)), isOpen es t = false → isOpen (ackl w es l) t = false
  | [], es, h => h
  | c :: l, es, h => ackl_closed w t l _ (by rw [isOpen_ack1, h]; rfl)
def good (w : Int) (es : List (Int × WO)) (c : CL) : Prop := ∃ o, wfind c.town es = some o ∧ c.number = o.number ∧ 0 ≤ c.warden ∧ c.warden < w
theorem good_awaits {w : Int} {es : List (Int × WO)} {c : CL} (h : good w es c) : awaits w es c = isOpen es c.town := by
  obtain ⟨o, h1, h2, h3, h4⟩ := h
  simp [awaits, isOpen, h1, h2, h3, h4]
theorem ackl_done (w : Int) (t : Int) : ∀ (l : List CL) (es : List (Int × WO)), (∀ c ∈ l, good w es c) → (∃ c ∈ l, c.town = t) → isOpen (ackl w es l) t = false
  | [], es, h, ⟨c, hc, _⟩ => by simp at hc
  | c :: l, es, h, hex => by
    have e : ackl w es (c :: l) = ackl w (ack1 w es c) l := rfl
    rw [e]
    by_cases hc : c.town = t
    · apply ackl_closed
      rw [isOpen_ack1, good_awaits (h c (List.mem_cons_self)), hc]
      cases isOpen es t <;> simp
    · by_cases hex2 : ∃ d ∈ l, d.town = t
      · -- the calls of t in l are as good as before
        exact ackl_done' w t l _ (fun d hd hdt => by
          obtain ⟨o, g1, g2⟩ := h d (List.mem_cons_of_mem _ hd)
          exact ⟨o, by rw [wfind_ack1 w es c d.town (by rw [hdt]; exact fun e => hc e.symm)]; exact g1, g2⟩) hex2
      · obtain ⟨d, hd, hdt⟩ := hex
        rcases List.mem_cons.1 hd with rfl | hd
        · exact absurd hdt hc
        · exact absurd ⟨d, hd, hdt⟩ hex2
where ackl_done' (w : Int) (t : Int) : ∀ (l : List CL) (es : List (Int × WO)), (∀ c ∈ l, c.town = t → good w es c) → (∃ c ∈ l, c.town = t) → isOpen (ackl w es l) t = false
  | [], es, h, ⟨c, hc, _⟩ => by simp at hc
  | c :: l, es, h, hex => by
    have e : ackl w es (c :: l) = ackl w (ack1 w es c) l := rfl
    rw [e]
    by_cases hc : c.town = t
    · apply ackl_closed
      rw [isOpen_ack1, good_awaits (h c (List.mem_cons_self) hc), hc]
      cases isOpen es t <;> simp
    · obtain ⟨d, hd, hdt⟩ := hex
      rcases List.mem_cons.1 hd with rfl | hd
      · exact absurd hdt hc
      · exact ackl_done' w t l _ (fun d hd hdt => by
          obtain ⟨o, g1, g2⟩ := h d (List.mem_cons_of_mem _ hd) hdt
          exact ⟨o, by rw [wfind_ack1 w es c d.town (by rw [hdt]; exact fun e => hc e.symm)]; exact g1, g2⟩) ⟨d, hd, hdt⟩
theorem dues_nil (w hour : Int) (es : List (Int × WO)) : ∀ l : List Int, (∀ t ∈ l, ∀ o, wfind t es = some o → many w hour o = 0) → dues w hour es l = []
  | [], _ => rfl
  | t :: l, h => by
    have ih := dues_nil w hour es l (fun t ht => h t (List.mem_cons_of_mem _ ht))
    simp only [dues, ih, List.append_nil]
    cases hf : wfind t es with
    | none => rfl
    | some o => simp only [h t (List.mem_cons_self) o hf]; rfl
theorem dues_has (w hour : Int) (es : List (Int × WO)) (t : Int) (o : WO) (hf : wfind t es = some o) (hm : many w hour o ≠ 0) : ∀ l : List Int, t ∈ l → ∃ c ∈ dues w hour es l, c.town = t
  | [], h => by simp at h
  | u :: l, h => by
    rcases List.mem_cons.1 h with rfl | h
    · obtain ⟨n, hn⟩ : ∃ n, many w hour o = n + 1 := ⟨many w hour o - 1, by omega⟩
      exact ⟨⟨t, o.level, o.number, n⟩, by simp only [dues, hf, hn, callsOf, List.mem_append, List.mem_singleton]; exact Or.inl (Or.inr trivial), rfl⟩
    · obtain ⟨c, hc, hct⟩ := dues_has w hour es t o hf hm l h
      exact ⟨c, by simp only [dues, List.mem_append]; exact Or.inr hc, hct⟩
theorem mem_opens (es : List (Int × WO)) (t : Int) (h : isOpen es t = true) (h0 : 0 ≤ t) : ∀ k : Nat, t < k → t ∈ opens es k
  | 0, hk => by omega
  | k + 1, hk => by
    simp only [opens, List.mem_append]
    by_cases e : t = k
    · right; rw [← e, h]; simp
    · left; exact mem_opens es t h h0 k (by omega)
theorem dues_after (w hour : Int) (es : List (Int × WO)) (hw : 1 ≤ w) : dues w hour (ackl w es (dues w hour es (opens es 40))) (opens (ackl w es (dues w hour es (opens es 40))) 40) = [] := by
  apply dues_nil
  intro t ht o hf
  have hop := opens_mem _ _ t ht
  have hr := opens_ge _ _ t ht
  have hgood : ∀ c ∈ dues w hour es (opens es 40), good w es c := fun c hc => (dues_mem w hour es hw _ c hc).2
  by_cases hex : ∃ c ∈ dues w hour es (opens es 40), c.town = t
  · rw [ackl_done w t _ es hgood hex] at hop; simp at hop
  · have hnot : ∀ c ∈ dues w hour es (opens es 40), c.town ≠ t := fun c hc e => hex ⟨c, hc, e⟩
    rw [ackl_find w t _ es hnot] at hf
    have hop2 : isOpen es t = true := by
      cases ho : isOpen es t with
      | true => rfl
      | false => rw [ackl_closed w t _ es ho] at hop; simp at hop
    by_cases hm : many w hour o = 0
    · exact hm
    · exact absurd (dues_has w hour es t o hf hm _ (mem_opens es t hop2 hr.1 40 hr.2)) hex
end Go.Proofs.Ytdnhlbbbcallpaa
