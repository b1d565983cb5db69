/- The wardens: plain facts about the calls for one town. -/
import Derived.Test.YtdnhlbbbcallpaaWRun
set_option linter.unnecessarySimpa false
set_option linter.unusedVariables false
set_option linter.unusedSimpArgs false
set_option linter.unusedSectionVars false
set_option linter.deprecated false
/- WardenClimbs: plain facts. -/
set_option autoImplicit false
set_option linter.unusedVariables false
namespace Go.Proofs.Ytdnhlbbbcallpaa
open Go.Ex Go.Proofs
theorem ack1_any (w m : Int) (es : List (Int × WO)) (c : CL) (vs ls tl) : callV E 22 [.hp 1 3 1 0 0, .ag (encCL c)] ⟨vs, ls, postH w m 0 es, tl⟩ = some (.b (awaits w es c), ⟨vs, ls, postH w m 0 (ack1 w es c), tl⟩) := by
  unfold ack1
  cases h : awaits w es c with
  | true => exact ack1_yes w m es c h vs ls tl
  | false => exact ack1_no w m es c h vs ls tl
theorem raise1_any (w m : Int) (es : List (Int × WO)) (town level hour : Int) (hm : 0 ≤ m ∧ m ≤ 1000000) (vs ls tl) :
    callV E 20 [.hp 1 3 1 0 0, .i .i64 town, .i .i64 level, .i .i64 hour] ⟨vs, ls, postH w m 0 es, tl⟩ = some (.i .i64 (if okRaise town level hour then m + 1 else 0), ⟨vs, ls, postH w (raiseP town level hour ⟨m, es⟩).m 0 (raiseP town level hour ⟨m, es⟩).es, tl⟩) := by
  unfold raiseP
  cases h : okRaise town level hour with
  | true => exact raise1 w m es town level hour h hm vs ls tl
  | false => exact raise_no 1 (postH w m 0 es) town level hour h vs ls tl
theorem filter_next {α : Type} (p : α → Bool) (l : List α) (k : Nat) (h : k < l.length) : ((l.take (k + 1)).filter p).length = ((l.take k).filter p).length + if p l[k] then 1 else 0 := by
  rw [List.take_succ_eq_append_getElem h, List.filter_append, List.length_append]
  congr 1
  simp only [List.filter_cons, List.filter_nil]
  split <;> rfl
theorem filter_at {α : Type} (p : α → Bool) (l : List α) (k : Nat) (h : k < l.length) (hp : p l[k] = true) : (l.filter p)[((l.take k).filter p).length]? = some l[k] := by
  have h1 : l.filter p = (l.take k).filter p ++ (l.drop k).filter p := by rw [← List.filter_append, List.take_append_drop]
  rw [h1, List.getElem?_append_right (Nat.le_refl _), Nat.sub_self, List.drop_eq_getElem_cons h, List.filter_cons, if_pos hp]
  rfl
theorem callsOf_filter (t u : Int) (o : WO) : ∀ n, (callsOf t o n).filter (fun c => c.town == u) = if t = u then callsOf t o n else []
  | 0 => by simp [callsOf]
  | n + 1 => by
    simp only [callsOf, List.filter_append, callsOf_filter t u o n]
    by_cases h : t = u
    · simp [h]
    · simp [h]
theorem dues_filter (w hour : Int) (es : List (Int × WO)) (t : Int) : ∀ l : List Int, l.Pairwise (· < ·) →
    (dues w hour es l).filter (fun c => c.town == t) = if t ∈ l then (match wfind t es with | some o => callsOf t o (many w hour o) | none => []) else []
  | [], _ => by simp [dues]
  | u :: l, h => by
    rw [List.pairwise_cons] at h
    have ih := dues_filter w hour es t l h.2
    simp only [dues, List.filter_append, ih]
    by_cases hu : t = u
    · subst hu
      have hn : t ∉ l := fun hm => by have := h.1 t hm; omega
      rw [if_neg hn, if_pos (List.mem_cons_self)]
      cases hf : wfind t es with
      | none => simp
      | some o => simp only [callsOf_filter, if_true, List.append_nil]
    · have hm : (t ∈ u :: l) = (t ∈ l) := by simp [hu]
      simp only [hm]
      cases hf : wfind u es with
      | none => simp
      | some o => simp only [callsOf_filter, if_neg (fun e : u = t => hu e.symm), List.nil_append]
/-- the calls for a town with a known order -/
theorem dues_town (w hour : Int) (es : List (Int × WO)) (t : Int) (o : WO) (ho : wfind t es = some o) (h0 : 0 ≤ t ∧ t < 40) :
    (dues w hour es (opens es 40)).filter (fun c => c.town == t) = if o.done then [] else callsOf t o (many w hour o) := by
  rw [dues_filter w hour es t _ (opens_sorted es 40), ho]
  cases hd : o.done with
  | true =>
    have : t ∉ opens es 40 := fun hm => by have := opens_mem es 40 t hm; simp [isOpen, ho, hd] at this
    rw [if_neg this]; rfl
  | false =>
    have : t ∈ opens es 40 := mem_opens es t (by simp [isOpen, ho, hd]) h0.1 40 (by omega)
    rw [if_pos this]; rfl
theorem callsOf_getE (t : Int) (o : WO) : ∀ (n k : Nat) (h : k < (callsOf t o n).length), (callsOf t o n)[k] = ⟨t, o.level, o.number, k⟩
  | 0, k, h => by simp [callsOf] at h
  | n + 1, k, h => by
    simp only [callsOf]
    by_cases hk : k < n
    · rw [List.getElem_append_left (by rw [callsOf_len]; exact hk)]
      exact callsOf_getE t o n k _
    · have : k = n := by simp [callsOf, callsOf_len] at h; omega
      subst this
      rw [List.getElem_append_right (by rw [callsOf_len]; omega)]
      simp [callsOf_len]
theorem callsOf_get? (t : Int) (o : WO) (n k : Nat) (c : CL) (h : (callsOf t o n)[k]? = some c) : c = ⟨t, o.level, o.number, k⟩ := by
  obtain ⟨h1, h2⟩ := List.getElem?_eq_some_iff.1 h
  rw [← h2]; exact callsOf_getE t o n k h1
theorem wset_wset (t : Int) (o u : WO) : ∀ es : List (Int × WO), wset t u (wset t o es) = wset t u es
  | [] => by simp [wset]
  | (k, x) :: r => by
    have ih := wset_wset t o u r
    simp only [wset]
    by_cases h : t = k
    · simp [h, wset]
    · simp [h, wset, ih]
theorem climb_want (w t hour : Int) (o : WO) (ho : o.hour = hour) (hw : 1 ≤ w ∧ w ≤ 16) (h1 : hour ≤ t) (h2 : t ≤ hour + 60) (h3 : 0 ≤ hour ∧ hour ≤ 16777216) :
    (if IntKind.i64.wrap (1 + IntKind.i64.wrap ((IntKind.i64.wrap (t - hour)).tdiv 3)) < w then IntKind.i64.wrap (1 + IntKind.i64.wrap ((IntKind.i64.wrap (t - hour)).tdiv 3)) else w) = (many w t o : Int) := by
  have e1 : IntKind.i64.wrap (t - hour) = t - hour := wrap64 (by omega) (by omega)
  have e2 : (t - hour).tdiv 3 = (t - hour) / 3 := Int.tdiv_eq_ediv_of_nonneg (by omega)
  have e3 : IntKind.i64.wrap ((t - hour) / 3) = (t - hour) / 3 := wrap64 (by omega) (by omega)
  have e4 : IntKind.i64.wrap (1 + (t - hour) / 3) = 1 + (t - hour) / 3 := wrap64 (by omega) (by omega)
  have hm : (many w t o : Int) = min w ((t - hour) / 3 + 1) := by
    unfold many
    rw [ho, if_pos (by omega), e1, e2, e3]
    omega
  rw [e1, e2, e3, e4, hm]
  split <;> omega
theorem many_early (w t : Int) (o : WO) (h : ¬ o.hour ≤ t) : many w t o = 0 := by unfold many; rw [if_neg h]
end Go.Proofs.Ytdnhlbbbcallpaa
