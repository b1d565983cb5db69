/- Plain facts about alarms. -/
import Derived.Test.YtdnhlbbbcallpaaAlarm
set_option linter.unnecessarySimpa false
set_option linter.unusedVariables false
set_option linter.unusedSimpArgs false
set_option linter.unusedSectionVars false
set_option linter.deprecated false
/- The law AlarmOrders: plain facts about the alarms, the walk. -/
set_option autoImplicit false
set_option linter.unusedVariables false
namespace Go.Proofs.Ytdnhlbbbcallpaa
open Go.Ex Go.Proofs
set_option maxHeartbeats 4000000
set_option maxRecDepth 100000

theorem demand_range (t : Town) (s : Sight) : 0 ≤ demand t s ∧ demand t s ≤ 3 := by
  unfold demand; repeat' split
  all_goals omega
theorem next_ge (t : Town) (a : Alarm) (s : Sight) : demand t s ≤ (next t a s).level := by
  unfold next; repeat' split
  all_goals simp only; omega
/-- the alarm ahead of sight k -/
def at' (t : Town) (ss : List Sight) (k : Nat) : Alarm := lastA t ⟨0, 0, 0⟩ (ss.take k)
theorem at_zero (t : Town) (ss : List Sight) : at' t ss 0 = ⟨0, 0, 0⟩ := by simp [at', lastA]
theorem at_succ (t : Town) (ss : List Sight) (k : Nat) (h : k < ss.length) : at' t ss (k + 1) = next t (at' t ss k) ss[k] := lastA_take t ss _ k h
theorem runs_get (t : Town) : ∀ (ss : List Sight) (a : Alarm) (k : Nat) (h : k < ss.length) (h' : k < (runs t a ss).length), (runs t a ss)[k] = lastA t a (ss.take (k + 1))
  | [], a, k, h, _ => by simp at h
  | s :: ss, a, 0, h, _ => by simp [runs, lastA]
  | s :: ss, a, k + 1, h, h' => by
    simp only [runs, List.getElem_cons_succ, List.take_succ_cons, lastA]
    exact runs_get t ss _ k (by simpa using h) _
theorem run_at (t : Town) (ss : List Sight) (k : Nat) (h : k < ss.length) (h' : k < (runs t ⟨0, 0, 0⟩ ss).length) : (runs t ⟨0, 0, 0⟩ ss)[k] = at' t ss (k + 1) := runs_get t ss _ k h h'

theorem at_range (t : Town) (ss : List Sight) : ∀ k, k ≤ ss.length → 0 ≤ (at' t ss k).level ∧ (at' t ss k).level ≤ 3 ∧ 0 ≤ (at' t ss k).calm ∧ (at' t ss k).calm ≤ 2 ∧ 0 ≤ (at' t ss k).thn ∧ (at' t ss k).thn ≤ 3
  | 0, _ => by rw [at_zero]; decide
  | k + 1, h => by
    have ih := at_range t ss k (by omega)
    have hd := demand_range t ss[k]
    rw [at_succ t ss k (by omega)]
    unfold next
    repeat' split
    all_goals (try simp only)
    all_goals (try rw [wrap64 (by omega) (by omega)])
    all_goals omega

/-- one round back: an hour of calm had no crest, or the level was not the highest -/
theorem calm_back {t : Town} {a : Alarm} {s : Sight} (h0 : 0 ≤ a.calm) (h2 : a.calm ≤ 2) (h : 1 ≤ (next t a s).calm) : (next t a s).level = a.level ∧ (next t a s).calm = a.calm + 1 ∧ (3 ≤ a.level → s.crest < 0) := by
  unfold next at h ⊢
  by_cases c1 : a.level ≤ demand t s
  · rw [if_pos c1] at h; simp at h
  · rw [if_neg c1] at h ⊢
    by_cases c2 : 3 ≤ a.level ∧ 0 ≤ s.crest
    · rw [if_pos c2] at h; simp at h
    · rw [if_neg c2] at h ⊢
      by_cases c3 : 2 ≤ a.calm
      · rw [if_pos c3] at h; simp at h
      · rw [if_neg c3] at h ⊢
        refine ⟨rfl, wrap64 (by omega) (by omega), fun h3 => ?_⟩
        by_cases hc : 0 ≤ s.crest
        · exact (c2 ⟨h3, hc⟩).elim
        · omega

theorem order_ends {t : Town} {a : Alarm} {s : Sight} (h3 : a.level = 3) (hc : a.calm ≤ 2) (h : (next t a s).level ≠ 3) : s.crest < 0 ∧ 2 ≤ a.calm := by
  have hd := demand_range t s
  unfold next at h
  by_cases c1 : a.level ≤ demand t s
  · rw [if_pos c1] at h; simp only at h; omega
  · rw [if_neg c1] at h
    by_cases c2 : 3 ≤ a.level ∧ 0 ≤ s.crest
    · rw [if_pos c2] at h; exact (h h3).elim
    · rw [if_neg c2] at h
      by_cases c3 : 2 ≤ a.calm
      · exact ⟨by by_cases hx : 0 ≤ s.crest; exact (c2 ⟨by omega, hx⟩).elim; omega, c3⟩
      · rw [if_neg c3] at h; exact (h h3).elim

/-- an order ends only behind three hours without a crest -/
theorem ends (t : Town) (ss : List Sight) (k : Nat) (hk : k < ss.length) (h1 : (at' t ss k).level = 3) (h2 : (at' t ss (k + 1)).level ≠ 3) : ∃ j, k = j + 3 ∧ (∀ h, (ss[k]'h).crest < 0) ∧ (∀ h, (ss[j + 2]'h).crest < 0) ∧ (∀ h, (ss[j + 1]'h).crest < 0) := by
  have hr := fun k h => at_range t ss k h
  rw [at_succ t ss k hk] at h2
  obtain ⟨e1, e2⟩ := order_ends h1 (hr k (by omega)).2.2.2.1 h2
  cases k with
  | zero => rw [at_zero] at h1; simp at h1
  | succ k =>
    have r1 := hr k (by omega)
    rw [at_succ t ss k (by omega)] at h1 e2
    obtain ⟨b1, b2, b3⟩ := calm_back (t := t) (a := at' t ss k) (s := ss[k]) r1.2.2.1 r1.2.2.2.1 (by omega)
    cases k with
    | zero => rw [b1, at_zero] at h1; simp at h1
    | succ k =>
      have r2 := hr k (by omega)
      rw [b1] at h1
      have e3 : 1 ≤ (at' t ss (k + 1)).calm := by omega
      have g1 := b3 (by omega)
      rw [at_succ t ss k (by omega)] at h1 e3
      obtain ⟨d1, d2, d3⟩ := calm_back (t := t) (a := at' t ss k) (s := ss[k]) r2.2.2.1 r2.2.2.2.1 e3
      rw [d1] at h1
      have g2 := d3 (by omega)
      cases k with
      | zero => rw [at_zero] at h1; simp at h1
      | succ j => exact ⟨j, rfl, fun _ => e1, fun _ => g1, fun _ => g2⟩

theorem in_time (t : Town) (s : Sight) (a : Alarm) (ha : a.level ≤ 3) (h : 0 ≤ s.crest ∧ s.crest ≤ IntKind.i64.wrap (t.lead + 1)) : (next t a s).level = 3 := by
  have hd : demand t s = 3 := by unfold demand; rw [if_pos h]
  unfold next
  rw [hd, if_pos ha]
end Go.Proofs.Ytdnhlbbbcallpaa
