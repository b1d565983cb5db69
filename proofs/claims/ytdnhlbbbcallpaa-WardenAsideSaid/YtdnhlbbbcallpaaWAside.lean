/- For all numbers of wardens, lists of calls, towns and hours the law WardenAside returns true and leaves its arguments as they were; no condition. -/
import Derived.Test.YtdnhlbbbcallpaaPosts3
import Derived.Test.YtdnhlbbbcallpaaWRead
set_option linter.unnecessarySimpa false
set_option linter.unusedVariables false
set_option linter.unusedSimpArgs false
set_option linter.unusedSectionVars false
set_option linter.deprecated false
/- WardenAside: two posts; plain facts. -/
set_option autoImplicit false
set_option linter.unusedVariables false
namespace Go.Proofs.Ytdnhlbbbcallpaa
open Go.Ex Go.Proofs
set_option maxHeartbeats 4000000
set_option maxRecDepth 100000
/-- two posts and two lists -/
def twoH (w : Int) (p q : PS) (fs ss : List Int) : List OB := [.map (p.es.map encE) 0, .arr 3 [[.i .i64 w, .i .i64 p.m, .mp 0]] false 2, .map (q.es.map encE) 0, .arr 3 [[.i .i64 w, .i .i64 q.m, .mp 2]] false 2, .arr 1 (fs.map enc1) true 0, .arr 1 (ss.map enc1) true 0]
theorem raiseA (w : Int) (p q : PS) (fs ss : List Int) (town level hour : Int) (hm : 0 ≤ p.m ∧ p.m ≤ 1000000) (vs ls tl) :
    callV E 20 [.hp 1 3 1 0 0, .i .i64 town, .i .i64 level, .i .i64 hour] ⟨vs, ls, twoH w p q fs ss, tl⟩ = some (.i .i64 (if okRaise town level hour then p.m + 1 else 0), ⟨vs, ls, twoH w (raiseP town level hour p) q fs ss, tl⟩) := by
  unfold raiseP
  cases h : okRaise town level hour with
  | true => exact raise_yes 1 0 w p.m p.es _ town level hour rfl rfl (by decide) h hm vs ls tl
  | false => exact raise_no 1 _ town level hour h vs ls tl
theorem raiseB (w : Int) (p q : PS) (fs ss : List Int) (town level hour : Int) (hm : 0 ≤ q.m ∧ q.m ≤ 1000000) (vs ls tl) :
    callV E 20 [.hp 3 3 1 0 0, .i .i64 town, .i .i64 level, .i .i64 hour] ⟨vs, ls, twoH w p q fs ss, tl⟩ = some (.i .i64 (if okRaise town level hour then q.m + 1 else 0), ⟨vs, ls, twoH w p (raiseP town level hour q) fs ss, tl⟩) := by
  unfold raiseP
  cases h : okRaise town level hour with
  | true => exact raise_yes 3 2 w q.m q.es _ town level hour rfl rfl (by decide) h hm vs ls tl
  | false => exact raise_no 3 _ town level hour h vs ls tl
theorem ackA (w : Int) (p q : PS) (fs ss : List Int) (c : CL) (vs ls tl) :
    callV E 22 [.hp 1 3 1 0 0, .ag (encCL c)] ⟨vs, ls, twoH w p q fs ss, tl⟩ = some (.b (awaits w p.es c), ⟨vs, ls, twoH w (ackP w c p) q fs ss, tl⟩) := by
  unfold ackP
  cases h : awaits w p.es c with
  | true => exact ack_yes 1 0 w p.m p.es c vs ls tl _ rfl rfl h
  | false => exact ack_no 1 0 w p.m p.es c vs ls tl _ rfl rfl h
theorem ackB (w : Int) (p q : PS) (fs ss : List Int) (c : CL) (vs ls tl) :
    callV E 22 [.hp 3 3 1 0 0, .ag (encCL c)] ⟨vs, ls, twoH w p q fs ss, tl⟩ = some (.b (awaits w q.es c), ⟨vs, ls, twoH w p (ackP w c q) fs ss, tl⟩) := by
  unfold ackP
  cases h : awaits w q.es c with
  | true => exact ack_yes 3 2 w q.m q.es c vs ls tl _ rfl rfl h
  | false => exact ack_no 3 2 w q.m q.es c vs ls tl _ rfl rfl h
theorem dueA (w : Int) (p q : PS) (fs ss : List Int) (hour : Int) (hw : w ≤ 16) (vs ls tl) : callV E 27 [.hp 1 3 1 0 0, .i .i64 hour] ⟨vs, ls, twoH w p q fs ss, tl⟩ = some (.sl 4 ((dues w hour p.es (opens p.es 40)).map encCL) false, ⟨vs, ls, twoH w p q fs ss, tl⟩) :=
  due_run 1 0 w p.m hour p.es _ hw (post_ro rfl rfl)
theorem dueB (w : Int) (p q : PS) (fs ss : List Int) (hour : Int) (hw : w ≤ 16) (vs ls tl) : callV E 27 [.hp 3 3 1 0 0, .i .i64 hour] ⟨vs, ls, twoH w p q fs ss, tl⟩ = some (.sl 4 ((dues w hour q.es (opens q.es 40)).map encCL) false, ⟨vs, ls, twoH w p q fs ss, tl⟩) :=
  due_run 3 2 w q.m hour q.es _ hw (post_ro rfl rfl)
/-- the number that stands for x -/
def lkup (x : Int) (l : List (Int × Int)) : Int := l.foldl (fun a e => if e.1 = x then e.2 else a) (-1)
theorem lkup_next (x : Int) (l : List (Int × Int)) (k : Nat) (h : k < l.length) : lkup x (l.take (k + 1)) = if l[k].1 = x then l[k].2 else lkup x (l.take k) := by
  unfold lkup; rw [List.take_succ_eq_append_getElem h, List.foldl_append]; rfl
theorem lkup_in (x : Int) (l : List (Int × Int)) : lkup x l = -1 ∨ ∃ e ∈ l, lkup x l = e.2 := by
  unfold lkup
  generalize hb : (-1 : Int) = b
  have : ∀ (l : List (Int × Int)) (b : Int), l.foldl (fun a e => if e.1 = x then e.2 else a) b = b ∨ ∃ e ∈ l, l.foldl (fun a e => if e.1 = x then e.2 else a) b = e.2 := by
    intro l
    induction l with
    | nil => intro b; exact Or.inl rfl
    | cons e l ih =>
      intro b
      simp only [List.foldl_cons]
      rcases ih (if e.1 = x then e.2 else b) with h | ⟨d, hd, h⟩
      · rw [h]; split
        · exact Or.inr ⟨e, List.mem_cons_self, rfl⟩
        · exact Or.inl rfl
      · exact Or.inr ⟨d, List.mem_cons_of_mem _ hd, h⟩
  exact this l b
structure Rel (town : Int) (p q : PS) (fs ss : List Int) : Prop where
  len : q.m = fs.length ∧ ss.length = fs.length
  fin : ∀ x ∈ fs, 1 ≤ x ∧ x ≤ p.m
  sin : ss.Pairwise (· < ·) ∧ ∀ x ∈ ss, 1 ≤ x ∧ x ≤ q.m
  only : ∀ t, t ≠ town → wfind t q.es = none
  cur : (wfind town p.es = none ∧ wfind town q.es = none) ∨ ∃ a b f s, wfind town p.es = some a ∧ wfind town q.es = some b ∧ fs = f ++ [a.number] ∧ ss = s ++ [b.number] ∧ a.level = b.level ∧ a.hour = b.hour ∧ a.done = b.done ∧ 0 ≤ town ∧ town < 40
theorem rel_nil (town : Int) : Rel town ⟨0, []⟩ ⟨0, []⟩ [] [] := ⟨by simp, by simp, by simp, fun t _ => rfl, Or.inl ⟨rfl, rfl⟩⟩
theorem rel_other {town t level hour : Int} {p q : PS} {fs ss : List Int} (h : Rel town p q fs ss) (ht : t ≠ town) : Rel town (raiseP t level hour p) q fs ss := by
  obtain ⟨h1, h2, h3, h4, h5⟩ := h
  have hm := raise_m t level hour p
  refine ⟨h1, fun x hx => ?_, h3, h4, ?_⟩
  · have := h2 x hx; omega
  · have : wfind town (raiseP t level hour p).es = wfind town p.es := by
      unfold raiseP; split
      · simp only [wfind_wset, if_neg (fun e : town = t => ht e.symm)]
      · rfl
    rw [this]; exact h5
theorem rel_own {town level hour : Int} {p q : PS} {fs ss : List Int} (h : Rel town p q fs ss) (hm0 : 0 ≤ p.m) (hok : okRaise town level hour = true) : Rel town (raiseP town level hour p) (raiseP town level hour q) (fs ++ [p.m + 1]) (ss ++ [q.m + 1]) := by
  obtain ⟨h1, h2, h3, h4, h5⟩ := h
  have ep : raiseP town level hour p = ⟨p.m + 1, wset town ⟨level, p.m + 1, hour, false⟩ p.es⟩ := by rw [raiseP, if_pos hok]
  have eq : raiseP town level hour q = ⟨q.m + 1, wset town ⟨level, q.m + 1, hour, false⟩ q.es⟩ := by rw [raiseP, if_pos hok]
  rw [ep, eq]
  have hb : 0 ≤ town ∧ town < 40 := by
    unfold okRaise at hok; simp only [Bool.and_eq_true, decide_eq_true_eq] at hok; omega
  refine ⟨by simp; omega, ?_, ⟨?_, ?_⟩, ?_, Or.inr ⟨⟨level, p.m + 1, hour, false⟩, ⟨level, q.m + 1, hour, false⟩, fs, ss, ?_, ?_, rfl, rfl, rfl, rfl, rfl, hb.1, hb.2⟩⟩
  · intro x hx
    rcases List.mem_append.1 hx with hx | hx
    · have := h2 x hx; simp only; omega
    · simp at hx; simp only; omega
  · rw [List.pairwise_append]
    refine ⟨h3.1, by simp, fun a ha b hb => ?_⟩
    have := h3.2 a ha; simp at hb; omega
  · intro x hx
    rcases List.mem_append.1 hx with hx | hx
    · have := h3.2 x hx; simp only; omega
    · simp at hx; simp only; omega
  · intro t ht; simp only [wfind_wset, if_neg ht]; exact h4 t ht
  · simp only [wfind_wset, if_true]
  · simp only [wfind_wset, if_true]
theorem rel_ack_other {town w : Int} {c : CL} {p q : PS} {fs ss : List Int} (h : Rel town p q fs ss) (ht : c.town ≠ town) : Rel town (ackP w c p) q fs ss := by
  obtain ⟨h1, h2, h3, h4, h5⟩ := h
  have hm : (ackP w c p).m = p.m := by unfold ackP; split <;> rfl
  have he : wfind town (ackP w c p).es = wfind town p.es := by
    unfold ackP; split
    · simp only [ackd]; split
      · simp only [wfind_wset, if_neg (fun e : town = c.town => ht e.symm)]
      · rfl
    · rfl
  exact ⟨h1, by rw [hm]; exact h2, h3, h4, by rw [he]; exact h5⟩
theorem ack_find (w : Int) (c : CL) (p : PS) (a : WO) (h : wfind c.town p.es = some a) : wfind c.town (ackP w c p).es = some { a with done := a.done || awaits w p.es c } := by
  unfold ackP
  cases ha : awaits w p.es c with
  | true => simp only [if_true, ackd, h, wfind_wset, Bool.or_true]
  | false => simp only [Bool.false_eq_true, if_false, h, Bool.or_false]
theorem ack_find_none (w : Int) (c : CL) (p : PS) (t : Int) (h : wfind t p.es = none) (ht : t = c.town ∨ t ≠ c.town) : wfind t (ackP w c p).es = none := by
  unfold ackP
  split
  · rename_i ha
    simp only [ackd]
    by_cases e : t = c.town
    · rw [← e, h]; exact h
    · split
      · simp only [wfind_wset, if_neg e]; exact h
      · exact h
  · exact h
theorem ack_m (w : Int) (c : CL) (p : PS) : (ackP w c p).m = p.m := by unfold ackP; split <;> rfl
theorem rel_ack {w : Int} {c : CL} {p q : PS} {fs ss : List Int} (h : Rel c.town p q fs ss) :
    awaits w q.es { c with number := lkup c.number (fs.zip ss) } = awaits w p.es c ∧ Rel c.town (ackP w c p) (ackP w { c with number := lkup c.number (fs.zip ss) } q) fs ss := by
  obtain ⟨h1, h2, h3, h4, h5⟩ := h
  have key : awaits w q.es { c with number := lkup c.number (fs.zip ss) } = awaits w p.es c := by
    rcases h5 with ⟨g1, g2⟩ | ⟨a, b, f, s, g1, g2, g3, g4, g5, g6, g7, g8, g9⟩
    · simp only [awaits, g1, g2]
    · simp only [awaits, g1, g2, g7]
      congr 2
      congr 1
      have hls : f.length = s.length := by have := h1.2; rw [g3, g4] at this; simp at this; omega
      rw [g3, g4, List.zip_append hls]
      have hl : lkup c.number (f.zip s ++ [a.number].zip [b.number]) = if a.number = c.number then b.number else lkup c.number (f.zip s) := by
        unfold lkup; rw [List.foldl_append]; rfl
      rw [hl]
      by_cases e : a.number = c.number
      · rw [if_pos e, e]; simp
      · rw [if_neg e]
        have hne : b.number ≠ lkup c.number (f.zip s) := by
          have hb := h3.2 b.number (by rw [g4]; simp)
          rcases lkup_in c.number (f.zip s) with hh | ⟨d, hd, hh⟩
          · omega
          · have hds : d.2 ∈ s := (List.of_mem_zip (show (d.1, d.2) ∈ f.zip s from hd)).2
            have hp := h3.1
            rw [g4, List.pairwise_append] at hp
            have := hp.2.2 d.2 hds b.number (by simp)
            omega
        rw [Bool.eq_iff_iff]; simp only [beq_iff_eq]
        exact ⟨fun h => absurd h hne, fun h => absurd h e⟩
  refine ⟨key, ?_⟩
  refine ⟨by rw [ack_m]; exact h1, by rw [ack_m]; exact h2, by rw [ack_m]; exact h3, fun t ht => ack_find_none w _ q t (h4 t ht) (Or.inr ht), ?_⟩
  rcases h5 with ⟨g1, g2⟩ | ⟨a, b, f, s, g1, g2, g3, g4, g5, g6, g7, g8, g9⟩
  · exact Or.inl ⟨ack_find_none w c p _ g1 (Or.inl rfl), ack_find_none w { c with number := lkup c.number (fs.zip ss) } q _ g2 (Or.inl rfl)⟩
  · refine Or.inr ⟨_, _, f, s, ack_find w c p a g1, ack_find w { c with number := lkup c.number (fs.zip ss) } q b g2, g3, g4, g5, g6, ?_, g8, g9⟩
    simp only [key, g7]
/-- what is due at the end -/
theorem rel_due {town w : Int} {p q : PS} {fs ss : List Int} (h : Rel town p q fs ss) (hour : Int) : ∃ n lv na nb, (dues w hour p.es (opens p.es 40)).filter (fun c => c.town == town) = callsOf town ⟨lv, na, 0, false⟩ n ∧ dues w hour q.es (opens q.es 40) = callsOf town ⟨lv, nb, 0, false⟩ n := by
  obtain ⟨h1, h2, h3, h4, h5⟩ := h
  have hc : ∀ (t : Int) (o u : WO) (n : Nat), o.level = u.level → o.number = u.number → callsOf t o n = callsOf t u n := by
    intro t o u n e1 e2
    induction n with
    | zero => rfl
    | succ n ih => simp only [callsOf, ih, e1, e2]
  have hq : dues w hour q.es (opens q.es 40) = (dues w hour q.es (opens q.es 40)).filter (fun c => c.town == town) := by
    symm; rw [List.filter_eq_self]
    intro c hc
    have : ∀ l : List Int, c ∈ dues w hour q.es l → c.town = town := by
      intro l
      induction l with
      | nil => intro h; simp [dues] at h
      | cons t l ih =>
        intro h
        simp only [dues, List.mem_append] at h
        rcases h with h | h
        · by_cases e : t = town
          · subst e
            cases hf : wfind t q.es with
            | none => rw [hf] at h; simp at h
            | some o => rw [hf] at h; exact (callsOf_mem _ _ _ _ h).1
          · rw [h4 t e] at h; simp at h
        · exact ih h
    simp [this _ hc]
  rcases h5 with ⟨g1, g2⟩ | ⟨a, b, f, s, g1, g2, g3, g4, g5, g6, g7, g8, g9⟩
  · refine ⟨0, 0, 0, 0, ?_, ?_⟩
    · rw [dues_filter w hour p.es town _ (opens_sorted p.es 40), g1]; simp [callsOf]
    · rw [hq, dues_filter w hour q.es town _ (opens_sorted q.es 40), g2]; simp [callsOf]
  · have hmn : many w hour a = many w hour b := by unfold many; rw [g6]
    cases hd : a.done with
    | true =>
      refine ⟨0, 0, 0, 0, ?_, ?_⟩
      · rw [dues_town w hour p.es town a g1 ⟨g8, g9⟩, hd]; rfl
      · rw [hq, dues_town w hour q.es town b g2 ⟨g8, g9⟩, ← g7, hd]; rfl
    | false =>
      refine ⟨many w hour a, a.level, a.number, b.number, ?_, ?_⟩
      · rw [dues_town w hour p.es town a g1 ⟨g8, g9⟩, hd]; exact hc _ _ _ _ rfl rfl
      · rw [hq, dues_town w hour q.es town b g2 ⟨g8, g9⟩, ← g7, hd, hmn]; exact hc _ _ _ _ g5.symm rfl
end Go.Proofs.Ytdnhlbbbcallpaa
/- WardenAside: the walk. -/
set_option autoImplicit false
set_option linter.unusedVariables false
namespace Go.Proofs.Ytdnhlbbbcallpaa
open Go.Ex Go.Proofs
set_option maxHeartbeats 4000000
set_option maxRecDepth 100000
/-- a step: both posts and both lists -/
structure AS where (p q : PS) (fs ss : List Int)
def stepA (w town : Int) (s : AS) (x : WS) : AS :=
  if actOf x == 0 then
    if x.town == town && okRaise x.town x.level x.hour then ⟨raiseP x.town x.level x.hour s.p, raiseP x.town x.level x.hour s.q, s.fs ++ [s.p.m + 1], s.ss ++ [s.q.m + 1]⟩
    else ⟨raiseP x.town x.level x.hour s.p, s.q, s.fs, s.ss⟩
  else if actOf x == 1 then
    if x.call.town = town then ⟨ackP w x.call s.p, ackP w { x.call with number := lkup x.call.number (s.fs.zip s.ss) } s.q, s.fs, s.ss⟩
    else ⟨ackP w x.call s.p, s.q, s.fs, s.ss⟩
  else s
theorem stepA_rel (w town : Int) (s : AS) (x : WS) (h : Rel town s.p s.q s.fs s.ss) (hm : 0 ≤ s.p.m) : Rel town (stepA w town s x).p (stepA w town s x).q (stepA w town s x).fs (stepA w town s x).ss := by
  unfold stepA
  split
  · split
    · rename_i h1
      simp only [Bool.and_eq_true, beq_iff_eq] at h1
      obtain ⟨h1, h2⟩ := h1
      subst h1
      exact rel_own h hm h2
    · rename_i h1
      by_cases e : x.town = town
      · have hno : okRaise x.town x.level x.hour = false := by
          cases ho : okRaise x.town x.level x.hour with
          | false => rfl
          | true => exact absurd (by simp [e] at ho ⊢; exact ho) h1
        have : raiseP x.town x.level x.hour s.p = s.p := by rw [raiseP, hno]; rfl
        rw [this]; exact h
      · exact rel_other h e
  · split
    · split
      · rename_i h1; subst h1; exact (rel_ack h).2
      · rename_i h1; exact rel_ack_other h h1
    · exact h
theorem stepA_m (w town : Int) (s : AS) (x : WS) : s.p.m ≤ (stepA w town s x).p.m ∧ (stepA w town s x).p.m ≤ s.p.m + 1 ∧ s.fs.length ≤ (stepA w town s x).fs.length ∧ (stepA w town s x).fs.length ≤ s.fs.length + 1 := by
  have h1 := raise_m x.town x.level x.hour s.p
  unfold stepA
  split
  · split
    · simp; omega
    · simp; omega
  · split
    · split <;> simp [ack_m] <;> omega
    · omega
theorem foldA (w town : Int) : ∀ (l : List WS) (s : AS), Rel town s.p s.q s.fs s.ss → 0 ≤ s.p.m → Rel town (l.foldl (stepA w town) s).p (l.foldl (stepA w town) s).q (l.foldl (stepA w town) s).fs (l.foldl (stepA w town) s).ss ∧ 0 ≤ (l.foldl (stepA w town) s).p.m ∧ (l.foldl (stepA w town) s).p.m ≤ s.p.m + l.length ∧ (l.foldl (stepA w town) s).fs.length ≤ s.fs.length + l.length
  | [], s, h, hm => by simp; exact ⟨h, hm⟩
  | x :: l, s, h, hm => by
    have h1 := stepA_rel w town s x h hm
    have h2 := stepA_m w town s x
    have h3 := foldA w town l (stepA w town s x) h1 (by omega)
    simp only [List.foldl_cons, List.length_cons]
    refine ⟨h3.1, h3.2.1, ?_, ?_⟩ <;> omega
theorem new2 (w : Int) (h : 1 ≤ w ∧ w ≤ 16) (vs ls tl) : callV E 18 [.i .i64 w] ⟨vs, ls, postH w 0 0 [], tl⟩ = some (.hp 3 3 1 0 0, ⟨vs, ls, postH w 0 0 [] ++ postH w 0 2 [], tl⟩) := by
  rw [new_run, if_pos h]; rfl
theorem two4 (w : Int) (p q : PS) (fs ss : List Int) : (twoH w p q fs ss)[4]? = some (.arr 1 (fs.map enc1) true 0) := rfl
theorem two5 (w : Int) (p q : PS) (fs ss : List Int) : (twoH w p q fs ss)[5]? = some (.arr 1 (ss.map enc1) true 0) := rfl
theorem two4s (w : Int) (p q : PS) (fs ss : List Int) (n : Int) : (twoH w p q fs ss).set 4 (.arr 1 (fs.map enc1 ++ [[.i .i64 n]]) true 0) = twoH w p q (fs ++ [n]) ss := by simp [twoH, enc1]
theorem two5s (w : Int) (p q : PS) (fs ss : List Int) (n : Int) : (twoH w p q fs ss).set 5 (.arr 1 (ss.map enc1 ++ [[.i .i64 n]]) true 0) = twoH w p q fs (ss ++ [n]) := by simp [twoH, enc1]
theorem wardenAside_run (w : Int) (l : List WS) (town hour : Int) : FN E 9 [.i .i64 w, .sl 8 (l.map encWS) false, .i .i64 town, .i .i64 hour] [] fun r _ => r = .b true := by
  refine FN_enter E fn9 ?_
  have h0 := small44_run
  by_cases hw : 1 ≤ w ∧ w ≤ 16
  · have hnew := new1 w hw
    have hnew2 := new2 w hw
    by_cases hn : 40 < l.length
    · have e1 : decide ((l.length : Int) > 40) = true := by simp; omega
      simp only [c9, Option.getD, Try.f9]
      simp -implicitDefEqProofs (maxSteps := 1000000) only [go_sem, Nat.reduceAdd, Nat.reduceBEq, Nat.reduceMul, Nat.reduceLeDiff, Int.reduceEq, ti3, ti4, ti5, ti36, ti37, ti42, ti44, ti48, ti51, h0, hnew, hnew2, List.length_map, e1]
    · have e1 : decide ((l.length : Int) > 40) = false := by simp; omega
      simp only [c9, Option.getD, Try.f9]
      simp -implicitDefEqProofs (maxSteps := 1000000) only [go_sem, Nat.reduceAdd, Nat.reduceBEq, Nat.reduceMul, Nat.reduceLeDiff, Int.reduceEq, ti3, ti4, ti5, ti36, ti37, ti42, ti44, ti48, ti51, h0, hnew, hnew2, List.length_map, e1]
      have key := fun k => foldA w town (l.take k) ⟨⟨0, []⟩, ⟨0, []⟩, [], []⟩ (rel_nil town) (by simp)
      obtain ⟨A, hA⟩ : ∃ A : Nat → AS, A = fun k => (l.take k).foldl (stepA w town) ⟨⟨0, []⟩, ⟨0, []⟩, [], []⟩ := ⟨_, rfl⟩
      have hA0 : A 0 = ⟨⟨0, []⟩, ⟨0, []⟩, [], []⟩ := by rw [hA]; rfl
      have hAn : ∀ k (h : k < l.length), A (k + 1) = stepA w town (A k) l[k] := by
        intro k h; rw [hA]; simp only; rw [List.take_succ_eq_append_getElem h, List.foldl_append]; rfl
      have hrel : ∀ k, k ≤ l.length → Rel town (A k).p (A k).q (A k).fs (A k).ss ∧ 0 ≤ (A k).p.m ∧ (A k).p.m ≤ 40 ∧ (A k).fs.length ≤ 40 := by
        intro k hk
        have := key k
        rw [List.length_take, Nat.min_eq_left hk] at this
        rw [hA]; simp only
        simp only [Int.zero_add, List.length_nil, Nat.zero_add] at this
        exact ⟨this.1, this.2.1, by omega, by omega⟩
      clear key hA
      refine EX_for E l.length (fun k => [(12, .hs 4 1 0 (A k).fs.length (A k).fs.length), (13, .hs 5 1 0 (A k).ss.length (A k).ss.length), (14, .i .i64 k)]) (fun _ => []) (fun k => twoH w (A k).p (A k).q (A k).fs (A k).ss) (fun _ => True) trivial ?_ (fun k hk _ => ?_)
      · rw [hA0]; simp only [go_sem, Nat.reduceAdd, Nat.reduceBEq, Nat.reduceMul, Nat.reduceLeDiff] <;> rfl
      · obtain ⟨hr, hm1, hm2, hfl⟩ := hrel k hk
        by_cases hlt : k < l.length
        · have e2 : decide ((k : Int) < l.length) = true := by simp; omega
          have hw1 := wrap64_succ hlt (by omega)
          have hrow := row_map encWS l k hlt
          simp only [encWS, encCL, List.cons_append, List.nil_append] at hrow
          have hAk := hAn k hlt
          rw [hAk]
          generalize A k = s at hr hm1 hm2 hfl
          obtain ⟨p, q, fs, ss⟩ := s
          generalize hx : l[k] = x at hrow
          obtain ⟨ac, to, le, ho, ⟨ct, cl, cn, cw⟩⟩ := x
          simp only at hr hm1 hm2 hfl hrow
          have hqm : 0 ≤ q.m ∧ q.m ≤ 40 := by have := hr.len; omega
          have hsl := hr.len.2
          simp only
          cases h0 : (IntKind.i64.wrap ((BitVec.ofInt IntKind.i64.bits ac &&& BitVec.ofInt IntKind.i64.bits 3).toNat) == 0) with
          | true =>
            have h01 : (IntKind.i64.wrap ((BitVec.ofInt IntKind.i64.bits ac &&& BitVec.ofInt IntKind.i64.bits 3).toNat) == 1) = false := by
              simp only [beq_iff_eq] at h0; rw [h0]; rfl
            have hra := fun vs ls tl => raiseA w p q fs ss to le ho (by omega) vs ls tl
            have h0k := h0
            have h01k := h01
            simp -implicitDefEqProofs only [go_sem] at h0 h01
            cases hok : okRaise to le ho with
            | true =>
              have d1 : decide (p.m + 1 > 0) = true := by simp; omega
              rw [hok] at hra; simp only [if_true] at hra
              cases ht : (to == town) with
              | true =>
                have hst : stepA w town ⟨p, q, fs, ss⟩ ⟨ac, to, le, ho, ⟨ct, cl, cn, cw⟩⟩ = ⟨raiseP to le ho p, raiseP to le ho q, fs ++ [p.m + 1], ss ++ [q.m + 1]⟩ := by
                  simp only [stepA, actOf, h0k, ht, hok, Bool.and_self, if_true]
                rw [hst]
                have hrb := fun fs vs ls tl => raiseB w (raiseP to le ho p) q fs ss to le ho (by omega) vs ls tl
                rw [hok] at hrb; simp only [if_true] at hrb
                have f1 : decide ((fs.length + 1) * 8 ≤ 35184372088832) = true := by simp; omega
                have f2 : decide ((ss.length + 1) * 8 ≤ 35184372088832) = true := by simp; omega
                simp -implicitDefEqProofs (maxSteps := 1000000) only [go_sem, Nat.reduceAdd, Nat.reduceBEq, Nat.reduceMul, Nat.reduceLeDiff, Int.reduceEq, ti3, ti4, ti36, ti37, ti42, ti44, ti48, ti51, List.length_map, List.length_append, List.length_singleton, e2, hw1, hrow, h0, h01, hra, hrb, ht, d1, f1, f2, two4, two5, two4s, two5s]
                exact ⟨hlt, trivial, trivial⟩
              | false =>
                have hst : stepA w town ⟨p, q, fs, ss⟩ ⟨ac, to, le, ho, ⟨ct, cl, cn, cw⟩⟩ = ⟨raiseP to le ho p, q, fs, ss⟩ := by
                  simp only [stepA, actOf, h0k, ht, hok, Bool.false_and, Bool.false_eq_true, if_false, if_true]
                rw [hst]
                simp -implicitDefEqProofs (maxSteps := 1000000) only [go_sem, Nat.reduceAdd, Nat.reduceBEq, Nat.reduceMul, Nat.reduceLeDiff, Int.reduceEq, ti3, ti4, ti36, ti37, ti42, ti44, ti48, ti51, List.length_map, List.length_append, List.length_singleton, e2, hw1, hrow, h0, h01, hra, ht, d1]
                exact ⟨hlt, trivial, trivial⟩
            | false =>
              have d1 : decide ((0 : Int) > 0) = false := by decide
              rw [hok] at hra; simp only [Bool.false_eq_true, if_false] at hra
              have hst : stepA w town ⟨p, q, fs, ss⟩ ⟨ac, to, le, ho, ⟨ct, cl, cn, cw⟩⟩ = ⟨raiseP to le ho p, q, fs, ss⟩ := by
                simp only [stepA, actOf, h0k, hok, Bool.and_false, Bool.false_eq_true, if_false, if_true]
              rw [hst]
              cases ht : (to == town) with
              | true =>
                simp -implicitDefEqProofs (maxSteps := 1000000) only [go_sem, Nat.reduceAdd, Nat.reduceBEq, Nat.reduceMul, Nat.reduceLeDiff, Int.reduceEq, ti3, ti4, ti36, ti37, ti42, ti44, ti48, ti51, List.length_map, List.length_append, List.length_singleton, e2, hw1, hrow, h0, h01, hra, ht, d1]
                exact ⟨hlt, trivial, trivial⟩
              | false =>
                simp -implicitDefEqProofs (maxSteps := 1000000) only [go_sem, Nat.reduceAdd, Nat.reduceBEq, Nat.reduceMul, Nat.reduceLeDiff, Int.reduceEq, ti3, ti4, ti36, ti37, ti42, ti44, ti48, ti51, List.length_map, List.length_append, List.length_singleton, e2, hw1, hrow, h0, h01, hra, ht, d1]
                exact ⟨hlt, trivial, trivial⟩
          | false =>
            cases h1 : (IntKind.i64.wrap ((BitVec.ofInt IntKind.i64.bits ac &&& BitVec.ofInt IntKind.i64.bits 3).toNat) == 1) with
            | true =>
              have hka := fun vs ls tl => ackA w p q fs ss ⟨ct, cl, cn, cw⟩ vs ls tl
              simp only [encCL] at hka
              have hst : stepA w town ⟨p, q, fs, ss⟩ ⟨ac, to, le, ho, ⟨ct, cl, cn, cw⟩⟩ = if ct = town then ⟨ackP w ⟨ct, cl, cn, cw⟩ p, ackP w ⟨ct, cl, lkup cn (fs.zip ss), cw⟩ q, fs, ss⟩ else ⟨ackP w ⟨ct, cl, cn, cw⟩ p, q, fs, ss⟩ := by
                simp only [stepA, actOf, h0, h1, if_true, Bool.false_eq_true, if_false]
              rw [hst]
              simp -implicitDefEqProofs only [go_sem] at h0 h1
              by_cases hct : ct = town
              · rw [if_pos hct]
                have ht : (ct != town) = false := by simp [hct]
                subst hct
                obtain ⟨hsame, -⟩ := rel_ack (w := w) (c := ⟨ct, cl, cn, cw⟩) hr
                have hkb := fun vs ls tl => ackB w (ackP w ⟨ct, cl, cn, cw⟩ p) q fs ss ⟨ct, cl, lkup cn (fs.zip ss), cw⟩ vs ls tl
                simp only at hsame
                rw [hsame] at hkb
                simp only [encCL] at hkb
                simp -implicitDefEqProofs (maxSteps := 1000000) only [go_sem, Nat.reduceAdd, Nat.reduceBEq, Nat.reduceMul, Nat.reduceLeDiff, Int.reduceEq, ti3, ti4, ti36, ti37, ti42, ti44, ti48, ti51, List.length_map, List.length_append, List.length_singleton, e2, hw1, hrow, h0, h1, hka, ht]
                refine EX_for E fs.length (fun j => [(19, .i .i64 j)]) (fun j => [(18, [.i .i64 ct, .i .i64 cl, .i .i64 (lkup cn ((fs.zip ss).take j)), .i .i64 cw])]) (fun _ => twoH w (ackP w ⟨ct, cl, cn, cw⟩ p) q fs ss) (fun _ => True) trivial ?_ (fun j hj _ => ?_)
                · simp only [go_sem, Nat.reduceAdd, Nat.reduceBEq, Nat.reduceMul, Nat.reduceLeDiff, List.take_zero, lkup, List.foldl_nil] <;> rfl
                · by_cases hjl : j < fs.length
                  · have f3 : decide ((j : Int) < fs.length) = true := by simp; omega
                    have fw := wrap64_succ hjl (by omega)
                    have i1 : (0 ≤ (j : Int) ∧ (j : Int) < fs.length) = True := by simp; omega
                    have i2 : (0 ≤ (j : Int) ∧ (j : Int) < ss.length) = True := by simp; omega
                    have r1 : (fs.map enc1)[j]? = some [.i .i64 fs[j]] := by simp [enc1, hjl]
                    have r2 : (ss.map enc1)[j]? = some [.i .i64 (ss[j]'(by omega))] := by simp [enc1, hsl, hjl]
                    have hlk := lkup_next cn (fs.zip ss) j (by rw [List.length_zip]; omega)
                    rw [List.getElem_zip] at hlk
                    rw [hlk]
                    simp only
                    by_cases he : fs[j] = cn
                    · rw [if_pos he]
                      have he2 : (fs[j] == cn) = true := by simp [he]
                      simp -implicitDefEqProofs (maxSteps := 1000000) only [go_sem, Nat.reduceAdd, Nat.reduceBEq, Nat.reduceMul, Nat.reduceLeDiff, Int.reduceEq, ti3, ti4, ti36, ti37, ti42, ti44, ti48, ti51, List.length_map, List.length_append, List.length_singleton, f3, fw, i1, i2, r1, r2, he2, two4, two5, if_true, Int.toNat_natCast]
                      exact ⟨hjl, trivial, trivial⟩
                    · rw [if_neg he]
                      have he2 : (fs[j] == cn) = false := by simp [he]
                      simp -implicitDefEqProofs (maxSteps := 1000000) only [go_sem, Nat.reduceAdd, Nat.reduceBEq, Nat.reduceMul, Nat.reduceLeDiff, Int.reduceEq, ti3, ti4, ti36, ti37, ti42, ti44, ti48, ti51, List.length_map, List.length_append, List.length_singleton, f3, fw, i1, i2, r1, r2, he2, two4, two5, if_true, Int.toNat_natCast]
                      exact ⟨hjl, trivial, trivial⟩
                  · have f3 : decide ((j : Int) < fs.length) = false := by simp; omega
                    have hzl : (fs.zip ss).take j = fs.zip ss := List.take_of_length_le (by rw [List.length_zip]; omega)
                    rw [hzl]
                    simp -implicitDefEqProofs (maxSteps := 1000000) only [go_sem, Nat.reduceAdd, Nat.reduceBEq, Nat.reduceMul, Nat.reduceLeDiff, Int.reduceEq, ti3, ti4, ti36, ti37, ti42, ti44, ti48, ti51, List.length_map, List.length_append, List.length_singleton, f3, hkb, hw1, bne_self_eq_false]
                    exact ⟨hlt, trivial, trivial⟩
              · rw [if_neg hct]
                have ht : (ct != town) = true := by simp [hct]
                simp -implicitDefEqProofs (maxSteps := 1000000) only [go_sem, Nat.reduceAdd, Nat.reduceBEq, Nat.reduceMul, Nat.reduceLeDiff, Int.reduceEq, ti3, ti4, ti36, ti37, ti42, ti44, ti48, ti51, List.length_map, List.length_append, List.length_singleton, e2, hw1, hrow, h0, h1, hka, ht]
                exact ⟨hlt, trivial, trivial⟩
            | false =>
              have hst : stepA w town ⟨p, q, fs, ss⟩ ⟨ac, to, le, ho, ⟨ct, cl, cn, cw⟩⟩ = ⟨p, q, fs, ss⟩ := by
                simp only [stepA, actOf, h0, h1, if_true, Bool.false_eq_true, if_false]
              rw [hst]
              simp -implicitDefEqProofs only [go_sem] at h0 h1
              simp -implicitDefEqProofs (maxSteps := 1000000) only [go_sem, Nat.reduceAdd, Nat.reduceBEq, Nat.reduceMul, Nat.reduceLeDiff, Int.reduceEq, ti3, ti4, ti36, ti37, ti42, ti44, ti48, ti51, List.length_map, List.length_append, List.length_singleton, e2, hw1, hrow, h0, h1]
              exact ⟨hlt, trivial, trivial⟩
        · have e2 : decide ((k : Int) < l.length) = false := by simp; omega
          have hdA := dueA w (A k).p (A k).q (A k).fs (A k).ss hour hw.2
          have hdB := dueB w (A k).p (A k).q (A k).fs (A k).ss hour hw.2
          obtain ⟨n, lv, na, nb, hf, hb⟩ := rel_due (w := w) hr hour
          have hal := dues_len w hour (A k).p.es hw.2 (opens (A k).p.es 40)
          have hal2 := opens_len (A k).p.es 40
          rw [hb] at hdB
          generalize dues w hour (A k).p.es (opens (A k).p.es 40) = xs at hdA hf hal
          have hbl := callsOf_len town ⟨lv, nb, 0, false⟩ n
          have hbg := callsOf_getE town ⟨lv, nb, 0, false⟩ n
          generalize callsOf town ⟨lv, nb, 0, false⟩ n = bs at hdB hbl hbg
          have hfl : (xs.filter (fun c => c.town == town)).length = n := by rw [hf, callsOf_len]
          have hgot : ∀ i (hi : i < xs.length), (xs[i].town == town) = true → xs[i] = ⟨town, lv, na, ((xs.take i).filter (fun c => c.town == town)).length⟩ ∧ ((xs.take i).filter (fun c => c.town == town)).length < n := by
            intro i hi ht
            have h1 := filter_at (fun c => c.town == town) xs i hi ht
            rw [hf] at h1
            refine ⟨callsOf_get? _ _ _ _ _ h1, ?_⟩
            have h2 := (List.getElem?_eq_some_iff.1 h1).1
            rw [callsOf_len] at h2; exact h2
          simp -implicitDefEqProofs (maxSteps := 1000000) only [go_sem, Nat.reduceAdd, Nat.reduceBEq, Nat.reduceMul, Nat.reduceLeDiff, Int.reduceEq, ti3, ti4, ti36, ti37, ti42, ti44, ti48, ti51, List.length_map, List.length_append, List.length_singleton, e2, hdA, hdB]
          refine EX_for E xs.length (fun i => [(22, .i .i64 (((xs.take i).filter (fun c => c.town == town)).length)), (23, .i .i64 i)]) (fun _ => []) (fun _ => twoH w (A k).p (A k).q (A k).fs (A k).ss) (fun _ => True) trivial ?_ (fun i hi _ => ?_)
          · simp only [go_sem, Nat.reduceAdd, Nat.reduceBEq, Nat.reduceMul, Nat.reduceLeDiff, List.take_zero, List.filter_nil, List.length_nil] <;> rfl
          · by_cases hil : i < xs.length
            · have f2 : decide ((i : Int) < xs.length) = true := by simp; omega
              have fw := wrap64_succ hil (by omega)
              have frow := row_map encCL xs i hil
              have fnx := filter_next (fun c : CL => c.town == town) xs i hil
              have fwx : IntKind.i64.wrap ((((xs.take i).filter (fun c => c.town == town)).length : Int) + 1) = ((((xs.take i).filter (fun c => c.town == town)).length + 1 : Nat) : Int) := by
                have := List.length_filter_le (fun c : CL => c.town == town) (xs.take i)
                rw [List.length_take] at this
                rw [wrap64 (by omega) (by omega)]; omega
              cases hti : (xs[i].town == town) with
              | true =>
                obtain ⟨hgi, hgn⟩ := hgot i hil hti
                simp only [hti, if_true] at fnx
                rw [hgi] at frow
                rw [fnx]
                generalize ((xs.take i).filter (fun c => c.town == town)).length = g at frow hgn fwx
                have fge : decide ((g : Int) ≥ bs.length) = false := by simp; omega
                have frow2 := row_map encCL bs g (by omega)
                rw [hbg g (by omega)] at frow2
                simp only [encCL] at frow frow2
                simp -implicitDefEqProofs (maxSteps := 1000000) only [go_sem, Nat.reduceAdd, Nat.reduceBEq, Nat.reduceMul, Nat.reduceLeDiff, Int.reduceEq, ti3, ti4, ti36, ti37, ti42, ti44, ti48, ti51, List.length_map, List.length_append, List.length_singleton, f2, fw, fwx, frow, frow2, fge, bne_self_eq_false]
                exact ⟨hil, trivial, trivial⟩
              | false =>
                simp only [hti, Bool.false_eq_true, if_false, Nat.add_zero] at fnx
                have hne : (xs[i].town != town) = true := by rw [bne, hti]; rfl
                rw [fnx]
                simp only [encCL] at frow
                simp -implicitDefEqProofs (maxSteps := 1000000) only [go_sem, Nat.reduceAdd, Nat.reduceBEq, Nat.reduceMul, Nat.reduceLeDiff, Int.reduceEq, ti3, ti4, ti36, ti37, ti42, ti44, ti48, ti51, List.length_map, List.length_append, List.length_singleton, f2, fw, fwx, frow, hne]
                exact ⟨hil, trivial, trivial⟩
            · have f2 : decide ((i : Int) < xs.length) = false := by simp; omega
              have hin : i = xs.length := by omega
              rw [hin] at f2
              rw [hin, List.take_length, hfl, ← hbl]
              simp -implicitDefEqProofs (maxSteps := 1000000) only [go_sem, Nat.reduceAdd, Nat.reduceBEq, Nat.reduceMul, Nat.reduceLeDiff, Int.reduceEq, ti3, ti4, ti36, ti37, ti42, ti44, ti48, ti51, List.length_map, List.length_append, List.length_singleton, f2, beq_self_eq_true]
  · have hnew := new_no w hw
    simp only [c9, Option.getD, Try.f9]
    simp -implicitDefEqProofs (maxSteps := 1000000) only [go_sem, Nat.reduceAdd, Nat.reduceBEq, Nat.reduceMul, Nat.reduceLeDiff, Int.reduceEq, ti3, ti4, ti5, ti36, ti37, ti42, ti44, ti48, ti51, h0, hnew, List.length_map]
end Go.Proofs.Ytdnhlbbbcallpaa
/- WardenAside -/
set_option autoImplicit false
set_option linter.unusedVariables false
namespace Go.Proofs.Ytdnhlbbbcallpaa
open Go.Ex Go.Proofs Go.ChangeShapes Go.WideShapes Go.ChangeAt Go.RowKit
set_option maxRecDepth 100000
theorem wardenAside_contract (H : Type) (enc : TypeId × Value → H) (W : World) (base : Nat) (args : Array Value) (ds gs : List (DataW H)) (before : List MemPlace)
    (hval : ∀ (j : Nat) t v, Try.f9.params[j]? = some t → args[j]? = some v → Value.okWide Try.prog W .any base t v)
    (hW : DataW.Whole enc Try.prog Try.f9.params.toList Rows.wardenAsideSpec.vars false W args.toList ds gs before) :
    Calls Try.prog 9 args W fun e W' => ∃ v, e = .returned v ∧ Rows.wardenAsideSpec.post enc Try.prog Try.f9 false true false false W args v W' := by
  have hW' := hW
  obtain ⟨pp, qq, hA, _⟩ := hW'
  rw [Try.params9] at hA hval
  obtain ⟨v0, vs0, d0, ds0, p0, q0, ha0, hd0, hp0, h0, r0⟩ := trodAll_cons hA
  obtain ⟨v1, vs1, d1, ds1, p1, q1, ha1, hd1, hp1, h1, r1⟩ := trodAll_cons r0
  obtain ⟨v2, vs2, d2, ds2, p2, q2, ha2, hd2, hp2, h2, r2⟩ := trodAll_cons r1
  obtain ⟨v3, vs3, d3, ds3, p3, q3, ha3, hd3, hp3, h3, r3⟩ := trodAll_cons r2
  obtain ⟨e1, e2, e3⟩ := trodAll_nil r3
  have hargs : args.toList = [v0, v1, v2, v3] := by rw [ha0, ha1, ha2, ha3, e1]
  have hav : ∀ j : Nat, args[j]? = [v0, v1, v2, v3][j]? := fun j => by rw [← hargs, Array.getElem?_toList]
  obtain ⟨x0, o0, _, k0⟩ := rdv_int Try.underlying3 (hval 0 3 v0 rfl (hav 0)) h0 
  obtain ⟨x1, o1, _, k1⟩ := rdv_slice Try.underlying36 (hval 1 36 v1 rfl (hav 1)) h1 rd_WSs
  obtain ⟨x2, o2, _, k2⟩ := rdv_int Try.underlying3 (hval 2 3 v2 rfl (hav 2)) h2 
  obtain ⟨x3, o3, _, k3⟩ := rdv_int Try.underlying3 (hval 3 3 v3 rfl (hav 3)) h3 
  obtain ⟨h', hr⟩ := FN_run (wardenAside_run x0 x1 x2 x3)
  refine law_post (tb := 4) laid ?_ rfl Try.underlying4 (by kernel_rfl) ?_ hW (law_calls runOK (by rw [hargs]; exact VRs.cons k0 (VRs.cons k1 (VRs.cons k2 (VRs.cons k3 VRs.nil)))) hr)
  · intro t ht
    rw [Try.params9] at ht
    have : t = 3 ∨ t = 36 ∨ t = 3 ∨ t = 3 := by simpa using ht
    rcases this with rfl | rfl | rfl | rfl
    all_goals exact ⟨by kernel_rfl, of_decide_eq_true (by kernel_rfl)⟩
  · intro ds hl
    rw [Try.params9] at hl
    match ds, hl with
    | [a0, a1, a2, a3], _ => rfl
theorem wardenAside_lifted (os : Os) (started : os.Started) (H : Type) (enc : TypeId × Value → H) :
    ReturnsInHanded {} Try.checked os 9 .any (Rows.wardenAsideSpec.pre6 enc Try.prog Try.f9 Rows.wardenAsideRow.domain false) (Rows.wardenAsideSpec.post enc Try.prog Try.f9 false true false false) := by
  refine returnsInHanded_of_change (C := Try.checked) own started (by kernel_rfl) Try.func9
    (ChangeSpec.witness6 (enc := enc) (C := Try.checked) false ⟨#[], #[.int .i64 0, .slice none 0 0, .int .i64 0, .int .i64 0], []⟩ 8 (by kernel_rfl) (by kernel_rfl) (by kernel_rfl) (by kernel_rfl)) ?_
  intro W base args ds gs before hval hW _ _
  exact wardenAside_contract H enc W base args ds gs before hval hW
theorem wardenAside_holds : Rows.WardenAsideSaid :=
  OpenClaim.holds_of_wide 9 Try.f9 rfl rfl rfl rfl rfl rfl rfl ⟨rfl, rfl, rfl, rfl, rfl⟩ rfl rfl rfl rfl rfl (by kernel_rfl) Try.func9 (by kernel_rfl)
    (of_decide_eq_true (by kernel_rfl)) (by unfold Func.isWrapper; first | (rw [if_pos (by decide +kernel)]; kernel_rfl) | (rw [if_neg (by decide +kernel)]; exact ⟨rfl, rfl⟩))
    (fun os started H enc _ => wardenAside_lifted os started H enc)
#print axioms wardenAside_holds
end Go.Proofs.Ytdnhlbbbcallpaa
