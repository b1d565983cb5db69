/- Sequences of calls, run; the walk of WardenAcks. -/
import Derived.Test.YtdnhlbbbcallpaaPosts2
import Derived.Test.YtdnhlbbbcallpaaFacts
set_option linter.unnecessarySimpa false
set_option linter.unusedVariables false
set_option linter.unusedSimpArgs false
set_option linter.unusedSectionVars false
set_option linter.deprecated false
/- WardenAcks: the walk. -/
set_option autoImplicit false
set_option linter.unusedVariables false
namespace Go.Proofs.Ytdnhlbbbcallpaa
open Go.Ex Go.Proofs
set_option maxHeartbeats 4000000
set_option maxRecDepth 100000
theorem run2 (w : Int) (l : List WS) (hl : l.length ≤ 40) (vs ls tl) :
    callV E 32 [.hp 1 3 1 0 0, .sl 8 (l.map encWS) false] ⟨vs, ls, postH w 0 0 [], tl⟩ = some (.tp [], ⟨vs, ls, postH w (l.foldl (stepP w) ⟨0, []⟩).m 0 (l.foldl (stepP w) ⟨0, []⟩).es, tl⟩) :=
  call0 fn32 rfl (run1 w l ⟨0, []⟩ hl (by simp))
theorem ackl_next (w : Int) (es : List (Int × WO)) (cs : List CL) (k : Nat) (hk : k < cs.length) : ackl w es (cs.take (k + 1)) = ack1 w (ackl w es (cs.take k)) cs[k] := by
  unfold ackl; rw [List.take_succ_eq_append_getElem hk, List.foldl_append]; rfl
theorem ack_same (w hour : Int) (es : List (Int × WO)) (cs : List CL) (hcs : cs = dues w hour es (opens es 40)) (hw : 1 ≤ w) (k : Nat) (hk : k < cs.length) (h0 : 0 < k) (ht : (cs[k - 1]'(by omega)).town = cs[k].town) :
    awaits w (ackl w es (cs.take k)) cs[k] = false := by
  apply awaits_open
  apply ackl_done
  · intro c hc; rw [hcs] at hc; exact (dues_mem w hour es hw _ c (List.mem_of_mem_take hc)).2
  · refine ⟨cs[k - 1]'(by omega), ?_, ht⟩
    rw [List.mem_take_iff_getElem]
    exact ⟨k - 1, by omega, rfl⟩
theorem ack_new (w hour : Int) (es : List (Int × WO)) (cs : List CL) (hcs : cs = dues w hour es (opens es 40)) (hw : 1 ≤ w) (k : Nat) (hk : k < cs.length) (h : ∀ h0 : 0 < k, (cs[k - 1]'(by omega)).town ≠ cs[k].town) :
    awaits w (ackl w es (cs.take k)) cs[k] = true ∧ awaits w (ackd w (ackl w es (cs.take k)) cs[k]) cs[k] = false ∧
    (opens (ackd w (ackl w es (cs.take k)) cs[k]) 40).length + 1 = (opens (ackl w es (cs.take k)) 40).length := by
  have hsort : cs.Pairwise (fun a b => a.town ≤ b.town) := by rw [hcs]; exact dues_sorted w hour es hw _ (opens_sorted es 40)
  rw [List.pairwise_iff_getElem] at hsort
  have hmem : cs[k] ∈ dues w hour es (opens es 40) := by rw [← hcs]; exact List.getElem_mem hk
  obtain ⟨hin, o, g1, g2, g3, g4⟩ := dues_mem w hour es hw _ _ hmem
  have hop := opens_mem _ _ _ hin
  have hr := opens_ge _ _ _ hin
  have hno : ∀ c ∈ cs.take k, c.town ≠ cs[k].town := by
    intro c hc e
    rw [List.mem_take_iff_getElem] at hc
    obtain ⟨j, hj, rfl⟩ := hc
    have hj2 : j < k := by omega
    have h2 := hsort (k - 1) k (by omega) hk (by omega)
    have h3 := h (by omega)
    by_cases e1 : j = k - 1
    · subst e1; exact h3 e
    · have h1 := hsort j (k - 1) (by omega) (by omega) (by omega)
      exact h3 (by omega)
  have hf := ackl_find w cs[k].town (cs.take k) es hno
  have haw : awaits w (ackl w es (cs.take k)) cs[k] = true := by
    rw [good_awaits ⟨o, by rw [hf]; exact g1, g2, g3, g4⟩]
    unfold isOpen at hop ⊢; rw [hf]; exact hop
  have he : ack1 w (ackl w es (cs.take k)) cs[k] = ackd w (ackl w es (cs.take k)) cs[k] := by rw [ack1, haw]; rfl
  refine ⟨haw, ?_, ?_⟩
  · apply awaits_open; rw [← he, isOpen_ack1, haw]; simp
  · have := opens_ack1 w _ _ haw 40 hr.1
    rw [he, if_pos hr.2] at this; exact this
theorem wardenAcks_run (w : Int) (l : List WS) (hour : Int) : FN E 8 [.i .i64 w, .sl 8 (l.map encWS) false, .i .i64 hour] [] fun r _ => r = .b true := by
  refine FN_enter E fn8 ?_
  have h0 := small44_run
  by_cases hw : 1 ≤ w ∧ w ≤ 16
  · have hnew := new1 w hw
    by_cases hn : 40 < l.length
    · have e1 : decide ((l.length : Int) > 40) = true := by simp; omega
      simp only [c8, Option.getD, Try.f8]
      simp -implicitDefEqProofs (maxSteps := 1000000) only [go_sem, Nat.reduceAdd, Nat.reduceBEq, Nat.reduceMul, Nat.reduceLeDiff, Int.reduceEq, ti3, ti4, ti36, ti37, ti42, ti44, ti48, ti51, h0, hnew, List.length_map, e1]
    · have e1 : decide ((l.length : Int) > 40) = false := by simp; omega
      have hrun := run2 w l (by omega)
      generalize hp : l.foldl (stepP w) ⟨0, []⟩ = p at hrun
      obtain ⟨m, es⟩ := p
      simp only at hrun
      have hdue := due1 w m hour es hw.2
      have hopn := open1 w m es
      obtain ⟨cs, hcs⟩ : ∃ cs, cs = dues w hour es (opens es 40) := ⟨_, rfl⟩
      have hlen : cs.length ≤ 640 := by rw [hcs]; have := dues_len w hour es hw.2 (opens es 40); have := opens_len es 40; omega
      rw [← hcs] at hdue
      simp only [c8, Option.getD, Try.f8]
      simp -implicitDefEqProofs (maxSteps := 1000000) only [go_sem, Nat.reduceAdd, Nat.reduceBEq, Nat.reduceMul, Nat.reduceLeDiff, Int.reduceEq, ti3, ti4, ti36, ti37, ti42, ti44, ti48, ti51, h0, hnew, List.length_map, e1, hrun, hdue, hopn]
      refine EX_for E cs.length (fun k => [(11, .i .i64 (((opens es 40).length : Int) - (opens (ackl w es (cs.take k)) 40).length)), (12, .i .i64 k)]) (fun _ => []) (fun k => postH w m 0 (ackl w es (cs.take k))) (fun _ => True) trivial ?_ (fun k hk _ => ?_)
      · simp only [go_sem, Nat.reduceAdd, Nat.reduceBEq, Nat.reduceMul, Nat.reduceLeDiff, List.take_zero, ackl, List.foldl_nil, Int.sub_self] <;> rfl
      · by_cases hlt : k < cs.length
        · have e2 : decide ((k : Int) < cs.length) = true := by simp; omega
          have hw1 := wrap64_succ hlt (by omega)
          have hrow := row_map encCL cs k hlt
          have hnx := ackl_next w es cs k hlt
          have hcn := ack_new w hour es cs hcs hw.1 k hlt
          have hcsm := ack_same w hour es cs hcs hw.1 k hlt
          generalize hA : ackl w es (cs.take k) = ek at hnx hcn hcsm
          by_cases hk0 : 0 < k
          · have e3 : decide ((k : Int) > 0) = true := by simp; omega
            have hwp : IntKind.i64.wrap ((k : Int) - 1) = ((k - 1 : Nat) : Int) := by rw [wrap64 (by omega) (by omega)]; omega
            have hrow1 := row_map encCL cs (k - 1) (by omega)
            by_cases hts : (cs[k - 1]'(by omega)).town = cs[k].town
            · have haw := hcsm hk0 hts
              have hack := ack1_no w m ek cs[k] haw
              rw [hnx, ack1, haw]
              have e4 : ((cs[k - 1]'(by omega)).town == cs[k].town) = true := by simp [hts]
              simp only [encCL] at hrow hrow1 hack
              simp -implicitDefEqProofs (maxSteps := 1000000) only [go_sem, Nat.reduceAdd, Nat.reduceBEq, Nat.reduceMul, Nat.reduceLeDiff, Int.reduceEq, ti3, ti4, ti36, ti37, ti42, ti44, ti48, ti51, h0, List.length_map, e2, e3, hw1, hwp, hrow, hrow1, e4, hack, Bool.false_eq_true, if_false]
              exact ⟨hlt, trivial, trivial⟩
            · obtain ⟨haw, haw2, hol⟩ := hcn (fun _ => hts)
              have hack := ack1_yes w m ek cs[k] haw
              have hq1 := awaits1 w m ek cs[k]
              have hq2 := awaits1 w m (ackd w ek cs[k]) cs[k]
              rw [haw] at hq1; rw [haw2] at hq2
              have hacc : IntKind.i64.wrap (((opens es 40).length : Int) - (opens ek 40).length + 1) = ((opens es 40).length : Int) - (opens (ackd w ek cs[k]) 40).length := by have := opens_len es 40; have := opens_len ek 40; rw [wrap64 (by omega) (by omega)]; omega
              rw [hnx, ack1, haw]
              have e4 : ((cs[k - 1]'(by omega)).town == cs[k].town) = false := by simp [hts]
              simp only [encCL] at hrow hrow1 hack hq1 hq2
              simp -implicitDefEqProofs (maxSteps := 1000000) only [go_sem, Nat.reduceAdd, Nat.reduceBEq, Nat.reduceMul, Nat.reduceLeDiff, Int.reduceEq, ti3, ti4, ti36, ti37, ti42, ti44, ti48, ti51, h0, List.length_map, e2, e3, hw1, hwp, hrow, hrow1, e4, hack, hq1, hq2, hacc, Bool.false_eq_true, if_false, if_true]
              exact ⟨hlt, trivial, trivial⟩
          · have e3 : decide ((k : Int) > 0) = false := by simp; omega
            obtain ⟨haw, haw2, hol⟩ := hcn (fun h => absurd h hk0)
            have hack := ack1_yes w m ek cs[k] haw
            have hq1 := awaits1 w m ek cs[k]
            have hq2 := awaits1 w m (ackd w ek cs[k]) cs[k]
            rw [haw] at hq1; rw [haw2] at hq2
            have hacc : IntKind.i64.wrap (((opens es 40).length : Int) - (opens ek 40).length + 1) = ((opens es 40).length : Int) - (opens (ackd w ek cs[k]) 40).length := by have := opens_len es 40; have := opens_len ek 40; rw [wrap64 (by omega) (by omega)]; omega
            rw [hnx, ack1, haw]
            simp only [encCL] at hrow hack hq1 hq2
            simp -implicitDefEqProofs (maxSteps := 1000000) only [go_sem, Nat.reduceAdd, Nat.reduceBEq, Nat.reduceMul, Nat.reduceLeDiff, Int.reduceEq, ti3, ti4, ti36, ti37, ti42, ti44, ti48, ti51, h0, List.length_map, e2, e3, hw1, hrow, hack, hq1, hq2, hacc, Bool.false_eq_true, if_false, if_true]
            exact ⟨hlt, trivial, trivial⟩
        · have e2 : decide ((cs.length : Int) < cs.length) = false := by simp
          have hkn : k = cs.length := by omega
          have haft := dues_after w hour es hw.1
          rw [← hcs] at haft
          rw [hkn, List.take_length]
          have hdue2 := due1 w m hour (ackl w es cs) hw.2
          rw [haft] at hdue2
          simp only [List.map_nil] at hdue2
          have hfin : IntKind.i64.wrap (((opens es 40).length : Int) - (((opens es 40).length : Int) - (opens (ackl w es cs) 40).length)) = (opens (ackl w es cs) 40).length := by have := opens_len es 40; have := opens_len (ackl w es cs) 40; rw [wrap64 (by omega) (by omega)]; omega
          have hopn2 := open1 w m (ackl w es cs)
          simp -implicitDefEqProofs (maxSteps := 1000000) only [go_sem, Nat.reduceAdd, Nat.reduceBEq, Nat.reduceMul, Nat.reduceLeDiff, Int.reduceEq, ti3, ti4, ti36, ti37, ti42, ti44, ti48, ti51, h0, List.length_map, e2, fn27, fn30, hdue2, hopn2, hfin, beq_self_eq_true, List.map_nil, List.length_nil]
  · have hnew := new_no w hw
    simp only [c8, Option.getD, Try.f8]
    simp -implicitDefEqProofs (maxSteps := 1000000) only [go_sem, Nat.reduceAdd, Nat.reduceBEq, Nat.reduceMul, Nat.reduceLeDiff, Int.reduceEq, ti3, ti4, ti36, ti37, ti42, ti44, ti48, ti51, h0, hnew, List.length_map]
end Go.Proofs.Ytdnhlbbbcallpaa
