/- For all numbers of wardens, lists of calls, towns, levels, hours and so on the law WardenClimbs returns true and leaves its arguments as they were; no condition. -/
import Derived.Test.YtdnhlbbbcallpaaPosts3
import Derived.Test.YtdnhlbbbcallpaaWRead
set_option linter.unnecessarySimpa false
set_option linter.unusedVariables false
set_option linter.unusedSimpArgs false
set_option linter.unusedSectionVars false
set_option linter.deprecated false
/- WardenClimbs: the walk. -/
set_option autoImplicit false
set_option linter.unusedVariables false
namespace Go.Proofs.Ytdnhlbbbcallpaa
open Go.Ex Go.Proofs
set_option maxHeartbeats 4000000
set_option maxRecDepth 100000
/-- is the order acknowledged ahead of round k? -/
def gd (w who after : Int) (k : Nat) : Bool := decide (0 ≤ who) && decide (who < w) && decide (after + 1 < k)
theorem wardenClimbs_run (w : Int) (l : List WS) (town level hour who after : Int) (haf : 0 ≤ after ∧ after < 256) : FN E 7 [.i .i64 w, .sl 8 (l.map encWS) false, .i .i64 town, .i .i64 level, .i .i64 hour, .i .i64 who, .i .u8 after] [] fun r _ => r = .b true := by
  refine FN_enter E fn7 ?_
  have h0 := small44_run
  by_cases hw : 1 ≤ w ∧ w ≤ 16
  · have hnew := new1 w hw
    by_cases hn : 40 < l.length
    · have e1 : decide ((l.length : Int) > 40) = true := by simp; omega
      simp only [c7, Option.getD, Try.f7]
      simp -implicitDefEqProofs (maxSteps := 1000000) only [go_sem, Nat.reduceAdd, Nat.reduceBEq, Nat.reduceMul, Nat.reduceLeDiff, Int.reduceEq, ti3, ti4, ti5, ti36, ti37, ti42, ti44, ti48, ti51, h0, hnew, List.length_map, e1]
    · have e1 : decide ((l.length : Int) > 40) = false := by simp; omega
      have hrun := run2 w l (by omega)
      have hm := fold_m w l ⟨0, []⟩
      generalize hp : l.foldl (stepP w) ⟨0, []⟩ = p at hrun hm
      obtain ⟨m, es⟩ := p
      simp only at hrun hm
      have hr := raise1_any w m es town level hour (by omega)
      cases hok : okRaise town level hour with
      | false =>
        have e3 : (decide (town < 0) || decide (town ≥ 40) || decide (level < 0) || decide (level > 3) || decide (hour < 0) || decide (hour > 16777216)) = true := by
          unfold okRaise at hok
          simp only [Bool.and_eq_false_iff, decide_eq_false_iff_not] at hok
          simp only [Bool.or_eq_true, decide_eq_true_eq]
          omega
        rw [hok] at hr
        simp only [Bool.false_eq_true, if_false] at hr
        simp only [c7, Option.getD, Try.f7]
        simp -implicitDefEqProofs (maxSteps := 1000000) only [go_sem, Nat.reduceAdd, Nat.reduceBEq, Nat.reduceMul, Nat.reduceLeDiff, Int.reduceEq, ti3, ti4, ti5, ti36, ti37, ti42, ti44, ti48, ti51, h0, hnew, List.length_map, e1, hrun, hr, e3]
      | true =>
        rw [raiseP, hok] at hr
        simp only [if_true] at hr
        have hb : (0 ≤ town ∧ town < 40) ∧ 0 ≤ hour ∧ hour ≤ 16777216 := by
          unfold okRaise at hok
          simp only [Bool.and_eq_true, decide_eq_true_eq] at hok
          omega
        have e3 : ((m + 1) == 0) = false := by simp; omega
        have w1 : IntKind.i64.wrap (hour - 1) = hour - 1 := wrap64 (by omega) (by omega)
        have w2 : IntKind.i64.wrap (hour + 60) = hour + 60 := wrap64 (by omega) (by omega)
        have w3 : IntKind.i64.wrap after = after := wrap64 (by omega) (by omega)
        have w4 : IntKind.i64.wrap (hour + after) = hour + after := wrap64 (by omega) (by omega)
        simp only [c7, Option.getD, Try.f7]
        simp -implicitDefEqProofs (maxSteps := 1000000) only [go_sem, Nat.reduceAdd, Nat.reduceBEq, Nat.reduceMul, Nat.reduceLeDiff, Int.reduceEq, ti3, ti4, ti5, ti36, ti37, ti42, ti44, ti48, ti51, h0, hnew, List.length_map, e1, hrun, hr, e3, w1]
        refine EX_for E 61 (fun k => [(18, .b (gd w who after k)), (19, .i .i64 (hour - 1 + k))]) (fun _ => []) (fun k => postH w (m + 1) 0 (wset town ⟨level, m + 1, hour, gd w who after k⟩ es)) (fun _ => True) trivial ?_ (fun k hk _ => ?_)
        · have hg : gd w who after 0 = false := by unfold gd; simp; omega
          simp only [go_sem, Nat.reduceAdd, Nat.reduceBEq, Nat.reduceMul, Nat.reduceLeDiff, hg, Int.add_zero, Int.natCast_zero, Int.cast_ofNat_Int] <;> rfl
        · by_cases hlt : k < 61
          · have e2 : decide ((hour - 1 + k) < hour + 60) = true := by simp; omega
            have w5 : IntKind.i64.wrap (hour - 1 + k + 1) = hour - 1 + (k + 1 : Nat) := by rw [wrap64 (by omega) (by omega)]; omega
            -- the acknowledgement
            obtain ⟨tst, ht⟩ : ∃ b, b = (((hour - 1 + k) == hour + after) && decide (who ≥ 0) && decide (who < w)) := ⟨_, rfl⟩
            have hgn : gd w who after (k + 1) = (gd w who after k || tst) := by
              rw [ht]; unfold gd
              rw [Bool.eq_iff_iff]
              simp only [Bool.and_eq_true, Bool.or_eq_true, decide_eq_true_eq, beq_iff_eq]
              omega
            have hdk : tst = true → gd w who after k = false := by
              intro h; rw [h] at ht
              have ht := ht.symm
              simp only [Bool.and_eq_true, decide_eq_true_eq, beq_iff_eq] at ht
              unfold gd; simp; omega
            have hack : tst = true → ∀ vs ls tl, callV E 22 [.hp 1 3 1 0 0, .ag [.i .i64 town, .i .i64 0, .i .i64 (m + 1), .i .i64 who]] ⟨vs, ls, postH w (m + 1) 0 (wset town ⟨level, m + 1, hour, gd w who after k⟩ es), tl⟩ = some (.b true, ⟨vs, ls, postH w (m + 1) 0 (wset town ⟨level, m + 1, hour, gd w who after (k + 1)⟩ es), tl⟩) := by
              intro h vs ls tl
              have h1 := ack1_any w (m + 1) (wset town ⟨level, m + 1, hour, gd w who after k⟩ es) ⟨town, 0, m + 1, who⟩ vs ls tl
              have h2 : awaits w (wset town ⟨level, m + 1, hour, gd w who after k⟩ es) ⟨town, 0, m + 1, who⟩ = true := by
                rw [hdk h]; rw [h] at ht
                have ht := ht.symm
                simp only [Bool.and_eq_true, decide_eq_true_eq, beq_iff_eq] at ht
                simp [awaits, wfind_wset, ht]
              rw [ack1, h2] at h1
              simp only [if_true, encCL] at h1
              rw [h1, ackd, wfind_wset, if_pos rfl, hgn, h, Bool.or_true]; simp only [wset_wset]
            have hcall : ∀ d, ∃ cs : List CL, cs.length ≤ 640 ∧ (∀ vs ls tl, callV E 27 [.hp 1 3 1 0 0, .i .i64 (hour - 1 + k)] ⟨vs, ls, postH w (m + 1) 0 (wset town ⟨level, m + 1, hour, d⟩ es), tl⟩ = some (.sl 4 (cs.map encCL) false, ⟨vs, ls, postH w (m + 1) 0 (wset town ⟨level, m + 1, hour, d⟩ es), tl⟩)) ∧
                cs.filter (fun c => c.town == town) = if d then [] else callsOf town ⟨level, m + 1, hour, d⟩ (many w (hour - 1 + k) ⟨level, m + 1, hour, d⟩) := by
              intro d
              refine ⟨_, ?_, due1 w (m + 1) (hour - 1 + k) _ hw.2, dues_town w (hour - 1 + k) _ town ⟨level, m + 1, hour, d⟩ (by rw [wfind_wset, if_pos rfl]) hb.1⟩
              have h1 := dues_len w (hour - 1 + k) (wset town ⟨level, m + 1, hour, d⟩ es) hw.2 (opens (wset town ⟨level, m + 1, hour, d⟩ es) 40)
              have h2 := opens_len (wset town ⟨level, m + 1, hour, d⟩ es) 40
              omega
            obtain ⟨cs, hcl, hdue, hcf⟩ := hcall (gd w who after (k + 1))
            have hgot : ∀ i (hi : i < cs.length), (cs[i].town == town) = true → cs[i] = ⟨town, level, m + 1, ((cs.take i).filter (fun c => c.town == town)).length⟩ := by
              intro i hi ht
              have h1 := filter_at (fun c => c.town == town) cs i hi ht
              rw [hcf] at h1
              cases hd : gd w who after (k + 1) with
              | true => rw [hd] at h1; simp at h1
              | false => rw [hd] at h1; exact callsOf_get? _ _ _ _ _ h1
            have hlen : (cs.filter (fun c => c.town == town)).length = if (decide (hour - 1 + (k : Int) ≥ hour) && !(gd w who after (k + 1))) then many w (hour - 1 + k) ⟨level, m + 1, hour, false⟩ else 0 := by
              rw [hcf]
              cases hd : gd w who after (k + 1) with
              | true => simp
              | false =>
                simp only [Bool.false_eq_true, if_false, callsOf_len, Bool.not_false, Bool.and_true, decide_eq_true_eq]
                split
                · rfl
                · rename_i hh; exact many_early _ _ _ hh
            have hwant : hour - 1 + (k : Int) ≥ hour → _ := fun h => climb_want w (hour - 1 + k) hour ⟨level, m + 1, hour, false⟩ rfl hw h (by omega) hb.2
            clear hcf
            generalize gd w who after (k + 1) = d' at *
            cases tst with
            | false =>
              rw [Bool.or_false] at hgn
              rw [← hgn]
              have ht := ht.symm
              simp -implicitDefEqProofs (maxSteps := 1000000) only [go_sem, Nat.reduceAdd, Nat.reduceBEq, Nat.reduceMul, Nat.reduceLeDiff, Int.reduceEq, ti3, ti4, ti5, ti36, ti37, ti42, ti44, ti48, ti51, w1, w2, w3, w4, w5, e2, ht, hdue, List.length_map]
              refine ⟨fun hb2 => ?_, fun hb2 => ?_⟩
              all_goals
                refine EX_for E cs.length (fun i => [(22, .i .i64 (((cs.take i).filter (fun c => c.town == town)).length)), (23, .i .i64 i)]) (fun _ => []) (fun _ => postH w (m + 1) 0 (wset town ⟨level, m + 1, hour, d'⟩ es)) (fun _ => True) trivial ?_ (fun i hi _ => ?_)
                · simp only [go_sem, Nat.reduceAdd, Nat.reduceBEq, Nat.reduceMul, Nat.reduceLeDiff, List.take_zero, List.filter_nil, List.length_nil] <;> rfl
                · by_cases hil : i < cs.length
                  · have f2 : decide ((i : Int) < cs.length) = true := by simp; omega
                    have fw := wrap64_succ hil (by omega)
                    have frow := row_map encCL cs i hil
                    have fnx := filter_next (fun c : CL => c.town == town) cs i hil
                    have fwx : IntKind.i64.wrap ((((cs.take i).filter (fun c => c.town == town)).length : Int) + 1) = ((((cs.take i).filter (fun c => c.town == town)).length + 1 : Nat) : Int) := by
                      have := List.length_filter_le (fun c : CL => c.town == town) (cs.take i)
                      rw [List.length_take] at this
                      rw [wrap64 (by omega) (by omega)]; omega
                    have hgi := hgot i hil
                    cases hti : (cs[i].town == town) with
                    | true =>
                      have hgi := hgi hti
                      rw [hti, if_pos rfl] at fnx
                      rw [hgi] at frow
                      simp only [encCL] at frow
                      rw [fnx]
                      simp -implicitDefEqProofs (maxSteps := 1000000) only [go_sem, Nat.reduceAdd, Nat.reduceBEq, Nat.reduceMul, Nat.reduceLeDiff, Int.reduceEq, ti3, ti4, ti5, ti36, ti37, ti42, ti44, ti48, ti51, f2, fw, fwx, frow, List.length_map, bne_self_eq_false]
                      exact ⟨hil, trivial, trivial⟩
                    | false =>
                      simp only [hti, Bool.false_eq_true, if_false, Nat.add_zero] at fnx
                      have hne : (cs[i].town != town) = true := by rw [bne, hti]; rfl
                      simp only [encCL] at frow
                      rw [fnx]
                      simp -implicitDefEqProofs (maxSteps := 1000000) only [go_sem, Nat.reduceAdd, Nat.reduceBEq, Nat.reduceMul, Nat.reduceLeDiff, Int.reduceEq, ti3, ti4, ti5, ti36, ti37, ti42, ti44, ti48, ti51, f2, fw, fwx, frow, List.length_map, hne]
                      exact ⟨hil, trivial, trivial⟩
                  · have f2 : decide ((i : Int) < cs.length) = false := by simp; omega
                    have hin : i = cs.length := by omega
                    rw [hin] at f2
                    rw [hin, List.take_length]
                    have hwt := hwant
                    rw [hb2] at hlen
                    simp only [if_true, Bool.false_eq_true, if_false] at hlen
                    first
                    | (have hge : hour - 1 + (k : Int) ≥ hour := by
                        simp only [Bool.and_eq_true, decide_eq_true_eq] at hb2; exact hb2.1
                       have hwt := hwant hge
                       simp -implicitDefEqProofs (maxSteps := 1000000) only [go_sem, Nat.reduceAdd, Nat.reduceBEq, Nat.reduceMul, Nat.reduceLeDiff, Int.reduceEq, ti3, ti4, ti5, ti36, ti37, ti42, ti44, ti48, ti51, f2, w5, hwt, hlen, List.length_map, bne_self_eq_false]
                       exact ⟨hlt, trivial, trivial⟩)
                    | (simp -implicitDefEqProofs (maxSteps := 1000000) only [go_sem, Nat.reduceAdd, Nat.reduceBEq, Nat.reduceMul, Nat.reduceLeDiff, Int.reduceEq, ti3, ti4, ti5, ti36, ti37, ti42, ti44, ti48, ti51, f2, w5, hlen, List.length_map, bne_self_eq_false, Int.natCast_zero, Int.cast_ofNat_Int]
                       exact ⟨hlt, trivial, trivial⟩)
            | true =>
              have hdk := hdk rfl
              rw [Bool.or_true] at hgn
              have hack := hack rfl
              have ht := ht.symm
              simp -implicitDefEqProofs (maxSteps := 1000000) only [go_sem, Nat.reduceAdd, Nat.reduceBEq, Nat.reduceMul, Nat.reduceLeDiff, Int.reduceEq, ti3, ti4, ti5, ti36, ti37, ti42, ti44, ti48, ti51, w1, w2, w3, w4, w5, e2, ht, hack, hdue, List.length_map]
              subst hgn
              have hb2 : (decide (hour - 1 + (k : Int) ≥ hour) && !true) = false := by simp
              refine EX_for E cs.length (fun i => [(22, .i .i64 (((cs.take i).filter (fun c => c.town == town)).length)), (23, .i .i64 i)]) (fun _ => []) (fun _ => postH w (m + 1) 0 (wset town ⟨level, m + 1, hour, true⟩ es)) (fun _ => True) trivial ?_ (fun i hi _ => ?_)
              · simp only [go_sem, Nat.reduceAdd, Nat.reduceBEq, Nat.reduceMul, Nat.reduceLeDiff, List.take_zero, List.filter_nil, List.length_nil] <;> rfl
              · by_cases hil : i < cs.length
                · have f2 : decide ((i : Int) < cs.length) = true := by simp; omega
                  have fw := wrap64_succ hil (by omega)
                  have frow := row_map encCL cs i hil
                  have fnx := filter_next (fun c : CL => c.town == town) cs i hil
                  have fwx : IntKind.i64.wrap ((((cs.take i).filter (fun c => c.town == town)).length : Int) + 1) = ((((cs.take i).filter (fun c => c.town == town)).length + 1 : Nat) : Int) := by
                    have := List.length_filter_le (fun c : CL => c.town == town) (cs.take i)
                    rw [List.length_take] at this
                    rw [wrap64 (by omega) (by omega)]; omega
                  have hgi := hgot i hil
                  cases hti : (cs[i].town == town) with
                  | true =>
                    have hgi := hgi hti
                    rw [hti, if_pos rfl] at fnx
                    rw [hgi] at frow
                    simp only [encCL] at frow
                    rw [fnx]
                    simp -implicitDefEqProofs (maxSteps := 1000000) only [go_sem, Nat.reduceAdd, Nat.reduceBEq, Nat.reduceMul, Nat.reduceLeDiff, Int.reduceEq, ti3, ti4, ti5, ti36, ti37, ti42, ti44, ti48, ti51, f2, fw, fwx, frow, List.length_map, bne_self_eq_false]
                    exact ⟨hil, trivial, trivial⟩
                  | false =>
                    simp only [hti, Bool.false_eq_true, if_false, Nat.add_zero] at fnx
                    have hne : (cs[i].town != town) = true := by rw [bne, hti]; rfl
                    simp only [encCL] at frow
                    rw [fnx]
                    simp -implicitDefEqProofs (maxSteps := 1000000) only [go_sem, Nat.reduceAdd, Nat.reduceBEq, Nat.reduceMul, Nat.reduceLeDiff, Int.reduceEq, ti3, ti4, ti5, ti36, ti37, ti42, ti44, ti48, ti51, f2, fw, fwx, frow, List.length_map, hne]
                    exact ⟨hil, trivial, trivial⟩
                · have f2 : decide ((i : Int) < cs.length) = false := by simp; omega
                  have hin : i = cs.length := by omega
                  rw [hin] at f2
                  rw [hin, List.take_length]
                  have hwt := hwant
                  rw [hb2] at hlen
                  simp only [if_true, Bool.false_eq_true, if_false] at hlen
                  first
                  | (have hge : hour - 1 + (k : Int) ≥ hour := by
                      simp only [Bool.and_eq_true, decide_eq_true_eq] at hb2; exact hb2.1
                     have hwt := hwant hge
                     simp -implicitDefEqProofs (maxSteps := 1000000) only [go_sem, Nat.reduceAdd, Nat.reduceBEq, Nat.reduceMul, Nat.reduceLeDiff, Int.reduceEq, ti3, ti4, ti5, ti36, ti37, ti42, ti44, ti48, ti51, f2, w5, hwt, hlen, List.length_map, bne_self_eq_false]
                     exact ⟨hlt, trivial, trivial⟩)
                  | (simp -implicitDefEqProofs (maxSteps := 1000000) only [go_sem, Nat.reduceAdd, Nat.reduceBEq, Nat.reduceMul, Nat.reduceLeDiff, Int.reduceEq, ti3, ti4, ti5, ti36, ti37, ti42, ti44, ti48, ti51, f2, w5, hlen, List.length_map, bne_self_eq_false, Int.natCast_zero, Int.cast_ofNat_Int]
                     exact ⟨hlt, trivial, trivial⟩)
          · have e2 : decide ((hour - 1 + k) < hour + 60) = false := by simp; omega
            simp -implicitDefEqProofs (maxSteps := 1000000) only [go_sem, Nat.reduceAdd, Nat.reduceBEq, Nat.reduceMul, Nat.reduceLeDiff, Int.reduceEq, ti3, ti4, ti5, ti36, ti37, ti42, ti44, ti48, ti51, w2, e2]
  · have hnew := new_no w hw
    simp only [c7, Option.getD, Try.f7]
    simp -implicitDefEqProofs (maxSteps := 1000000) only [go_sem, Nat.reduceAdd, Nat.reduceBEq, Nat.reduceMul, Nat.reduceLeDiff, Int.reduceEq, ti3, ti4, ti5, ti36, ti37, ti42, ti44, ti48, ti51, h0, hnew, List.length_map]
end Go.Proofs.Ytdnhlbbbcallpaa
/- WardenClimbs -/
set_option autoImplicit false
set_option linter.unusedVariables false
namespace Go.Proofs.Ytdnhlbbbcallpaa
open Go.Ex Go.Proofs Go.ChangeShapes Go.WideShapes Go.ChangeAt Go.RowKit
set_option maxRecDepth 100000
theorem u8_range {n : Int} (h : (Lit.int .u8 n).wf = true) : 0 ≤ n ∧ n < 256 := by
  simp only [Lit.wf, Bool.and_eq_true, decide_eq_true_eq] at h
  have h1 : IntKind.u8.min = 0 := rfl
  have h2 : IntKind.u8.max = 255 := rfl
  omega
theorem wardenClimbs_contract (H : Type) (enc : TypeId × Value → H) (W : World) (base : Nat) (args : Array Value) (ds gs : List (DataW H)) (before : List MemPlace)
    (hval : ∀ (j : Nat) t v, Try.f7.params[j]? = some t → args[j]? = some v → Value.okWide Try.prog W .any base t v)
    (hW : DataW.Whole enc Try.prog Try.f7.params.toList Rows.wardenClimbsSpec.vars false W args.toList ds gs before) :
    Calls Try.prog 7 args W fun e W' => ∃ v, e = .returned v ∧ Rows.wardenClimbsSpec.post enc Try.prog Try.f7 false true false false W args v W' := by
  have hW' := hW
  obtain ⟨pp, qq, hA, _⟩ := hW'
  rw [Try.params7] at hA hval
  obtain ⟨v0, vs0, d0, ds0, p0, q0, ha0, hd0, hp0, h0, r0⟩ := trodAll_cons hA
  obtain ⟨v1, vs1, d1, ds1, p1, q1, ha1, hd1, hp1, h1, r1⟩ := trodAll_cons r0
  obtain ⟨v2, vs2, d2, ds2, p2, q2, ha2, hd2, hp2, h2, r2⟩ := trodAll_cons r1
  obtain ⟨v3, vs3, d3, ds3, p3, q3, ha3, hd3, hp3, h3, r3⟩ := trodAll_cons r2
  obtain ⟨v4, vs4, d4, ds4, p4, q4, ha4, hd4, hp4, h4, r4⟩ := trodAll_cons r3
  obtain ⟨v5, vs5, d5, ds5, p5, q5, ha5, hd5, hp5, h5, r5⟩ := trodAll_cons r4
  obtain ⟨v6, vs6, d6, ds6, p6, q6, ha6, hd6, hp6, h6, r6⟩ := trodAll_cons r5
  obtain ⟨e1, e2, e3⟩ := trodAll_nil r6
  have hargs : args.toList = [v0, v1, v2, v3, v4, v5, v6] := by rw [ha0, ha1, ha2, ha3, ha4, ha5, ha6, e1]
  have hav : ∀ j : Nat, args[j]? = [v0, v1, v2, v3, v4, v5, v6][j]? := fun j => by rw [← hargs, Array.getElem?_toList]
  obtain ⟨x0, o0, _, k0⟩ := rdv_int Try.underlying3 (hval 0 3 v0 rfl (hav 0)) h0 
  obtain ⟨x1, o1, _, k1⟩ := rdv_slice Try.underlying36 (hval 1 36 v1 rfl (hav 1)) h1 rd_WSs
  obtain ⟨x2, o2, _, k2⟩ := rdv_int Try.underlying3 (hval 2 3 v2 rfl (hav 2)) h2 
  obtain ⟨x3, o3, _, k3⟩ := rdv_int Try.underlying3 (hval 3 3 v3 rfl (hav 3)) h3 
  obtain ⟨x4, o4, _, k4⟩ := rdv_int Try.underlying3 (hval 4 3 v4 rfl (hav 4)) h4 
  obtain ⟨x5, o5, _, k5⟩ := rdv_int Try.underlying3 (hval 5 3 v5 rfl (hav 5)) h5 
  obtain ⟨x6, o6, _, k6⟩ := rdv_int Try.underlying5 (hval 6 5 v6 rfl (hav 6)) h6 
  obtain ⟨h', hr⟩ := FN_run (wardenClimbs_run x0 x1 x2 x3 x4 x5 x6 (u8_range o6))
  refine law_post (tb := 4) laid ?_ rfl Try.underlying4 (by kernel_rfl) ?_ hW (law_calls runOK (by rw [hargs]; exact VRs.cons k0 (VRs.cons k1 (VRs.cons k2 (VRs.cons k3 (VRs.cons k4 (VRs.cons k5 (VRs.cons k6 VRs.nil))))))) hr)
  · intro t ht
    rw [Try.params7] at ht
    have : t = 3 ∨ t = 36 ∨ t = 3 ∨ t = 3 ∨ t = 3 ∨ t = 3 ∨ t = 5 := by simpa using ht
    rcases this with rfl | rfl | rfl | rfl | rfl | rfl | rfl
    all_goals exact ⟨by kernel_rfl, of_decide_eq_true (by kernel_rfl)⟩
  · intro ds hl
    rw [Try.params7] at hl
    match ds, hl with
    | [a0, a1, a2, a3, a4, a5, a6], _ => rfl
theorem wardenClimbs_lifted (os : Os) (started : os.Started) (H : Type) (enc : TypeId × Value → H) :
    ReturnsInHanded {} Try.checked os 7 .any (Rows.wardenClimbsSpec.pre6 enc Try.prog Try.f7 Rows.wardenClimbsRow.domain false) (Rows.wardenClimbsSpec.post enc Try.prog Try.f7 false true false false) := by
  refine returnsInHanded_of_change (C := Try.checked) own started (by kernel_rfl) Try.func7
    (ChangeSpec.witness6 (enc := enc) (C := Try.checked) false ⟨#[], #[.int .i64 0, .slice none 0 0, .int .i64 0, .int .i64 0, .int .i64 0, .int .i64 0, .int .u8 0], []⟩ 8 (by kernel_rfl) (by kernel_rfl) (by kernel_rfl) (by kernel_rfl)) ?_
  intro W base args ds gs before hval hW _ _
  exact wardenClimbs_contract H enc W base args ds gs before hval hW
theorem wardenClimbs_holds : Rows.WardenClimbsSaid :=
  OpenClaim.holds_of_wide 7 Try.f7 rfl rfl rfl rfl rfl rfl rfl ⟨rfl, rfl, rfl, rfl, rfl⟩ rfl rfl rfl rfl rfl (by kernel_rfl) Try.func7 (by kernel_rfl)
    (of_decide_eq_true (by kernel_rfl)) (by unfold Func.isWrapper; first | (rw [if_pos (by decide +kernel)]; kernel_rfl) | (rw [if_neg (by decide +kernel)]; exact ⟨rfl, rfl⟩))
    (fun os started H enc _ => wardenClimbs_lifted os started H enc)
#print axioms wardenClimbs_holds
end Go.Proofs.Ytdnhlbbbcallpaa
