/- The evaluator of this proof, part 12. -/
import Derived.Test.YtfghngkiephakaaEng11
import Derived.Scope
set_option linter.unnecessarySimpa false
set_option linter.unusedVariables false
set_option linter.unusedSimpArgs false
set_option linter.unusedSectionVars false
set_option linter.deprecated false
/- A region whose operations come in the order of their text. -/
set_option autoImplicit false
set_option linter.unusedVariables false
set_option linter.unusedSectionVars false
namespace Go.Ex
open Go.RowKit
section
variable {P : Program} {E : EP} (hT : ∀ t i, E.ti t = some i → TiOK P t i) (hX : ExtOK P E) (hN : EnterOK P E)
variable {Out : Nat → Prop} {N : Nat} {w0 : World} {g0 : List (Option Nat)} {H0 : List OB} {lam : Nat → Nat} {g : List (Option Nat)} {st st' : St} {a : Act} {w : World} {o : Oper}

theorem callF_plain {n : Nat} {f : FuncId} {args : List AV} {r : AV} (hm : ∀ fi, E.fn f = some fi → Nat.beq fi.mode 1 = true) (hc : callF E n f args st = some (r, st')) : st' = st := by
  cases n with
  | zero => simp [callF] at hc
  | succ n =>
    rw [callF] at hc
    cases hf : E.fn f with
    | some fi =>
      simp only [hf] at hc
      have h1 : fi.mode = 1 := Nat.eq_of_beq_eq_true (hm fi hf)
      rw [h1] at hc
      have h0 : Nat.beq 1 0 = false := rfl
      rw [h0] at hc
      simp only [cond_false] at hc
      repeat' split at hc
      all_goals first
        | (cases hc; done)
        | (simp only [result] at hc
           split at hc
           · obtain ⟨_, hc⟩ := bif_some hc; cases hc; rfl
           · cases hc)
    | none =>
      simp only [hf] at hc
      repeat' split at hc
      all_goals first
        | (cases hc; done)
        | (have hq := bif_some hc; clear hc; obtain ⟨_, hc⟩ := hq; cases hc; rfl)

theorem runOp_plain {n : Nat} {cfg : Cfg} {gw : Nat × Bool} {x : TV} (hp : plainOp cfg o = true) (hr : runOp E n cfg (some gw) o st = some (x, st')) : st' = st := by
  cases n with
  | zero => simp [runOp] at hr
  | succ n =>
    rw [runOp] at hr
    split at hr
    · split at hr
      · cases hr; rfl
      · cases hr
    · rename_i c hop
      split at hr
      · split at hr
        · split at hr
          · split at hr
            · rename_i r st1 hc
              simp only at hr
              split at hr
              · rename_i fi hf
                have hq := bif_some hr
                clear hr
                obtain ⟨hb, hr⟩ := hq
                cases hr
                exact callF_plain (fun fi' hf' => by rw [hf] at hf'; cases hf'; exact hb) hc
              · rename_i hf
                cases hr
                exact callF_plain (fun fi' hf' => by rw [hf] at hf'; cases hf') hc
            · cases hr
          · cases hr
        · cases hr
      · exact plain_same hp hr
    · exact plain_same hp hr

theorem stepOp_vals {cfg : Cfg} {gd : Gd} {x : TV} (hs : stepOp E cfg gd o st = some (x, st')) : st'.vals = st.vals ∧ st'.tl = st.tl := by
  have hst : ∀ {t y p st1}, storeAt E t st y p = some st1 → st1.vals = st.vals ∧ st1.tl = st.tl := by
    intro t y p st1 h
    unfold storeAt at h
    repeat' split at h
    all_goals first
      | (cases h; done)
      | (have hq := bif_some h; clear h; obtain ⟨_, h⟩ := hq; repeat' split at h
         all_goals first | (cases h; done) | (cases h; exact ⟨rfl, rfl⟩))
  have hap : ∀ {n b base new st1 v}, appendAV n b st base new = some (st1, v) → st1.vals = st.vals ∧ st1.tl = st.tl := by
    intro n b base new st1 v h
    unfold appendAV at h
    split at h
    · rcases bif_two h with ⟨_, h⟩ | ⟨_, h⟩
      · cases h; exact ⟨rfl, rfl⟩
      · obtain ⟨_, h⟩ := bif_some h; cases h; exact ⟨rfl, rfl⟩
    · split at h
      · have hq := bif_some h; clear h; obtain ⟨_, h⟩ := hq
        revert h
        cases Nat.beq _ _ with
        | true => intro h; cases h; exact ⟨rfl, rfl⟩
        | false =>
          intro h
          have hq := bif_some (show (bif _ then some _ else none) = _ from h)
          cases hq.2; exact ⟨rfl, rfl⟩
      · cases h
    · cases h
  have hcp : ∀ {n dst new st1 v}, copyAV n st dst new = some (st1, v) → st1.vals = st.vals ∧ st1.tl = st.tl := by
    intro n dst new st1 v h
    unfold copyAV at h
    split at h
    · split at h
      · have hq := bif_some h; clear h; obtain ⟨_, h⟩ := hq; cases h; exact ⟨rfl, rfl⟩
      · cases h
    · cases h
  by_cases hp : plainOp cfg o = true
  · rw [plain_same hp hs]; exact ⟨rfl, rfl⟩
  · unfold stepOp at hs
    unfold plainOp at hp
    cases hop : o.op <;> simp only [hop] at hs hp <;> first | exact (hp trivial).elim | exact (hp rfl).elim | (cases hs; done) | skip
    all_goals
      (try simp only [cond_eq_ite] at hs)
      repeat' split at hs
      all_goals first
        | (cases hs; done)
        | (cases hs; exact ⟨rfl, rfl⟩)
        | (cases hs; exact hst (by assumption))
        | (cases hs; exact hap (by assumption))
        | (cases hs; exact hcp (by assumption))
        | skip

theorem callF_vals {n : Nat} {f : FuncId} {args : List AV} {r : AV} (hc : callF E n f args st = some (r, st')) : st'.vals = st.vals ∧ st'.tl = st.tl := by
  cases n with
  | zero => simp [callF] at hc
  | succ n =>
    rw [callF] at hc
    have hres : ∀ {mode dirty r v h' st1}, result mode dirty r h' st = some (v, st1) → st1.vals = st.vals ∧ st1.tl = st.tl := by
      intro mode dirty r v h' st1 h
      unfold result at h
      repeat' split at h
      all_goals first
        | (cases h; done)
        | (have hq := bif_some h; clear h; obtain ⟨_, h⟩ := hq; cases h; exact ⟨rfl, rfl⟩)
    cases hf : E.fn f with
    | some fi =>
      simp only [hf] at hc
      cases hm : Nat.beq fi.mode 0 with
      | true =>
        simp only [hm, cond_true] at hc
        split at hc
        · cases hc; exact ⟨rfl, rfl⟩
        · cases hc
      | false =>
        simp only [hm, cond_false] at hc
        split at hc
        · split at hc
          · exact hres hc
          · cases hc
        · cases hc
    | none =>
      simp only [hf] at hc
      repeat' split at hc
      all_goals first
        | (cases hc; done)
        | (have hq := bif_some hc; clear hc; obtain ⟨_, hc⟩ := hq; cases hc; exact ⟨rfl, rfl⟩)

theorem runOp_vals {n : Nat} {cfg : Cfg} {gd : Gd} {x : TV} (hr : runOp E n cfg gd o st = some (x, st')) : st'.vals = st.vals ∧ st'.tl = st.tl := by
  cases n with
  | zero => simp [runOp] at hr
  | succ n =>
    rw [runOp] at hr
    split at hr
    · split at hr
      · cases hr; exact ⟨rfl, rfl⟩
      · cases hr
    · split at hr
      · split at hr
        · split at hr
          · split at hr
            · rename_i r st1 hc
              cases gd with
              | none => cases hr; exact callF_vals hc
              | some gw =>
                simp only at hr
                split at hr
                · have hq := bif_some hr; cases hq.2; exact callF_vals hc
                · cases hr; exact callF_vals hc
            · cases hr
          · cases hr
        · cases hr
      · exact stepOp_vals hr
    · exact stepOp_vals hr

include hT hX hN in
/-- an operation that may call -/
theorem runOp_ok {n : Nat} (hR : ∀ j, j < n → RunOK P E j) (h : FR Out N w0 g0 H0 lam g st a w) {gd : Gd} (hm : Met a gd) {cfg : Cfg} {x : TV} (hr : runOp E n cfg gd o st = some (x, st')) : OpWP P Out N w0 g0 H0 st a w o x st' := by
  cases n with
  | zero => simp [runOp] at hr
  | succ n =>
    rw [runOp] at hr
    split at hr
    · rename_i c y z hop
      split at hr
      · rename_i v hv
        cases hr
        exact (op_pick (P := P) h hm hop hv).wp
      · cases hr
    · rename_i c hop
      split at hr
      · rename_i y hcal
        split at hr
        · rename_i f caps hf
          split at hr
          · rename_i vs hvs
            split at hr
            · rename_i r st1 hc
              have hres : x = .v r ∧ st' = st1 := by
                cases gd with
                | none => cases hr; exact ⟨rfl, rfl⟩
                | some gw =>
                  simp only at hr
                  split at hr
                  · have hq := bif_some hr; cases hq.2; exact ⟨rfl, rfl⟩
                  · cases hr; exact ⟨rfl, rfl⟩
              obtain ⟨rfl, rfl⟩ := hres
              have hfv := h.getA hm hf
              have hav := h.getAs hm hvs
              generalize hyv : a.eval y = yv at hfv
              cases hfv with
              | fn _ _ cvs hlen hcv =>
                have hall : VRs (MuOf Out lam st.locs g) w st.heap g (vs ++ caps) (c.args.toList.map a.eval ++ cvs) := hav.append ⟨hlen, hcv⟩
                cases n with
                | zero => simp [callF] at hc
                | succ n =>
                  have harr : (c.args.toList.map a.eval ++ cvs).toArray = c.args.map a.eval ++ cvs.toArray := by
                    rw [← Array.toList_inj]; simp
                  rcases call_ok (hR n (by omega)) hX hN h hall hc with ⟨k1, k2⟩ | ⟨rfl, v, k1, k2⟩
                  rotate_left
                  · have hrun : (execOp a.eval o).run P w = .ok (.value v) w := by
                      rw [harr] at k1
                      unfold execOp
                      simp only [hop, resolve, hcal, hyv, Deferred.ofValue, Sem.run_bind, Sem.run_pure, Result.andThen_ok, invoke]
                      simpa using k1
                    exact (OpRes.same (x := .v r) h hrun k2).wp
                  intro K Q hK
                  unfold Oper.wp
                  have hrun : (execOp a.eval o).run P w = .ok (.enter f (c.args.map a.eval ++ cvs.toArray)) w := by
                    rw [harr] at k1
                    unfold execOp
                    simp only [hop, resolve, hcal, hyv, Deferred.ofValue, Sem.run_bind, Sem.run_pure, Result.andThen_ok, invoke]
                    simpa using k1
                  rw [hrun, Oper.upon_enter, ← harr]
                  exact k2 _ fun v w' lam' g' hvr hfr => hK v w' lam' g' hvr hfr
            · cases hr
          · cases hr
        · cases hr
      · exact (step_ok hT h hm hr).wp
    · exact (step_ok hT h hm hr).wp

/-- what is asked of a region's operations -/
def regChk (N : Nat) : List Oper → List Nat → Nat → Bool
  | [], _, _ => true
  | o :: r, D, i => (match o.guard with | none => true | some (j, _) => Nat.blt j i) && (match o.dst with | none => true | some t => Nat.blt t N && !elemN D t) &&
      regChk N r (match o.dst with | none => D | some t => t :: D) (i + 1)

theorem wanted_none {ops : Array Oper} (hg : o.guard = none) : Region.wanted o (yielded ops a.tmps) = true := by unfold Region.wanted; rw [hg]

theorem guardOf_some {all : List Oper} {t : Nat} {b : Bool} (h : guardOf all o = some (some (t, b))) : ∃ j oj, o.guard = some (j, b) ∧ all[j]? = some oj ∧ oj.dst = some t := by
  unfold guardOf at h
  split at h
  · cases h
  · rename_i j w hg
    split at h
    · rename_i oj hj
      split at h
      · rename_i t' ht
        cases h
        rw [nth_eq] at hj
        exact ⟨j, oj, hg, hj, ht⟩
      · cases h
    · cases h

theorem guardOf_none {all : List Oper} (h : guardOf all o = some none) : o.guard = none := by
  unfold guardOf at h
  split at h
  · rename_i hg; exact hg
  · repeat' split at h
    all_goals first | (cases h; done) | skip

/-- the dsts of the operations that have been carried out -/
def dstsOf (l : List Oper) : List Nat := l.filterMap (·.dst)

theorem dsts_append (l : List Oper) (o : Oper) : dstsOf (l ++ [o]) = dstsOf l ++ o.dst.toList := by
  unfold dstsOf
  rw [List.filterMap_append]
  cases h : o.dst <;> simp [h]

theorem elemN_not {D : List Nat} {t : Nat} (h : (!elemN D t) = true) : t ∉ D := fun hm => by
  rw [Bool.not_eq_true'] at h
  rw [(elemN_eq D t).2 hm] at h; cases h

theorem guard_cases {ops : Array Oper} {t : Nat} {b : Bool} (hN' : t < a.tmps.size) (hgo : guardOf ops.toList o = some (some (t, b))) : Region.wanted o (yielded ops a.tmps) = true ↔ a.tmps.getD t undef = .bool b := by
  obtain ⟨j, oj, h1, h2, h3⟩ := guardOf_some hgo
  have h2' : ops[j]? = some oj := by simpa using h2
  unfold Region.wanted
  rw [h1]
  exact yielded_iff h2' h3 hN' b

include hT hX hN in
/-- operations in the order of their text -/
theorem runOps_ok {n : Nat} (hR : ∀ j, j < n → RunOK P E j) {cfg : Cfg} {kp : List Nat} {fork : Bool} {ops : Array Oper} {Q : Exit → Act → World → Prop} : ∀ {l : List Oper} {m : Nat} {pre : List Oper} {D : List Nat} {st st' : St} {a : Act} {w : World} {lam : Nat → Nat} {g : List (Option Nat)},
    m ≤ n → runOps E m cfg kp fork ops.toList l st = some st' → pre ++ l = ops.toList → regChk N l D pre.length = true → (∀ t, t ∈ dstsOf pre ↔ t ∈ D) → (∀ t ∈ D, t < N) → TlOK st (dstsOf pre) → FR Out N w0 g0 H0 lam g st a w →
    (∀ a' w' lam' g', FR Out N w0 g0 H0 lam' g' st' a' w' → Q .normal a' w') → wpOps P ops Q (List.range' pre.length l.length) a w
  | [], 0, pre, D, st, st', a, w, lam, g, _, hr, _, _, _, _, _, _, _ => by simp [runOps] at hr
  | [], m + 1, pre, D, st, st', a, w, lam, g, _, hr, _, _, _, _, _, h, hQ => by
    rw [runOps] at hr
    cases hr
    exact hQ a w lam g h
  | o :: l, 0, pre, D, st, st', a, w, lam, g, _, hr, _, _, _, _, _, _, _ => by simp [runOps] at hr
  | o :: l, m + 1, pre, D, st, st', a, w, lam, g, hmn, hr, hall, hchk, hD, hDN, htl, h, hQ => by
    have hget : ops[pre.length]? = some o := by
      rw [← Array.getElem?_toList, ← hall, List.getElem?_append_right (Nat.le_refl _), Nat.sub_self]; rfl
    have hall' : (pre ++ [o]) ++ l = ops.toList := by rw [← hall]; simp
    have hlen' : (pre ++ [o]).length = pre.length + 1 := by simp
    simp only [regChk, Bool.and_eq_true] at hchk
    obtain ⟨⟨c1, c2⟩, c3⟩ := hchk
    have hd : ∀ t, o.dst = some t → t < N ∧ t ∉ dstsOf pre := fun t ht => by
      rw [ht] at c2
      simp only [Bool.and_eq_true] at c2
      exact ⟨ltN.1 c2.1, fun hm => elemN_not c2.2 ((hD t).1 hm)⟩
    have hD' : ∀ t, t ∈ dstsOf (pre ++ [o]) ↔ t ∈ (match o.dst with | none => D | some t => t :: D) := fun t => by
      rw [dsts_append, List.mem_append, hD]
      cases ho : o.dst with
      | none => simp
      | some u => simp; exact Or.comm
    have hDN' : ∀ t ∈ (match o.dst with | none => D | some t => t :: D), t < N := fun t ht => by
      cases ho : o.dst with
      | none => rw [ho] at ht; exact hDN t ht
      | some u =>
        rw [ho] at ht
        rcases List.mem_cons.1 ht with rfl | ht
        · exact (hd _ ho).1
        · exact hDN t ht
    have hR' : ∀ j, j < m → RunOK P E j := fun j hj => hR j (by omega)
    rw [List.length_cons, List.range'_succ, wpOps_cons]
    unfold Go.wpOp
    rw [hget]
    simp only
    -- what comes behind
    have next : ∀ {st1 : St} {a1 : Act} {w1 : World} {lam1 : Nat → Nat} {g1 : List (Option Nat)}, runOps E m cfg kp fork ops.toList l st1 = some st' → FR Out N w0 g0 H0 lam1 g1 st1 a1 w1 → TlOK st1 (dstsOf pre ++ o.dst.toList) → wpOps P ops Q (List.range' (pre.length + 1) l.length) a1 w1 := by
      intro st1 a1 w1 lam1 g1 hr1 hf1 ht1
      have := runOps_ok hR (pre := pre ++ [o]) (by omega) hr1 hall' (by rw [hlen']; exact c3) hD' hDN' (by rw [dsts_append]; exact ht1) hf1 hQ
      rwa [hlen'] at this
    rw [runOps] at hr
    cases hgo : guardOf ops.toList o with
    | none => simp [hgo] at hr
    | some gd =>
      cases gd with
      | none =>
        simp only [hgo] at hr
        rw [if_pos (wanted_none (guardOf_none hgo))]
        refine Or.inl ?_
        cases ho : runOp E m cfg none o st with
        | none => simp [ho] at hr
        | some p =>
          obtain ⟨x, st1⟩ := p
          simp only [ho] at hr
          refine runOp_ok hT hX hN hR' h (gd := none) trivial ho _ _ fun v w' lam' g' hx hf => ?_
          have htl1 : TlOK st1 (dstsOf pre) := fun u gd y hy => htl u gd y ((runOp_vals ho).2 ▸ hy)
          obtain ⟨p1, p2⟩ := putTV_ok (kp := kp) hf htl1 hd hx
          exact next hr p1 p2
      | some tb =>
        obtain ⟨t, b⟩ := tb
        simp only [hgo] at hr
        obtain ⟨jg, oj, q1, q2, q3⟩ := guardOf_some hgo
        have htD : t ∈ dstsOf pre := by
          rw [q1] at c1
          have hj := ltN.1 c1
          rw [← hall, List.getElem?_append_left hj] at q2
          exact List.mem_filterMap.2 ⟨oj, List.mem_of_getElem? q2, q3⟩
        have htN : t < a.tmps.size := Nat.lt_of_lt_of_le (hDN t ((hD t).1 htD)) h.size
        have hw := guard_cases (a := a) htN hgo
        -- not carried out
        have skip : ¬ a.tmps.getD t undef = .bool b → runOps E m cfg kp fork ops.toList l (putTV kp o.dst (.v (.tp [])) st) = some st' → (if Region.wanted o (yielded ops a.tmps) = true then o.wp P a w (wpOps P ops Q (List.range' (pre.length + 1) l.length)) Q ∨ o.asks P a w ∧ LetsOut Q else wpOps P ops Q (List.range' (pre.length + 1) l.length) (a.put o.dst undef) w) := by
          intro hnb hr1
          rw [if_neg (fun e => hnb (hw.1 e))]
          obtain ⟨p1, p2⟩ := putTV_ok (kp := kp) (x := .v (.tp [])) (v := undef) h htl hd vr_unit
          exact next hr1 p1 p2
        cases fork with
        | true =>
          simp only at hr
          split at hr
          · rename_i x hx
            have hxv := h.getG (gd := none) trivial hx
            simp only [TR] at hxv
            generalize htv : a.tmps.getD t undef = tv at hxv
            cases hxv
            cases hxb : (x == b) with
            | true =>
              rw [hxb] at hr
              simp only [cond_true] at hr
              have e : x = b := by simpa using hxb
              rw [if_pos (hw.2 (by rw [htv, e]))]
              refine Or.inl ?_
              cases ho : runOp E m cfg none o st with
              | none => simp [ho] at hr
              | some p =>
                obtain ⟨y, st1⟩ := p
                simp only [ho] at hr
                refine runOp_ok hT hX hN hR' h (gd := none) trivial ho _ _ fun v w' lam' g' hx hf => ?_
                have htl1 : TlOK st1 (dstsOf pre) := fun u gd y hy => htl u gd y ((runOp_vals ho).2 ▸ hy)
                obtain ⟨p1, p2⟩ := putTV_ok (kp := kp) hf htl1 hd hx
                exact next hr p1 p2
            | false =>
              rw [hxb] at hr
              simp only [cond_false] at hr
              refine skip (fun e => ?_) hr
              rw [htv] at e
              cases e
              simp at hxb
          · rename_i hx
            have hxv := h.getG (gd := none) trivial hx
            simp only [TR] at hxv
            generalize htv : a.tmps.getD t undef = tv at hxv
            cases hxv
            exact skip (fun e => by rw [htv] at e; cases e) hr
          · cases hr
        | false =>
          simp only at hr
          cases hp : plainOp cfg o with
          | false => simp [hp] at hr
          | true =>
            simp only [hp] at hr
            cases ho : runOp E m cfg (some (t, b)) o st with
            | none => simp [ho] at hr
            | some p =>
              obtain ⟨y, st1⟩ := p
              simp only [ho] at hr
              have hst1 := runOp_plain hp ho
              subst hst1
              cases hpc : putC kp o.dst (t, b) y st1 with
              | none => simp [hpc] at hr
              | some st2 =>
                simp only [hpc] at hr
                by_cases hb : a.tmps.getD t undef = .bool b
                · rw [if_pos (hw.2 hb)]
                  refine Or.inl (runOp_ok hT hX hN hR' h (gd := some (t, b)) hb ho _ _ fun v w' lam' g' hx hf => ?_)
                  obtain ⟨p1, p2⟩ := putC_ok hf htl hd htD (fun _ => hx) hpc
                  exact next hr p1 p2
                · rw [if_neg (fun e => hb (hw.1 e))]
                  obtain ⟨p1, p2⟩ := putC_ok (gw := (t, b)) (v := undef) h htl hd htD (fun hm => (hb hm).elim) hpc
                  exact next hr p1 p2

end
end Go.Ex
/- Bodies. -/
set_option autoImplicit false
set_option linter.unusedVariables false
set_option linter.unusedSectionVars false
namespace Go.Ex
open Go.RowKit

theorem alook_keep {α β : Type} {old : List (Nat × α)} {t : Nat} {x : β} : ∀ {L : List (Nat × β)}, alook (keepK old L) t = some x → alook L t = some x
  | [], h => h
  | (k, y) :: r, h => by
    simp only [keepK] at h
    by_cases hk : k = t
    · subst hk
      simp only [alook, Nat.beq_refl, cond_true]
      cases ho : hasK old k with
      | true => rw [ho] at h; simpa [alook] using h
      | false =>
        rw [ho] at h
        simp only [cond_false] at h
        have : ∀ {L : List (Nat × β)}, alook (keepK old L) k = none := by
          intro L
          induction L with
          | nil => rfl
          | cons e L ih =>
            obtain ⟨k', y'⟩ := e
            simp only [keepK]
            cases ho' : hasK old k' with
            | false => exact ih
            | true =>
              simp only [cond_true, alook]
              rw [nbF (fun e => by rw [e, ho] at ho'; cases ho')]
              exact ih
        rw [this] at h; cases h
    · simp only [alook, nbF hk, cond_false]
      cases ho : hasK old k with
      | true => rw [ho] at h; simp only [cond_true, alook, nbF hk, cond_false] at h; exact alook_keep h
      | false => rw [ho] at h; exact alook_keep h

/-- how a body ends -/
def exOf : Ec → Exit
  | .norm => .normal
  | .exit id => .exit id
  | .ret => .ret

/-- what is asked of a body; dr: of the regions that ask the tape -/
def codeChk (N : Nat) (dr : Nat → Array Oper → Bool) : Code → Bool
  | .skip => true
  | .ret => true
  | .exit _ => true
  | .region id ops draw => regChk N ops.toList [] 0 && (!draw || dr id ops)
  | .seq a b => codeChk N dr a && codeChk N dr b
  | .cond _ a b => codeChk N dr a && codeChk N dr b
  | .block _ c => codeChk N dr c
  | .loop c => codeChk N dr c
  | .scope c => codeChk N dr c
  | _ => false

section
variable {P : Program} {E : EP} (hT : ∀ t i, E.ti t = some i → TiOK P t i) (hX : ExtOK P E) (hN : EnterOK P E)
variable {Out : Nat → Prop} {N : Nat} {w0 : World} {g0 : List (Option Nat)} {H0 : List OB}

/-- fewer temporaries, fewer local variables -/
theorem FR.shrink {lam : Nat → Nat} {g : List (Option Nat)} {st : St} {a : Act} {w : World} (h : FR Out N w0 g0 H0 lam g st a w) {α β : Type} (vs : List (Nat × α)) (ls : List (Nat × β)) : FR Out N w0 g0 H0 lam g ⟨keepK vs st.vals, keepK ls st.locs, st.heap, []⟩ a w := by
  have hs : Same (MuOf Out lam st.locs g) (MuOf Out lam (keepK ls st.locs) g) w w := by
    intro b _ hm
    refine ⟨?_, rfl⟩
    rintro (h1 | ⟨l, cs, h1, h2⟩ | h1)
    · exact hm (Or.inl h1)
    · exact hm (Or.inr (Or.inl ⟨l, cs, alook_keep h1, h2⟩))
    · exact hm (Or.inr (Or.inr h1))
  have he := Ext.refl w st.heap g
  have hr : ∀ x v, VR (MuOf Out lam st.locs g) w st.heap g x v → VR (MuOf Out lam (keepK ls st.locs) g) w st.heap g x v := fun x v hv => VR.mono hs hv he
  exact h.change (st' := ⟨keepK vs st.vals, keepK ls st.locs, st.heap, []⟩) hs he (fun t x hx => ⟨keepK_sub.subset hx, fun _ _ _ => rfl⟩) ⟨Sorted.sub h.vnd.1 keepK_sub, List.Pairwise.nil⟩ (fun t gd x hx => by simp at hx)
    (fun l cs hl => (h.locs l cs (alook_keep hl)).mono rfl hr) (fun l l' c c' h1 h2 e => h.locInj l l' c c' (alook_keep h1) (alook_keep h2) e) (fun l cs hl => h.locNew l cs (alook_keep hl))
    ⟨h.heap.len, fun o ob ho => (h.heap.obj o ob ho).mono (fun b hb => rfl) hr, h.heap.inj, h.heap.lt⟩ h.gOut h.gNew h.keep

/-- regions that ask the tape, within n of fuel -/
def DrawOK (P : Program) (E : EP) (dr : Nat → Array Oper → Bool) (Out : Nat → Prop) (N : Nat) (w0 : World) (g0 : List (Option Nat)) (H0 : List OB) (cfg : Cfg) (n : Nat) : Prop :=
  ∀ (id : Nat) (ops : Array Oper) (m : Nat) (st st' : St) (a : Act) (w : World) (lam : Nat → Nat) (g : List (Option Nat)) (Q : Exit → Act → World → Prop), m ≤ n → dr id ops = true → regChk N ops.toList [] 0 = true → st.tl = [] → drawChk cfg ops.toList st.vals st.locs = true →
    runOps E m cfg (kpOf cfg id) (elemN cfg.fork id) ops.toList ops.toList st = some st' → FR Out N w0 g0 H0 lam g st a w → (∀ a' w' lam' g', FR Out N w0 g0 H0 lam' g' st' a' w' → Q .normal a' w') → (Code.region id ops true).wp P Q a w

include hT hX hN in
theorem exec_ok {n : Nat} (hR : ∀ j, j < n → RunOK P E j) {cfg : Cfg} {dr : Nat → Array Oper → Bool} (hdr : DrawOK P E dr Out N w0 g0 H0 cfg n) : ∀ {m : Nat} {c : Code} {st st' : St} {ec : Ec} {a : Act} {w : World} {lam : Nat → Nat} {g : List (Option Nat)} {Q : Exit → Act → World → Prop},
    m ≤ n → exec E m cfg c st = some (ec, st') → codeChk N dr c = true → FR Out N w0 g0 H0 lam g st a w → (∀ a' w' lam' g', FR Out N w0 g0 H0 lam' g' st' a' w' → Q (exOf ec) a' w') → c.wp P Q a w ∧ ∀ b, c = .loop b → Code.rounds P b Q m a w
  | 0, c, st, st', ec, a, w, lam, g, Q, _, he, _, _, _ => by simp [exec] at he
  | m + 1, c, st, st', ec, a, w, lam, g, Q, hm, he, hc, h, hQ => by
    have ih := fun {c : Code} {st st' : St} {ec : Ec} {a : Act} {w : World} {lam : Nat → Nat} {g : List (Option Nat)} {Q : Exit → Act → World → Prop} => exec_ok hR hdr (m := m) (c := c) (st := st) (st' := st') (ec := ec) (a := a) (w := w) (lam := lam) (g := g) (Q := Q) (by omega)
    cases c with
    | skip =>
      rw [exec] at he
      cases he
      exact ⟨wp_skip (hQ a w lam g h), fun b e => by cases e⟩
    | ret =>
      rw [exec] at he
      cases he
      exact ⟨wp_ret (hQ a w lam g h), fun b e => by cases e⟩
    | exit id =>
      rw [exec] at he
      cases he
      exact ⟨wp_exit (hQ a w lam g h), fun b e => by cases e⟩
    | region id ops draw =>
      rw [exec] at he
      refine ⟨?_, fun b e => by cases e⟩
      simp only [codeChk, Bool.and_eq_true] at hc
      cases hd : (!draw || drawChk cfg ops.toList st.vals st.locs) with
      | false => simp [hd] at he
      | true =>
      simp only [hd] at he
      cases hr : runOps E m cfg (kpOf cfg id) (elemN cfg.fork id) ops.toList ops.toList { st with tl := [] } with
      | none => simp [hr] at he
      | some st1 =>
        simp only [hr] at he
        cases he
        cases draw with
        | true => exact hdr id ops m { st with tl := [] } _ a w lam g Q (by omega) (by simpa using hc.2) hc.1 rfl (by simpa using hd) hr h.clear hQ
        | false =>
          refine wp_region ?_
          have := runOps_ok hT hX hN hR (ops := ops) (l := ops.toList) (pre := []) (D := []) (Q := Q) (show m ≤ n by omega) hr rfl hc.1 (fun t => by simp [dstsOf]) (fun t ht => by simp at ht) (fun t gd y hy => by simp at hy) h.clear hQ
          rw [List.range_eq_range']
          simpa using this
    | seq c1 c2 =>
      rw [exec] at he
      simp only [codeChk, Bool.and_eq_true] at hc
      refine ⟨wp_seq ?_, fun b e => by cases e⟩
      cases h1 : exec E m cfg c1 st with
      | none => simp [h1] at he
      | some p =>
        obtain ⟨e1, st1⟩ := p
        rw [h1] at he
        cases e1 with
        | norm => exact (ih h1 hc.1 h fun a' w' lam' g' hf => (ih he hc.2 hf hQ).1).1
        | exit id => cases he; exact (ih (Q := Exit.then (c2.wp P Q) Q) h1 hc.1 h fun a' w' lam' g' hf => hQ a' w' lam' g' hf).1
        | ret => cases he; exact (ih (Q := Exit.then (c2.wp P Q) Q) h1 hc.1 h fun a' w' lam' g' hf => hQ a' w' lam' g' hf).1
    | cond x c1 c2 =>
      rw [exec] at he
      simp only [codeChk, Bool.and_eq_true] at hc
      refine ⟨?_, fun b e => by cases e⟩
      split at he
      · rename_i hx
        have hxv := h.getA (gd := none) trivial hx
        generalize hv : a.eval x = v at hxv
        cases hxv
        exact wp_cond_true hv (ih he hc.1 h hQ).1
      · rename_i hx
        have hxv := h.getA (gd := none) trivial hx
        generalize hv : a.eval x = v at hxv
        cases hxv
        exact wp_cond_false hv (ih he hc.2 h hQ).1
      · cases he
    | block id c1 =>
      rw [exec] at he
      simp only [codeChk] at hc
      refine ⟨wp_block ?_, fun b e => by cases e⟩
      cases h1 : exec E m cfg c1 st with
      | none => simp [h1] at he
      | some p =>
        obtain ⟨e1, st1⟩ := p
        rw [h1] at he
        cases e1 with
        | norm => cases he; exact (ih (Q := Exit.inBlock id Q) h1 hc h fun a' w' lam' g' hf => hQ a' w' lam' g' hf).1
        | ret => cases he; exact (ih (Q := Exit.inBlock id Q) h1 hc h fun a' w' lam' g' hf => hQ a' w' lam' g' hf).1
        | exit j =>
          simp only at he
          refine (ih h1 hc h fun a' w' lam' g' hf => ?_).1
          show Exit.inBlock id Q (.exit j) a' w'
          unfold Exit.inBlock
          by_cases hj : j = id
          · subst hj
            simp only [Nat.beq_refl, cond_true] at he
            cases he
            simp only [if_true]
            exact hQ a' w' lam' g' hf
          · rw [nbF hj] at he
            cases he
            simp only [if_neg hj]
            exact hQ a' w' lam' g' hf
    | loop c1 =>
      rw [exec] at he
      have hc' := hc
      simp only [codeChk] at hc
      have key : Code.rounds P c1 Q (m + 1) a w := by
        rw [rounds_succ]
        cases h1 : exec E m cfg c1 { st with tl := [] } with
        | none => simp [h1] at he
        | some p =>
          obtain ⟨e1, st1⟩ := p
          rw [h1] at he
          cases e1 with
          | norm =>
            simp only at he
            exact (ih h1 hc h.clear fun a' w' lam' g' hf => (ih he hc' (hf.shrink st.vals st.locs) hQ).2 c1 rfl).1
          | exit id => cases he; exact (ih (Q := Exit.then (Code.rounds P c1 Q m) Q) h1 hc h.clear fun a' w' lam' g' hf => hQ a' w' lam' g' hf).1
          | ret => cases he; exact (ih (Q := Exit.then (Code.rounds P c1 Q m) Q) h1 hc h.clear fun a' w' lam' g' hf => hQ a' w' lam' g' hf).1
      exact ⟨wp_loop_rounds (m + 1) key, fun b e => by cases e; exact key⟩
    | scope c1 =>
      rw [exec] at he
      simp only [codeChk] at hc
      refine ⟨wp_scope_straight ?_, fun b e => by cases e⟩
      refine (ih he hc h fun a' w' lam' g' hf => ?_).1
      have := hQ a' w' lam' g' hf
      cases ec <;> exact this
    | rangeFunc f ps c1 c2 => simp [exec] at he
    | label l => simp [exec] at he
    | goto l => simp [exec] at he
    | refuse s => simp [exec] at he

end
end Go.Ex
/- Functions. -/
set_option autoImplicit false
set_option linter.unusedVariables false
set_option linter.unusedSectionVars false
namespace Go.Ex
open Go.RowKit

theorem argVals_mem : ∀ {args : List AV} {n t : Nat} {x : TV}, (t, x) ∈ argVals n args → ∃ y, x = .v y ∧ n ≤ t ∧ args[t - n]? = some y
  | [], n, t, x, h => by simp [argVals] at h
  | a :: args, n, t, x, h => by
    simp only [argVals] at h
    rcases List.mem_append.1 h with h | e
    · obtain ⟨y, h1, h2, h3⟩ := argVals_mem h
      refine ⟨y, h1, by omega, ?_⟩
      have : t - n = (t - (n + 1)) + 1 := by omega
      rw [this, List.getElem?_cons_succ]; exact h3
    · have e' : (t, x) = (n, .v a) := by simpa using e
      cases e'; exact ⟨a, rfl, Nat.le_refl _, by simp⟩

theorem argVals_lt : ∀ {args : List AV} {n : Nat}, ∀ e ∈ argVals n args, n ≤ e.1
  | args, n, e, he => by
    obtain ⟨t, x⟩ := e
    obtain ⟨y, _, h2, _⟩ := argVals_mem he
    exact h2

theorem argVals_sorted : ∀ {args : List AV} {n : Nat}, Sorted (argVals n args)
  | [], n => List.Pairwise.nil
  | a :: args, n => by
    have ih := argVals_sorted (args := args) (n := n + 1)
    unfold Sorted at ih ⊢
    simp only [argVals, List.map_append, List.map_cons, List.map_nil]
    rw [List.pairwise_append]
    refine ⟨ih, by simp, fun x hx y hy => ?_⟩
    have hy' : y = n := by simpa using hy
    obtain ⟨e, he, rfl⟩ := List.mem_map.1 hx
    have := argVals_lt e he
    omega


section
variable {P : Program} {E : EP} (hT : ∀ t i, E.ti t = some i → TiOK P t i)
variable {Out : Nat → Prop} {N : Nat} {w0 : World} {g0 : List (Option Nat)} {H0 : List OB} {lam : Nat → Nat} {g : List (Option Nat)} {st : St} {a : Act} {w : World}

def resS (tmps : Array Value) : ResultVar → Sem Value
  | .tmp t => pure (tmps.getD t undef)
  | .cell a t => do loadVar t (← asAddr (tmps.getD a undef))

include hT in
theorem res_one (h : FR Out N w0 g0 H0 lam g st a w) {r : ResultVar} {x : AV} (hr : resA E st r = some x) : ∃ v, (resS a.tmps r).run P w = .ok v w ∧ VR (MuOf Out lam st.locs g) w st.heap g x v := by
  cases r with
  | tmp t =>
    have hr' : getA E 0 none st (.tmp t) = some x := hr
    have := h.getA (gd := none) trivial hr'
    exact ⟨a.tmps.getD t undef, by simp [resS], by simpa [Act.eval] using this⟩
  | cell c t =>
    simp only [resA] at hr
    cases hg : getG none st c with
    | none => simp [hg] at hr
    | some p =>
      simp only [hg] at hr
      have hp := h.getG (gd := none) trivial hg
      obtain ⟨v, h1, h2⟩ := load_ok hT h hp hr
      refine ⟨v, ?_, h2⟩
      have hpt : ∃ ad, a.tmps.getD c undef = .pointer (some ad) := by
        generalize a.tmps.getD c undef = u at hp
        cases p with
        | p l off => simp only [TR] at hp; exact ⟨_, hp⟩
        | v y =>
          simp only [TR] at hp
          cases y <;> simp only [loadAt] at hr <;> try (cases hr; done)
          · cases hp; exact ⟨_, rfl⟩
          · cases hp; exact ⟨_, rfl⟩
      obtain ⟨ad, had⟩ := hpt
      rw [had] at h1
      simp only [Instr.loadAt, Instr.sureAddr, Sem.run_bind, Sem.run_pure, Result.andThen_ok] at h1
      simp only [resS, Sem.run_bind, had, asAddr, Sem.run_pure, Result.andThen_ok, h1]

include hT in
theorem res_list (h : FR Out N w0 g0 H0 lam g st a w) : ∀ {rs : List ResultVar} {xs : List AV}, mapO (resA E st) rs = some xs → ∃ vs, (rs.mapM (resS a.tmps)).run P w = .ok vs w ∧ VRs (MuOf Out lam st.locs g) w st.heap g xs vs
  | [], xs, hx => by simp only [mapO, Option.some.injEq] at hx; subst hx; exact ⟨[], by simp, VRs.nil⟩
  | r :: rs, xs, hx => by
    simp only [mapO] at hx
    cases h1 : resA E st r with
    | none => simp [h1] at hx
    | some x =>
      simp only [h1] at hx
      cases h2 : mapO (resA E st) rs with
      | none => simp [h2] at hx
      | some ys =>
        simp only [h2, Option.some.injEq] at hx
        subst hx
        obtain ⟨v, k1, k2⟩ := res_one hT h h1
        obtain ⟨vs, k3, k4⟩ := res_list h h2
        exact ⟨v :: vs, by rw [List.mapM_cons, Sem.run_bind, k1, Result.andThen_ok, Sem.run_bind, k3, Result.andThen_ok, Sem.run_pure], VRs.cons k2 k4⟩

include hT in
theorem results_ok (h : FR Out N w0 g0 H0 lam g st a w) {fn : Func} {x : AV} (hr : resultsOf E fn.results.toList st = some x) : ∃ v, (results fn a.tmps).run P w = .ok v w ∧ VR (MuOf Out lam st.locs g) w st.heap g x v := by
  have hres : results fn a.tmps = (do
      let vs ← fn.results.mapM (resS a.tmps)
      pure (if h : vs.size = 1 then vs[0] else .tuple vs)) := by
    unfold results
    congr 1
  have hm : ∀ {vs : List Value}, (fn.results.toList.mapM (resS a.tmps)).run P w = .ok vs w → (results fn a.tmps).run P w = .ok (if h : vs.toArray.size = 1 then vs.toArray[0] else .tuple vs.toArray) w := by
    intro vs hv
    rw [hres, Array.mapM_eq_mapM_toList]
    simp only [Sem.run_bind, Sem.run_map, hv, Result.andThen_ok, Sem.run_pure]
  generalize fn.results.toList = rs at hr hm
  have hlist : ∀ {xs}, mapO (resA E st) rs = some xs → ∃ v, (results fn a.tmps).run P w = .ok v w ∧ ∃ vs : List Value, VRs (MuOf Out lam st.locs g) w st.heap g xs vs ∧ v = if h : vs.toArray.size = 1 then vs.toArray[0] else .tuple vs.toArray := by
    intro xs hx
    obtain ⟨vs, k1, k2⟩ := res_list hT h hx
    exact ⟨_, hm k1, vs, k2, rfl⟩
  have one : ∀ {r : ResultVar} {y : AV}, rs = [r] → resA E st r = some y → ∃ v, (results fn a.tmps).run P w = .ok v w ∧ VR (MuOf Out lam st.locs g) w st.heap g y v := by
    intro r y he hy
    subst he
    obtain ⟨v, k1, vs, k2, k3⟩ := hlist (xs := [y]) (by simp [mapO, hy])
    cases vs with
    | nil => exact absurd k2.1 (by simp)
    | cons u us =>
      cases us with
      | cons _ _ => exact absurd k2.1 (by simp)
      | nil =>
        simp at k3
        subst k3
        exact ⟨v, k1, k2.uncons.1⟩
  unfold resultsOf at hr
  split at hr
  · cases hr
    obtain ⟨v, k1, vs, k2, k3⟩ := hlist (xs := []) rfl
    cases vs with
    | nil => simp at k3; subst k3; exact ⟨_, k1, vr_unit⟩
    | cons _ _ => exact absurd k2.1 (by simp)
  · rename_i t
    exact one rfl hr
  · rename_i c t
    exact one rfl hr
  · rename_i h0 h1 h2
    cases hx : mapO (resA E st) rs with
    | none => simp [hx] at hr
    | some xs =>
      simp only [hx, Option.map_some, Option.some.injEq] at hr
      subst hr
      obtain ⟨v, k1, vs, k2, k3⟩ := hlist hx
      have hl := (mapO_spec hx).1
      have hne : ¬ vs.toArray.size = 1 := by
        intro e
        have : rs.length = 1 := by rw [← hl, k2.1]; simpa using e
        cases rs with
        | nil => simp at this
        | cons r rs' =>
          cases rs' with
          | cons _ _ => simp at this
          | nil =>
            cases r with
            | tmp t => exact h1 t rfl
            | cell a t => exact h2 a t rfl
      rw [dif_neg hne] at k3
      subst k3
      exact ⟨_, k1, .tp xs vs k2.1 k2.2⟩

end

/-- what is asked of the functions -/
def FnOK (P : Program) (E : EP) (dr : Cfg → Nat → Array Oper → Bool) : Prop :=
  ∀ (f : FuncId) (fi : FI), E.fn f = some fi → ∃ fn : Func, P.funcs[f]? = some fn ∧ fn.body = some fi.body ∧ fn.results.toList = fi.results ∧ (fn.name == "runtime.NumGoroutine") = false ∧ codeChk fn.ntmps (dr fi.cfg) fi.body = true

theorem FnOK.enter {P : Program} {E : EP} {dr : Cfg → Nat → Array Oper → Bool} (h : FnOK P E dr) : EnterOK P E := by
  intro f fi hf vs w
  obtain ⟨fn, h1, h2, _, h4, _⟩ := h f fi hf
  have h4' : ¬ fn.name = "runtime.NumGoroutine" := by simpa using h4
  simp [callFunc, h1, h2, h4']

theorem sound {P : Program} {E : EP} {dr : Cfg → Nat → Array Oper → Bool} (hT : ∀ t i, E.ti t = some i → TiOK P t i) (hX : ExtOK P E) (hF : FnOK P E dr)
    (hD : ∀ (n : Nat) (cfg : Cfg) (Out : Nat → Prop) (N : Nat) (w0 : World) (g0 : List (Option Nat)) (H0 : List OB), (∀ j, j < n → RunOK P E j) → DrawOK P E (dr cfg) Out N w0 g0 H0 cfg n) : ∀ k, RunOK P E k := by
  intro k
  induction k using Nat.strongRecOn with
  | _ k ih =>
    intro f args h r h' hr Out w g vs hh hv hlt hno
    cases k with
    | zero => simp [runF] at hr
    | succ k =>
      rw [runF] at hr
      cases hf : E.fn f with
      | none => simp [hf] at hr
      | some fi =>
        simp only [hf] at hr
        obtain ⟨fn, h1, h2, h3, h4, h5⟩ := hF f fi hf
        have hR : ∀ j, j < k → RunOK P E j := fun j hj => ih j (by omega)
        have hfr : FR Out fn.ntmps w g h (fun _ => 0) g ⟨argVals 0 args, [], h, []⟩ { tmps := vs.toArray ++ Array.replicate (fn.ntmps - vs.toArray.size) undef, defers := [] } w := by
          refine ⟨by simp; omega, rfl, fun t x hx => ?_, ⟨argVals_sorted, List.Pairwise.nil⟩, fun t gd x hx => by simp at hx, fun l cs hl => by simp [alook] at hl, fun l l' c c' hl => by simp [alook] at hl, fun l cs hl => by simp [alook] at hl, hh, hno, hlt, fun o b ho => Or.inl ho, Ext.refl _ _ _, KeepB.refl _ _⟩
          obtain ⟨y, rfl, _, k3⟩ := argVals_mem hx
          have ht : t < vs.length := by rw [← hv.1]; exact lt_of_get k3
          have hg : (vs.toArray ++ Array.replicate (fn.ntmps - vs.toArray.size) undef).getD t undef = vs[t] := by
            rw [Array.getD_eq_getD_getElem?, Array.getElem?_append_left (by simpa using ht)]
            simp [ht]
          show VR _ _ _ _ y _
          simp only
          rw [hg]
          exact hv.2 t y vs[t] (by simpa using k3) (List.getElem?_eq_getElem ht)
        -- the end
        have fin : ∀ (e : Exit), (e = .normal ∨ e = .ret) → ∀ st', (resultsOf E fi.results st').map (fun r => (r, st'.heap)) = some (r, h') → ∀ a' w' lam' g', FR Out fn.ntmps w g h lam' g' st' a' w' → bodyPost P fn (Came Out w g h r h') e a' w' := by
          intro e he st' hres a' w' lam' g' hf'
          cases hx : resultsOf E fi.results st' with
          | none => simp [hx] at hres
          | some x =>
            simp only [hx, Option.map_some, Option.some.injEq, Prod.mk.injEq] at hres
            obtain ⟨rfl, rfl⟩ := hres
            rw [← h3] at hx
            obtain ⟨v, k1, k2⟩ := results_ok hT hf' hx
            have hs : Same (MuOf Out lam' st'.locs g') (MuC Out g') w' w' := by
              intro b _ hm
              refine ⟨?_, rfl⟩
              rintro (h1 | ⟨l, cs, hl, _⟩ | h1)
              · exact hm (Or.inl h1)
              · simp [alook] at hl
              · exact hm (Or.inr (Or.inr h1))
            have hvr : ∀ x v, VR (MuOf Out lam' st'.locs g') w' st'.heap g' x v → VR (MuC Out g') w' st'.heap g' x v := fun x v hv => VR.mono hs hv (Ext.refl _ _ _)
            have post : a'.defers = [] ∧ ∃ v, (results fn a'.tmps).run P w' = .ok v w' ∧ Came Out w g h x st'.heap (.returned v) w' :=
              ⟨hf'.defers, v, k1, v, g', rfl, ⟨hf'.heap.len, fun o ob ho => (hf'.heap.obj o ob ho).mono (fun _ _ => rfl) hvr, hf'.heap.inj, hf'.heap.lt⟩, hvr _ _ k2, hf'.ext, hf'.keep, hf'.gOut, hf'.gNew⟩
            rcases he with rfl | rfl <;> exact post
        cases hx : exec E k fi.cfg fi.body ⟨argVals 0 args, [], h, []⟩ with
        | none => simp [hx] at hr
        | some p =>
          obtain ⟨ec, st'⟩ := p
          refine calls_of_wp h1 h2 ?_
          have hdr := hD k fi.cfg Out fn.ntmps w g h hR
          cases ec with
          | exit id => simp [hx] at hr
          | norm =>
            simp only [hx] at hr
            exact (exec_ok hT hX hF.enter hR hdr (Nat.le_refl k) hx h5 hfr (fun a' w' lam' g' hf' => fin .normal (Or.inl rfl) st' hr a' w' lam' g' hf')).1
          | ret =>
            simp only [hx] at hr
            exact (exec_ok hT hX hF.enter hR hdr (Nat.le_refl k) hx h5 hfr (fun a' w' lam' g' hf' => fin .ret (Or.inr rfl) st' hr a' w' lam' g' hf')).1

end Go.Ex
