/- The evaluator of this proof, part 15. -/
import Derived.Test.YtfghngkiephakaaEng14
set_option linter.unnecessarySimpa false
set_option linter.unusedVariables false
set_option linter.unusedSimpArgs false
set_option linter.unusedSectionVars false
set_option linter.deprecated false
/- Kinds 2 and 5. -/
set_option autoImplicit false
set_option linter.unusedVariables false
set_option linter.unusedSectionVars false
namespace Go.Ex
section
variable {E : EP} {st st2 st1 : St} {gd : Gd} {cfg : Cfg} {o : Oper} {x : TV}

theorem loadAt_like {T : List Operand} {t : Nat} {y : Operand} {p : TV} (hL : AgreeL T st st2) (hy : y ∈ T) (hp : getP E 0 gd st y = some p) (hh : st2.heap = st.heap) : loadAt E t st2 p = loadAt E t st p := by
  cases p with
  | v z => cases z <;> simp only [loadAt, hh]
  | p l off =>
    cases y with
    | tmp u => simp only [loadAt, hL u hy gd l off hp]
    | const v => simp only [getP] at hp; split at hp <;> cases hp
    | func v => simp only [getP] at hp; split at hp <;> cases hp
    | global v => simp only [getP] at hp; split at hp <;> cases hp

theorem cls2_any (hc : cls E cfg o = 2) (hA : AgreeT o.op.operands.toList st st2) (hL : AgreeL o.op.operands.toList st st2) (hh : st2.heap = st.heap) (hs : stepOp E cfg gd o st = some (x, st1)) : st1 = st ∧ stepOp E cfg gd o st2 = some (x, st2) := by
  unfold cls at hc
  cases hop : o.op <;> simp only [hop] at hc <;> try (cases hc; done)
  case load t y =>
    simp only [stepOp, hop] at hs ⊢
    rw [getP_congr hA (x := y) (by simp [hop, Op.operands])]
    split at hs
    · rename_i p hp
      rw [loadAt_like hL (y := y) (by simp [hop, Op.operands]) hp hh]
      repeat' split at hs
      all_goals first
        | (cases hs; done)
        | (cases hs; simp_all)
    · cases hs
  case lookup t y z ok =>
    simp only [stepOp, hop, cond_eq_ite] at hs ⊢
    simp only [getA_congr hA (x := y) (by simp [hop, Op.operands]), getA_congr hA (x := z) (by simp [hop, Op.operands]), entries_congr hh]
    repeat' split at hs
    all_goals first
      | (cases hs; done)
      | (cases hs; simp_all)
  case slice t y lo hi mx =>
    simp only [stepOp, hop, cond_eq_ite] at hs ⊢
    simp only [getA_congr hA (x := y) (by simp [hop, Op.operands]), sliceAV_congr hA (lo := lo) (hi := hi) (mx := mx) (fun z hz => by subst hz; simp [hop, Op.operands]) (fun z hz => by subst hz; simp [hop, Op.operands]) (fun z hz => by subst hz; simp [hop, Op.operands]) hh]
    repeat' split at hs
    all_goals first
      | (cases hs; done)
      | (cases hs; simp_all)
  case call c =>
    have hA' : ∀ y, y ∈ c.args.toList → ∀ ty gd, getA E ty gd st2 y = getA E ty gd st y := fun y hy ty gd => getA_congr hA (by
      simp only [hop, Op.operands, Call.operands, Array.toList_append]
      exact List.mem_append_right _ hy) ty gd
    simp only [stepOp, hop] at hs ⊢
    split at hs
    · rename_i b hcal
      simp only [hcal] at hc ⊢
      split at hs <;> simp only at hc ⊢ <;> try (cases hc; done)
      split at hs
      · rename_i y t ha ht
        have h1 := hA' y (by rw [ha]; simp)
        simp only [ha, ht, h1, lenAV_congr hh]
        repeat' split at hs
        all_goals first | (cases hs; done) | (cases hs; simp_all)
      · cases hs
    · cases hs
  all_goals
    exfalso
    simp only [cond_eq_ite] at hc
    repeat' split at hc
    all_goals cases hc

/-- nothing speaks of local variable d -/
def Fresh (d : Nat) (st : St) : Prop := hasP d st.vals = false ∧ hasG d st.tl = false ∧ hasK st.locs d = false

theorem cls5_any (hc : cls E cfg o = 5) (hA : AgreeT o.op.operands.toList st st2) (hs : stepOp E cfg gd o st = some (x, st1)) :
    ∃ d cs, o.dst = some d ∧ x = .p d 0 ∧ Fresh d st ∧ st1 = { st with locs := aset cs st.locs d } ∧ (Fresh d st2 → stepOp E cfg gd o st2 = some (x, { st2 with locs := aset cs st2.locs d })) := by
  have key : ∀ {d : Nat} {cs : List AV}, o.dst = some d → (if (hasP d st.vals || hasG d st.tl || hasK st.locs d) = true then none else some (TV.p d 0, { st with locs := aset cs st.locs d })) = some (x, st1) → x = .p d 0 ∧ Fresh d st ∧ st1 = { st with locs := aset cs st.locs d } := by
    intro d cs hd h
    split at h
    · cases h
    · rename_i hn
      cases h
      simp only [Bool.or_eq_true, not_or, Bool.not_eq_true] at hn
      exact ⟨rfl, ⟨hn.1.1, hn.1.2, hn.2⟩, rfl⟩
  unfold cls at hc
  cases hop : o.op <;> simp only [stepOp, hop] at hs hc ⊢ <;> try (first | (cases hs; done) | (cases hc; done))
  case alloc t =>
    cases hd : o.dst with
    | none => rw [hd] at hc; cases hc
    | some d =>
      simp only [hd] at hc hs ⊢
      cases hb : elemN cfg.loc d with
      | false => rw [hb] at hc; cases hc
      | true =>
        split at hs
        · rename_i i hi
          simp only [hb, cond_true, cond_eq_ite] at hs
          obtain ⟨h1, h2, h3⟩ := key hd hs
          refine ⟨d, i.zero, rfl, h1, h2, h3, fun hf => ?_⟩
          simp only [hi, hb, cond_true, hf.1, hf.2.1, hf.2.2, h1, Bool.or_self, cond_false]
        · cases hs
  case box t y =>
    rw [getA_congr hA (x := y) (by simp [hop, Op.operands])]
    cases hd : o.dst with
    | none => rw [hd] at hc; cases hc
    | some d =>
      simp only [hd] at hc hs ⊢
      cases hb : elemN cfg.loc d with
      | false => rw [hb] at hc; cases hc
      | true =>
        split at hs
        · rename_i v hv
          have hq := bif_some hs
          clear hs
          obtain ⟨hl, hs⟩ := hq
          simp only [hb, cond_true, cond_eq_ite] at hs
          obtain ⟨h1, h2, h3⟩ := key hd hs
          refine ⟨d, cellsOf v, rfl, h1, h2, h3, fun hf => ?_⟩
          simp only [hv, hb, hl, cond_true, hf.1, hf.2.1, hf.2.2, h1, Bool.or_self, cond_false]
        · cases hs
  all_goals
    exfalso
    simp only [cond_eq_ite] at hc
    repeat' split at hc
    all_goals cases hc

end
end Go.Ex
/- What an operation comes to in another state. -/
set_option autoImplicit false
set_option linter.unusedVariables false
set_option linter.unusedSectionVars false
namespace Go.Ex

/-- what an operation turns, but for its result -/
inductive Eff where
  | none
  | heap (H : List OB)
  | loc (d : Nat) (cs : List AV)
  | mem (L : List (Nat × List AV)) (H : List OB)

def Eff.app : Eff → St → St
  | .none, st => st
  | .heap H, st => { st with heap := H }
  | .loc d cs, st => { st with locs := aset cs st.locs d }
  | .mem L H, st => { st with locs := L, heap := H }

/-- may an operation of that kind be carried out in the second state as in the first? -/
structure Like (c : Nat) (o : Oper) (st st2 : St) : Prop where
  agree : AgreeT o.op.operands.toList st st2
  loc : c = 1 ∨ c = 2 → AgreeL o.op.operands.toList st st2
  heap : c = 2 ∨ c = 3 ∨ c = 4 → st2.heap = st.heap
  fresh : c = 5 → ∀ d, o.dst = some d → Fresh d st2
  mem : c = 6 → st2.locs = st.locs ∧ st2.heap = st.heap

/-- the effects of a kind -/
def effOf (c : Nat) (o : Oper) (x : TV) (st : St) (e : Eff) : Prop :=
  match c with
  | 4 => ∃ H, e = .heap H
  | 5 => ∃ d cs, o.dst = some d ∧ e = .loc d cs ∧ x = .p d 0 ∧ Fresh d st
  | 6 => ∃ L H, e = .mem L H
  | _ => e = .none

section
variable {E : EP} {st st2 st1 : St} {gd : Gd} {cfg : Cfg} {o : Oper} {x : TV}

theorem stepOp_like (hc : cls E cfg o ≤ 5) (h3 : cls E cfg o ≠ 3) (hs : stepOp E cfg gd o st = some (x, st1)) :
    ∃ e, effOf (cls E cfg o) o x st e ∧ st1 = e.app st ∧ ∀ st2, Like (cls E cfg o) o st st2 → stepOp E cfg gd o st2 = some (x, e.app st2) := by
  generalize hk : cls E cfg o = k at hc h3 ⊢
  match k, hk, hc, h3 with
  | 0, hk, _, _ => exact ⟨.none, rfl, (cls0_any hk (st2 := st) (fun t ht => rfl) hs).1, fun st2 h => (cls0_any hk h.agree hs).2⟩
  | 1, hk, _, _ => exact ⟨.none, rfl, (cls1_any hk (st2 := st) (fun t ht => rfl) (fun t ht gd l off h => rfl) hs).1, fun st2 h => (cls1_any hk h.agree (h.loc (Or.inl rfl)) hs).2⟩
  | 2, hk, _, _ => exact ⟨.none, rfl, (cls2_any hk (st2 := st) (fun t ht => rfl) (fun t ht gd l off h => rfl) rfl hs).1, fun st2 h => (cls2_any hk h.agree (h.loc (Or.inr rfl)) (h.heap (Or.inl rfl)) hs).2⟩
  | 3, hk, _, h3 => exact (h3 rfl).elim
  | 4, hk, _, _ =>
    refine ⟨.heap st1.heap, ⟨_, rfl⟩, ?_, fun st2 h => (cls4_any hk h.agree (h.heap (Or.inr (Or.inr rfl))) hs).2⟩
    have h1 := (cls4_any hk (st2 := st) (fun t ht => rfl) rfl hs).1
    have h2 := stepOp_vals hs
    cases st1
    simp only at h1 h2 ⊢
    simp only [Eff.app, ← h1, ← h2.1, ← h2.2]
  | 5, hk, _, _ =>
    obtain ⟨d, cs, h1, h2, h3, h4, _⟩ := cls5_any hk (st2 := st) (fun t ht => rfl) hs
    refine ⟨.loc d cs, ⟨d, cs, h1, rfl, h2, h3⟩, h4, fun st2 h => ?_⟩
    obtain ⟨d', cs', k1, k2, k3, k4, k5⟩ := cls5_any hk h.agree hs
    rw [h1] at k1
    cases k1
    rw [k5 (h.fresh rfl d h1)]
    rw [h4] at k4
    simp only [Eff.app]
    congr 2
    have := congrArg (fun s => alook (St.locs s) d) k4
    simp only [alook_aset, if_true, Option.some.injEq] at this
    rw [this]
  | k + 6, _, hc, _ => exact absurd hc (by omega)

theorem runOp_like5 {n : Nat} (hc : cls E cfg o ≤ 5) (hr : runOp E n cfg gd o st = some (x, st1)) :
    ∃ e, effOf (cls E cfg o) o x st e ∧ st1 = e.app st ∧ ∀ st2, Like (cls E cfg o) o st st2 → runOp E n cfg gd o st2 = some (x, e.app st2) := by
  cases n with
  | zero => simp [runOp] at hr
  | succ n =>
    have gen : (∀ c0 a b, o.op ≠ .pick (.tmp c0) a b) → (∀ c y, o.op = .call c → c.callee ≠ .value y) → ∃ e, effOf (cls E cfg o) o x st e ∧ st1 = e.app st ∧ ∀ st2, Like (cls E cfg o) o st st2 → runOp E (n + 1) cfg gd o st2 = some (x, e.app st2) := by
      intro hp hv
      have heq : ∀ s, runOp E (n + 1) cfg gd o s = stepOp E cfg gd o s := by
        intro s
        rw [runOp]
        cases hop : o.op <;> try rfl
        case pick c a b => cases c <;> first | rfl | exact (hp _ _ _ hop).elim
        case call c =>
          cases hcal : c.callee with
          | value y => exact (hv c _ hop hcal).elim
          | invoke y z => simp only [hcal]
          | builtin b => simp only [hcal]
      have h3 : cls E cfg o ≠ 3 := by
        intro h
        unfold cls at h
        cases hop : o.op <;> simp only [hop] at h <;> try (cases h; done)
        case call c =>
          cases hcal : c.callee <;> simp only [hcal] at h
          · exact hv c _ hop hcal
          · cases h
          · rename_i b; cases b <;> simp only at h <;> cases h
        all_goals
          simp only [cond_eq_ite] at h
          repeat' split at h
          all_goals cases h
      rw [heq] at hr
      obtain ⟨e, h1, h2, h4⟩ := stepOp_like hc h3 hr
      exact ⟨e, h1, h2, fun st2 h => by rw [heq]; exact h4 st2 h⟩
    by_cases hp : ∃ t y z, o.op = .pick (.tmp t) y z
    · obtain ⟨t, y, z, hop⟩ := hp
      have hk : cls E cfg o = 0 := by unfold cls; rw [hop]
      rw [runOp] at hr
      simp only [hop] at hr
      rw [hk]
      split at hr
      · rename_i v hv
        cases hr
        refine ⟨.none, rfl, rfl, fun st2 h => ?_⟩
        rw [runOp]
        simp only [hop]
        rw [pickAV_congr h.agree (by simp [hop, Op.operands]) (by simp [hop, Op.operands]) (by simp [hop, Op.operands]), hv]
        rfl
      · cases hr
    by_cases hv : ∃ c y, o.op = .call c ∧ c.callee = .value y
    · obtain ⟨c, y, hop, hcal⟩ := hv
      rw [runOp] at hr
      simp only [hop, hcal] at hr
      -- kinds 3 and 4
      have hA : ∀ st2, AgreeT o.op.operands.toList st st2 → getA E 0 gd st2 y = getA E 0 gd st y ∧ ∀ ts, getAs E gd st2 c.args.toList ts = getAs E gd st c.args.toList ts := fun st2 hA =>
        ⟨getA_congr hA (by simp [hop, Op.operands, Call.operands, hcal]) 0 gd, fun ts => getAs_congr hA fun y hy => by
          simp only [hop, Op.operands, Call.operands, Array.toList_append]
          exact List.mem_append_right _ hy⟩
      split at hr
      · rename_i f caps hf
        split at hr
        · rename_i vs hvs
          split at hr
          · rename_i r s1 hcall
            have hres : x = .v r ∧ st1 = s1 := by
              cases gd with
              | none => cases hr; exact ⟨rfl, rfl⟩
              | some gw =>
                simp only at hr
                split at hr
                · have hq := bif_some hr; cases hq.2; exact ⟨rfl, rfl⟩
                · cases hr; exact ⟨rfl, rfl⟩
            obtain ⟨rfl, rfl⟩ := hres
            have again : ∀ st2, st2.heap = st.heap → AgreeT o.op.operands.toList st st2 → runOp E (n + 1) cfg gd o st2 = some (.v r, putH st2 st1) := by
              intro st2 hh hag
              rw [runOp]
              simp only [hop, hcal]
              rw [(hA st2 hag).1, hf]
              simp only
              rw [(hA st2 hag).2, hvs]
              simp only
              rw [(callF_any hh hcall).2]
              cases gd with
              | none => rfl
              | some gw =>
                simp only at hr ⊢
                split at hr
                · rename_i fi hfi
                  have hq := bif_some hr
                  clear hr
                  simp only [hq.1, cond_true]
                · rfl
            have hloc := (callF_any (st2 := st) rfl hcall).1
            have hvt := callF_vals hcall
            have hk : cls E cfg o = 3 ∨ cls E cfg o = 4 := by
              unfold cls
              rw [hop]
              simp only
              rw [hcal]
              cases y with
              | func f' =>
                simp only
                cases E.fn f' with
                | none => exact Or.inl rfl
                | some fi =>
                  simp only
                  cases Nat.beq fi.mode 1
                  · exact Or.inr rfl
                  · exact Or.inl rfl
              | tmp t => exact Or.inr rfl
              | const v => exact Or.inr rfl
              | global v => exact Or.inr rfl
            rcases hk with hk | hk
            · rw [hk]
              have hpl : st1 = st := by
                refine callF_plain (fun fi hfi => ?_) hcall
                unfold cls at hk
                rw [hop] at hk
                simp only at hk
                rw [hcal] at hk
                cases y with
                | func f' =>
                  have hff : f' = f := by simp only [getA, Option.some.injEq, AV.fn.injEq] at hf; exact hf.1
                  subst hff
                  simp only [hfi] at hk
                  cases hm : Nat.beq fi.mode 1 with
                  | true => rfl
                  | false => rw [hm] at hk; cases hk
                | tmp t => cases hk
                | const v => cases hk
                | global v => cases hk
              refine ⟨.none, rfl, hpl, fun st2 h => ?_⟩
              have hh := h.heap (Or.inr (Or.inl rfl))
              rw [again st2 hh h.agree]
              subst hpl
              simp only [putH, Eff.app, ← hh]
            · rw [hk]
              refine ⟨.heap st1.heap, ⟨_, rfl⟩, ?_, fun st2 h => again st2 (h.heap (Or.inr (Or.inr rfl))) h.agree⟩
              cases st1
              simp only at hloc hvt ⊢
              simp only [Eff.app, ← hloc, ← hvt.1, ← hvt.2]
          · cases hr
        · cases hr
      · cases hr
    exact gen (fun t y z h => hp ⟨t, y, z, h⟩) (fun c y h1 h2 => hv ⟨c, y, h1, h2⟩)

theorem cls_le : cls E cfg o ≤ 6 := by
  unfold cls
  simp only [cond_eq_ite]
  repeat' split
  all_goals omega

theorem cls6_loc (h : cls E cfg o = 6) : locOp cfg o = false := by
  unfold cls at h
  unfold locOp
  cases hop : o.op <;> simp only [hop] at h ⊢
  all_goals
    cases hd : o.dst with
    | none => rfl
    | some d =>
      simp only [hd] at h ⊢
      cases hb : elemN cfg.loc d with
      | false => rfl
      | true => rw [hb] at h; cases h

theorem runOp_like {n : Nat} (hr : runOp E n cfg gd o st = some (x, st1)) :
    ∃ e, effOf (cls E cfg o) o x st e ∧ st1 = e.app st ∧ ∀ st2, Like (cls E cfg o) o st st2 → runOp E n cfg gd o st2 = some (x, e.app st2) := by
  by_cases hc : cls E cfg o ≤ 5
  · exact runOp_like5 hc hr
  · have h6 : cls E cfg o = 6 := by have := @cls_le E cfg o; omega
    rw [h6]
    refine ⟨.mem st1.locs st1.heap, ⟨_, _, rfl⟩, ?_, fun st2 h => ?_⟩
    · have h2 := runOp_vals hr
      cases st1
      simp only at h2 ⊢
      simp only [Eff.app, ← h2.1, ← h2.2]
    · exact runOp_congr h.agree (h.mem rfl).1 (h.mem rfl).2 (cls6_loc h6) hr

end
end Go.Ex
/- Results that are put in another order. -/
set_option autoImplicit false
set_option linter.unusedVariables false
set_option linter.unusedSectionVars false
namespace Go.Ex

theorem alook_gt {α : Type} : ∀ {L : List (Nat × α)} {t : Nat}, (∀ e ∈ L, e.1 < t) → alook L t = none
  | [], _, _ => rfl
  | (k, y) :: r, t, h => by
    have := h (k, y) (by simp)
    simp only [alook, nbF (show k ≠ t by simp at this; omega), cond_false]
    exact alook_gt fun e he => h e (by simp [he])

theorem sorted_ext {α : Type} : ∀ {L M : List (Nat × α)}, Sorted L → Sorted M → (∀ t, alook L t = alook M t) → L = M
  | [], [], _, _, _ => rfl
  | [], (k, y) :: r, _, _, h => by have := h k; simp [alook, Nat.beq_refl] at this
  | (k, y) :: r, [], _, _, h => by have := h k; simp [alook, Nat.beq_refl] at this
  | (k, y) :: r, (k', y') :: r', hL, hM, h => by
    obtain ⟨a1, a2⟩ := Sorted.cons_iff.1 hL
    obtain ⟨b1, b2⟩ := Sorted.cons_iff.1 hM
    have hk : k = k' := by
      rcases Nat.lt_trichotomy k k' with hlt | he | hlt
      · have h1 := h k'
        simp only [alook, Nat.beq_refl, cond_true, nbF (show k ≠ k' by omega), cond_false] at h1
        rw [alook_gt fun e he => Nat.lt_trans (a1 e he) hlt] at h1
        cases h1
      · exact he
      · have h1 := h k
        simp only [alook, Nat.beq_refl, cond_true, nbF (show k' ≠ k by omega), cond_false] at h1
        rw [alook_gt fun e he => Nat.lt_trans (b1 e he) hlt] at h1
        cases h1
    subst hk
    have hy : y = y' := by have := h k; simpa [alook, Nat.beq_refl] using this
    subst hy
    have : r = r' := sorted_ext a2 b2 fun t => by
      by_cases ht : k = t
      · subst ht; rw [alook_gt a1, alook_gt b1]
      · have := h t; simpa [alook, nbF ht] using this
    rw [this]

theorem alook_dropK {α : Type} (t : Nat) : ∀ (L : List (Nat × α)) (u : Nat), alook (dropK t L) u = if t = u then none else alook L u
  | [], u => by simp [dropK, alook]
  | (k, y) :: r, u => by
    simp only [dropK]
    by_cases hk : k = t
    · subst hk
      simp only [Nat.beq_refl, cond_true]
      rw [alook_dropK k r u]
      by_cases hu : k = u
      · simp [hu]
      · simp [alook, hu, nbF hu]
    · simp only [nbF hk, cond_false, alook]
      rw [alook_dropK t r u]
      by_cases hu : k = u
      · subst hu; simp [Nat.beq_refl, Ne.symm hk]
      · simp [nbF hu]

theorem sorted_dropK {α : Type} {t : Nat} {L : List (Nat × α)} (h : Sorted L) : Sorted (dropK t L) := h.sub dropK_sub

theorem aset_comm {α : Type} {v u : α} {t s : Nat} {L : List (Nat × α)} (h : Sorted L) (hne : t ≠ s) : aset v (aset u L s) t = aset u (aset v L t) s := by
  refine sorted_ext (sorted_aset (sorted_aset h)) (sorted_aset (sorted_aset h)) fun k => ?_
  simp only [alook_aset]
  by_cases h1 : t = k
  · subst h1; simp [hne.symm]
  · simp [h1]
theorem aset_dropK {α : Type} {v : α} {t s : Nat} {L : List (Nat × α)} (h : Sorted L) (hne : t ≠ s) : aset v (dropK s L) t = dropK s (aset v L t) := by
  refine sorted_ext (sorted_aset (sorted_dropK h)) (sorted_dropK (sorted_aset h)) fun k => ?_
  simp only [alook_aset, alook_dropK]
  by_cases h1 : t = k
  · subst h1; simp [hne.symm]
  · simp [h1]
theorem dropK_comm {α : Type} {t s : Nat} {L : List (Nat × α)} (h : Sorted L) : dropK t (dropK s L) = dropK s (dropK t L) := by
  refine sorted_ext (sorted_dropK (sorted_dropK h)) (sorted_dropK (sorted_dropK h)) fun k => ?_
  simp only [alook_dropK]
  by_cases h1 : t = k <;> by_cases h2 : s = k <;> simp [h1, h2]

/-- does the result of temporary t outlive its region? -/
def kept (kp : List Nat) (t : Nat) (st : St) : Bool := (alook st.vals t).isSome || elemN kp t
/-- the one way to put a result -/
def putW (b : Bool) (t : Nat) (g : Gd) (x : TV) (st : St) : St :=
  match b with
  | true => { st with vals := aset x st.vals t, tl := dropK t st.tl }
  | false => { st with tl := aset (g, x) st.tl t }

theorem putTV_W (kp : List Nat) (t : Nat) (x : TV) (st : St) : putTV kp (some t) x st = putW (kept kp t st) t none x st := by
  unfold putTV kept putW
  cases hv : alook st.vals t with
  | some y => simp [hv]
  | none => cases hb : elemN kp t <;> simp [hv, hb]

theorem putC_W {kp : List Nat} {t : Nat} {g : Nat × Bool} {x : TV} {st st' : St} : putC kp (some t) g x st = some st' ↔ kept kp t st = false ∧ st' = putW false t (some g) x st := by
  unfold putC kept putW
  cases hv : alook st.vals t with
  | some y => simp [hv]
  | none => cases hb : elemN kp t <;> simp [hv, hb, eq_comm]

/-- put under a guard or not -/
def putX (kp : List Nat) (d : Option Nat) (g : Gd) (x : TV) (st : St) : Option St :=
  match g with
  | none => some (putTV kp d x st)
  | some gw => putC kp d gw x st

theorem putX_none {kp : List Nat} {g : Gd} {x : TV} {st : St} : putX kp none g x st = some st := by
  cases g <;> rfl

theorem putX_some {kp : List Nat} {t : Nat} {g : Gd} {x : TV} {st st' : St} : putX kp (some t) g x st = some st' ↔ (g ≠ none → kept kp t st = false) ∧ st' = putW (kept kp t st) t g x st := by
  cases g with
  | none =>
    simp only [putX, putTV_W, Option.some.injEq]
    exact ⟨fun h => ⟨fun h => (h rfl).elim, h.symm⟩, fun h => h.2.symm⟩
  | some gw =>
    simp only [putX, putC_W]
    constructor
    · rintro ⟨h1, h2⟩; exact ⟨fun _ => h1, by rw [h1]; exact h2⟩
    · rintro ⟨h1, h2⟩; have := h1 (by simp); exact ⟨this, by rw [this] at h2; exact h2⟩

structure St.Sorted (st : St) : Prop where
  vals : Ex.Sorted st.vals
  tl : Ex.Sorted st.tl

section
variable {kp : List Nat} {t u : Nat} {b c : Bool} {g g' : Gd} {x y : TV} {st st' st1 : St} {e : Eff}

theorem putW_comm (h : st.Sorted) (hne : t ≠ u) : putW b t g x (putW c u g' y st) = putW c u g' y (putW b t g x st) := by
  cases b <;> cases c <;> simp only [putW]
  · rw [aset_comm h.tl hne]
  · rw [aset_dropK h.tl hne]
  · rw [aset_dropK h.tl hne.symm]
  · rw [aset_comm h.vals hne, dropK_comm h.tl]

theorem putW_sorted (h : st.Sorted) : (putW b t g x st).Sorted := by
  cases b
  · exact ⟨h.vals, sorted_aset h.tl⟩
  · exact ⟨sorted_aset h.vals, sorted_dropK h.tl⟩

theorem kept_putW (hne : t ≠ u) : kept kp u (putW b t g x st) = kept kp u st := by
  cases b <;> simp only [putW, kept]
  rw [alook_aset, if_neg hne]

theorem getTV_putW (hne : t ≠ u) : getTV (putW b t g x st) u = getTV st u := by
  cases b <;> simp only [putW, getTV]
  · rw [alook_aset, if_neg hne]
  · rw [alook_aset, if_neg hne, alook_dropK, if_neg hne]

theorem eff_sorted (h : st.Sorted) : (e.app st).Sorted := by
  cases e <;> exact ⟨h.vals, h.tl⟩

theorem eff_putW : e.app (putW b t g x st) = putW b t g x (e.app st) := by
  cases e <;> cases b <;> rfl
theorem kept_eff : kept kp t (e.app st) = kept kp t st := by cases e <;> rfl
theorem getTV_eff : getTV (e.app st) t = getTV st t := by cases e <;> rfl

theorem putX_sorted {d : Option Nat} (h : st.Sorted) (hp : putX kp d g x st = some st') : st'.Sorted := by
  cases d with
  | none => rw [putX_none] at hp; cases hp; exact h
  | some t => rw [(putX_some.1 hp).2]; exact putW_sorted h

theorem putX_mem {d : Option Nat} (hp : putX kp d g x st = some st') : st'.locs = st.locs ∧ st'.heap = st.heap := by
  cases d with
  | none => rw [putX_none] at hp; cases hp; exact ⟨rfl, rfl⟩
  | some t => rw [(putX_some.1 hp).2]; cases kept kp t st <;> exact ⟨rfl, rfl⟩

theorem putX_get {d : Option Nat} (hp : putX kp d g x st = some st') (hne : d ≠ some u) : getTV st' u = getTV st u := by
  cases d with
  | none => rw [putX_none] at hp; cases hp; rfl
  | some t => rw [(putX_some.1 hp).2]; exact getTV_putW (fun e => hne (by rw [e]))

theorem putX_eff {d : Option Nat} : putX kp d g x (e.app st) = (putX kp d g x st).map e.app := by
  cases d with
  | none => simp only [putX_none, Option.map_some]
  | some t =>
    cases hq : putX kp (some t) g x st with
    | some s =>
      obtain ⟨h1, h2⟩ := putX_some.1 hq
      rw [Option.map_some, putX_some, kept_eff]
      exact ⟨h1, by rw [h2, eff_putW]⟩
    | none =>
      cases hq' : putX kp (some t) g x (e.app st) with
      | none => rfl
      | some s =>
        obtain ⟨h1, h2⟩ := putX_some.1 hq'
        rw [kept_eff] at h1
        rw [putX_some.2 ⟨h1, rfl⟩] at hq
        cases hq

/-- two results, whichever comes first -/
theorem putX_comm {d d' : Option Nat} (hs : st.Sorted) (hne : ∀ t, d = some t → d' ≠ some t) (h1 : putX kp d g x st = some st1) (h2 : putX kp d' g' y st1 = some st') :
    ∃ st2, putX kp d' g' y st = some st2 ∧ putX kp d g x st2 = some st' := by
  cases d with
  | none => rw [putX_none] at h1; cases h1; exact ⟨st', h2, putX_none⟩
  | some t =>
    cases d' with
    | none => rw [putX_none] at h2; cases h2; exact ⟨st, putX_none, h1⟩
    | some u =>
      have htu : t ≠ u := fun e => hne t rfl (by rw [e])
      obtain ⟨a1, a2⟩ := putX_some.1 h1
      subst a2
      obtain ⟨b1, b2⟩ := putX_some.1 h2
      rw [kept_putW htu] at b1 b2
      refine ⟨putW (kept kp u st) u g' y st, putX_some.2 ⟨b1, rfl⟩, putX_some.2 ⟨?_, ?_⟩⟩
      · rw [kept_putW htu.symm]; exact a1
      · rw [kept_putW htu.symm, b2, putW_comm hs htu.symm]

end
end Go.Ex
/- Where pointers to local variables come from. -/
set_option autoImplicit false
set_option linter.unusedVariables false
set_option linter.unusedSectionVars false
namespace Go.Ex

theorem hasK_isSome {α : Type} : ∀ (L : List (Nat × α)) (t : Nat), hasK L t = (alook L t).isSome
  | [], t => rfl
  | (k, y) :: r, t => by
    simp only [hasK, alook]
    cases Nat.beq k t with
    | true => rfl
    | false => exact hasK_isSome r t

theorem hasP_iff {l : Nat} : ∀ {L : List (Nat × TV)}, hasP l L = false ↔ ∀ t off, (t, TV.p l off) ∉ L
  | [] => by simp [hasP]
  | (k, .v x) :: r => by simp [hasP, hasP_iff (L := r)]
  | (k, .p m off) :: r => by
    simp only [hasP]
    by_cases hm : m = l
    · subst hm
      simp only [Nat.beq_refl, cond_true, Bool.true_eq_false, false_iff]
      intro h
      exact h k off (by simp)
    · simp only [nbF hm, cond_false, hasP_iff (L := r), List.mem_cons, Prod.mk.injEq, TV.p.injEq, not_or]
      exact ⟨fun h t o => ⟨fun e => hm e.2.1.symm, h t o⟩, fun h t o => (h t o).2⟩
theorem hasG_iff {l : Nat} : ∀ {L : List (Nat × (Gd × TV))}, hasG l L = false ↔ ∀ t g off, (t, g, TV.p l off) ∉ L
  | [] => by simp [hasG]
  | (k, g, .v x) :: r => by simp [hasG, hasG_iff (L := r)]
  | (k, g, .p m off) :: r => by
    simp only [hasG]
    by_cases hm : m = l
    · subst hm
      simp only [Nat.beq_refl, cond_true, Bool.true_eq_false, false_iff]
      intro h
      exact h k g off (by simp)
    · simp only [nbF hm, cond_false, hasG_iff (L := r), List.mem_cons, Prod.mk.injEq, TV.p.injEq, not_or]
      exact ⟨fun h t g o => ⟨fun e => hm e.2.2.1.symm, h t g o⟩, fun h t g o => (h t g o).2⟩

section
variable {E : EP} {st st' st1 : St} {gd g : Gd} {cfg : Cfg} {o : Oper} {x : TV} {d l off : Nat} {e : Eff} {kp : List Nat}

theorem Fresh.get (h : Fresh d st) {t : Nat} : getG gd st t ≠ some (.p d off) := by
  intro hg
  unfold getG at hg
  cases hq : getTV st t with
  | none => rw [hq] at hg; cases hg
  | some gx =>
    obtain ⟨g', x⟩ := gx
    rw [hq] at hg
    have hx : x = .p d off := by
      simp only [under] at hg
      cases g' with
      | none => cases hg; rfl
      | some tw =>
        obtain ⟨t', w'⟩ := tw
        simp only at hg
        cases gd with
        | none => cases hg
        | some uz =>
          simp only [cond_eq_ite] at hg
          split at hg
          · cases hg; rfl
          · cases hg
    subst hx
    unfold getTV at hq
    split at hq
    · rename_i y hy
      cases hq
      exact hasG_iff.1 h.2.1 t g' off (mem_of_alook hy)
    · split at hq
      · rename_i y hy
        cases hq
        exact hasP_iff.1 h.1 t off (mem_of_alook hy)
      · cases hq

theorem Fresh.put (hs : st.Sorted) (h : Fresh d st) (hx : ∀ off, x ≠ .p d off) {dst : Option Nat} (hp : putX kp dst g x st = some st') : Fresh d st' := by
  cases dst with
  | none => rw [putX_none] at hp; cases hp; exact h
  | some t =>
    rw [(putX_some.1 hp).2]
    cases kept kp t st with
    | true =>
      refine ⟨hasP_iff.2 fun u off hm => ?_, hasG_iff.2 fun u g' off hm => ?_, h.2.2⟩
      · rcases mem_aset hs.vals hm with ⟨_, e⟩ | ⟨hm, _⟩
        · exact hx off e.symm
        · exact hasP_iff.1 h.1 u off hm
      · exact hasG_iff.1 h.2.1 u g' off (mem_dropK hm).1
    | false =>
      refine ⟨h.1, hasG_iff.2 fun u g' off hm => ?_, h.2.2⟩
      rcases mem_aset hs.tl hm with ⟨_, e⟩ | ⟨hm, _⟩
      · cases e; exact hx off rfl
      · exact hasG_iff.1 h.2.1 u g' off hm

theorem Fresh.eff (h : Fresh d st) (he : ∀ cs, e ≠ .loc d cs) (hm : ∀ L H, e = .mem L H → hasK L d = false) : Fresh d (e.app st) := by
  cases e with
  | none => exact h
  | heap H => exact ⟨h.1, h.2.1, h.2.2⟩
  | mem L H => exact ⟨h.1, h.2.1, hm L H rfl⟩
  | loc d' cs =>
    refine ⟨h.1, h.2.1, ?_⟩
    have := h.2.2
    rw [hasK_isSome] at this ⊢
    simp only [Eff.app, alook_aset]
    rw [if_neg (fun e => he cs (by rw [e]))]
    exact this

theorem getP_ptr {ty : Nat} {y : Operand} (h : getP E ty gd st y = some (.p l off)) : ∃ t, y = .tmp t ∧ getG gd st t = some (.p l off) := by
  cases y with
  | tmp t => exact ⟨t, rfl, h⟩
  | const v => simp only [getP] at h; split at h <;> cases h
  | func v => simp only [getP] at h; split at h <;> cases h
  | global v => simp only [getP] at h; split at h <;> cases h

theorem fieldAt_ptr {k : Nat} {p : TV} (h : fieldAt k p = some (.p l off)) : ∃ off', p = .p l off' := by
  unfold fieldAt at h
  split at h
  · cases h; exact ⟨_, rfl⟩
  · cases h
  · cases h
  · cases h

theorem stepOp_ptr (hc : cls E cfg o ≤ 4) (hs : stepOp E cfg gd o st = some (.p l off, st1)) : ∃ t off', Operand.tmp t ∈ o.op.operands.toList ∧ getG gd st t = some (.p l off') := by
  have fin : ∀ {ty : Nat} {y : Operand} {off' : Nat}, y ∈ o.op.operands.toList → getP E ty gd st y = some (.p l off') → ∃ t off', Operand.tmp t ∈ o.op.operands.toList ∧ getG gd st t = some (.p l off') := by
    intro ty y off' hy h
    obtain ⟨t, rfl, h2⟩ := getP_ptr h
    exact ⟨t, off', hy, h2⟩
  unfold cls at hc
  cases hop : o.op <;> simp only [stepOp, hop, cond_eq_ite] at hs hc <;> try (cases hs; done)
  case move y =>
    split at hs
    · rename_i v hv
      cases hs
      have := fin (y := y) (by simp [hop, Op.operands]) hv
      rwa [hop] at this
    · cases hs
  case assign y =>
    cases hd : o.dst with
    | none => simp only [hd] at hs; cases hs
    | some d =>
      simp only [hd] at hs hc
      cases hb : elemN cfg.own d with
      | true => simp [hb] at hc
      | false =>
        simp only [hb, Bool.false_eq_true, if_false] at hs
        split at hs
        · rename_i v hv
          cases hs
          have := fin (y := y) (by simp [hop, Op.operands]) hv
          rwa [hop] at this
        · cases hs
  case nilCheck y =>
    split at hs <;> cases hs
    rename_i hv
    have := fin (y := y) (by simp [hop, Op.operands]) hv
    rwa [hop] at this
  case fieldAddr t y f =>
    split at hs
    · rename_i p hp
      repeat' split at hs
      all_goals first
        | (cases hs; done)
        | (rename_i hq
           cases hs
           obtain ⟨off', rfl⟩ := fieldAt_ptr hq
           have := fin (y := y) (by simp [hop, Op.operands]) hp
           rwa [hop] at this)
    · cases hs
  case indexAddr t y z =>
    split at hs
    · split at hs
      · repeat' split at hs
        all_goals cases hs
      · split at hs
        · rename_i p hp
          repeat' split at hs
          all_goals first
            | (cases hs; done)
            | (rename_i hq
               cases hs
               obtain ⟨off', rfl⟩ := fieldAt_ptr hq
               have := fin (y := y) (by simp [hop, Op.operands]) hp
               rwa [hop] at this)
        · cases hs
      · cases hs
    · cases hs
  all_goals
    exfalso
    repeat' split at hs
    all_goals first
      | (cases hs; done)
      | (simp_all; done)
      | (repeat' split at hc
         all_goals first | (cases hs; done) | (simp_all; done) | omega)

theorem runOp_ptr {n : Nat} (hc : cls E cfg o ≤ 4) (hs : runOp E n cfg gd o st = some (.p l off, st1)) : ∃ t off', Operand.tmp t ∈ o.op.operands.toList ∧ getG gd st t = some (.p l off') := by
  cases n with
  | zero => simp [runOp] at hs
  | succ n =>
    rw [runOp] at hs
    split at hs
    · split at hs <;> cases hs
    · split at hs
      · repeat' split at hs
        all_goals first
          | (cases hs; done)
          | (have hq := bif_some hs; cases hq.2)
      · exact stepOp_ptr hc hs
    · exact stepOp_ptr hc hs

end
end Go.Ex
/- Two operations that the text does not order change places. -/
set_option autoImplicit false
set_option linter.unusedVariables false
set_option linter.unusedSectionVars false
namespace Go.Ex

/-- one operation of a region, its result put -/
def step1 (E : EP) (k : Nat) (cfg : Cfg) (kp : List Nat) (fork : Bool) (all : List Oper) (o : Oper) (st : St) : Option St :=
  match guardOf all o with
  | none => none
  | some none => match runOp E k cfg none o st with
    | some (x, st') => some (putTV kp o.dst x st')
    | none => none
  | some (some (t, w)) => match fork with
    | true => match getG none st t with
      | some (.v (.b x)) => bif x == w then (match runOp E k cfg none o st with
          | some (x, st') => some (putTV kp o.dst x st')
          | none => none)
        else some (putTV kp o.dst (.v (.tp [])) st)
      | some (.v (.tp [])) => some (putTV kp o.dst (.v (.tp [])) st)
      | _ => none
    | false => match plainOp cfg o with
      | true => match runOp E k cfg (some (t, w)) o st with
        | some (x, st') => putC kp o.dst (t, w) x st'
        | none => none
      | false => none

/-- the temporaries that an operation looks at -/
def tmpsOf : List Operand → List Nat
  | [] => []
  | .tmp t :: r => t :: tmpsOf r
  | _ :: r => tmpsOf r
def looks (all : List Oper) (o : Oper) : List Nat :=
  match guardOf all o with
  | some (some (t, _)) => t :: tmpsOf o.op.operands.toList
  | _ => tmpsOf o.op.operands.toList

theorem mem_tmpsOf {t : Nat} : ∀ {L : List Operand}, Operand.tmp t ∈ L → t ∈ tmpsOf L
  | x :: r, h => by
    rcases List.mem_cons.1 h with e | h
    · subst e; simp [tmpsOf]
    · have := mem_tmpsOf h
      cases x <;> simp [tmpsOf, this]

theorem mem_looks {all : List Oper} {o : Oper} {t : Nat} (h : Operand.tmp t ∈ o.op.operands.toList) : t ∈ looks all o := by
  unfold looks
  split
  · exact List.mem_cons_of_mem _ (mem_tmpsOf h)
  · exact mem_tmpsOf h

/-- the local variable that a store turns -/
def stLoc (cfg : Cfg) (o : Oper) : Option Nat :=
  match o.op with
  | .store _ (.tmp a) _ => bif elemN cfg.loc a && o.dst.isNone then some a else none
  | _ => none
/-- where a load reads -/
def rootOf (cfg : Cfg) (o : Oper) : Option Nat :=
  match o.op with
  | .load _ _ => match o.dst with
    | some d => alook cfg.rts d
    | none => none
  | _ => none
def plainG (all : List Oper) (o : Oper) : Bool :=
  match guardOf all o with
  | some none => true
  | _ => false
/-- an operation that does not touch local variable a -/
def freeSt (E : EP) (cfg : Cfg) (all : List Oper) (a : Nat) (o : Oper) : Bool :=
  match stLoc cfg o with
  | some b => plainG all o && !Nat.beq a b
  | none => match rootOf cfg o with
    | some r => !Nat.beq r (a + 1)
    | none => match cls E cfg o with
      | 0 => true
      | 3 => true
      | 4 => true
      | 5 => true
      | _ => false
/-- a store into a local variable, and an operation that does not touch it -/
def stPair (E : EP) (cfg : Cfg) (all : List Oper) (oi oj : Oper) : Bool :=
  match stLoc cfg oi with
  | some a => plainG all oi && freeSt E cfg all a oj
  | none => false
def pairOk (E : EP) (cfg : Cfg) (all : List Oper) (oi oj : Oper) : Bool :=
  (freeOf (cls E cfg oi) (cls E cfg oj) || (stPair E cfg all oi oj || stPair E cfg all oj oi)) && (match oi.dst with
    | none => true
    | some d => !elemN (looks all oj) d && (match oj.dst with
      | none => true
      | some d' => !Nat.beq d d')) && (match oj.dst with
    | none => true
    | some d => !elemN (looks all oi) d)

theorem pairOk_spec {E : EP} {cfg : Cfg} {all : List Oper} {oi oj : Oper} (h : pairOk E cfg all oi oj = true) :
    (freeOf (cls E cfg oi) (cls E cfg oj) = true ∨ stPair E cfg all oi oj = true ∨ stPair E cfg all oj oi = true) ∧ (∀ d, oi.dst = some d → d ∉ looks all oj) ∧ (∀ d, oi.dst = some d → oj.dst ≠ some d) ∧ (∀ d, oj.dst = some d → d ∉ looks all oi) := by
  unfold pairOk at h
  simp only [Bool.and_eq_true] at h
  obtain ⟨⟨h1, h2⟩, h3⟩ := h
  simp only [Bool.or_eq_true] at h1
  refine ⟨h1, fun d hd => ?_, fun d hd => ?_, fun d hd => ?_⟩
  · rw [hd] at h2
    simp only [Bool.and_eq_true] at h2
    exact elemN_not h2.1
  · rw [hd] at h2
    simp only [Bool.and_eq_true] at h2
    intro e
    rw [e] at h2
    simp [Nat.beq_refl] at h2
  · rw [hd] at h3
    exact elemN_not h3

section
variable {E : EP} {st st' st1 st2 : St} {cfg : Cfg} {o oi oj : Oper} {kp : List Nat} {fork : Bool} {all : List Oper} {k : Nat}

/-- what one operation of a region comes to in another state -/
theorem step1_like (hs : step1 E k cfg kp fork all o st = some st') :
    ∃ g x e, putX kp o.dst g x (e.app st) = some st' ∧ (e = .none ∨ effOf (cls E cfg o) o x st e) ∧
      (∀ l off, x = .p l off → cls E cfg o ≤ 4 → ∃ t g' off', t ∈ looks all o ∧ getG g' st t = some (.p l off')) ∧ (∀ l off, x = .p l off → cls E cfg o = 5 → o.dst = some l) ∧
      ∀ st2, Like (cls E cfg o) o st st2 → (∀ t ∈ looks all o, getTV st t = getTV st2 t) → step1 E k cfg kp fork all o st2 = putX kp o.dst g x (e.app st2) := by
  have run : ∀ {g : Gd} {x : TV} {s1 : St}, runOp E k cfg g o st = some (x, s1) → ∃ e, s1 = e.app st ∧ effOf (cls E cfg o) o x st e ∧
      (∀ l off, x = .p l off → cls E cfg o ≤ 4 → ∃ t g' off', t ∈ looks all o ∧ getG g' st t = some (.p l off')) ∧ (∀ l off, x = .p l off → cls E cfg o = 5 → o.dst = some l) ∧
      ∀ st2, Like (cls E cfg o) o st st2 → runOp E k cfg g o st2 = some (x, e.app st2) := by
    intro g x s1 h
    obtain ⟨e, h1, h2, h3⟩ := runOp_like h
    refine ⟨e, h2, h1, fun l off hx hc => ?_, fun l off hx hc => ?_, h3⟩
    · subst hx
      obtain ⟨t, off', p1, p2⟩ := runOp_ptr hc h
      exact ⟨t, g, off', mem_looks p1, p2⟩
    · rw [hc] at h1
      obtain ⟨d, cs, p1, _, p3, _⟩ := h1
      rw [hx] at p3
      cases p3
      exact p1
  unfold step1 at hs
  cases hg : guardOf all o with
  | none => simp [hg] at hs
  | some gd =>
    cases gd with
    | none =>
      simp only [hg] at hs
      split at hs
      · rename_i x s1 hr
        cases hs
        obtain ⟨e, h1, h2, h3, h4, h5⟩ := run hr
        refine ⟨none, x, e, by rw [← h1]; rfl, Or.inr h2, h3, h4, fun st2 hl _ => ?_⟩
        unfold step1
        simp only [hg, h5 st2 hl]; rfl
      · cases hs
    | some tw =>
      obtain ⟨t, w⟩ := tw
      simp only [hg] at hs
      have htl : t ∈ looks all o := by unfold looks; rw [hg]; simp
      cases fork with
      | true =>
        simp only at hs
        split at hs
        · rename_i b hb
          cases hbw : (b == w) with
          | true =>
            rw [hbw] at hs
            simp only [cond_true] at hs
            split at hs
            · rename_i x s1 hr
              cases hs
              obtain ⟨e, h1, h2, h3, h4, h5⟩ := run hr
              refine ⟨none, x, e, by rw [← h1]; rfl, Or.inr h2, h3, h4, fun st2 hl hgt => ?_⟩
              unfold step1
              simp only [hg, getG_congr (gd := none) (hgt t htl), hb, hbw, cond_true, h5 st2 hl]; rfl
            · cases hs
          | false =>
            rw [hbw] at hs
            simp only [cond_false] at hs
            cases hs
            refine ⟨none, .v (.tp []), .none, rfl, Or.inl rfl, fun l off h => (by cases h), fun l off h => (by cases h), fun st2 hl hgt => ?_⟩
            unfold step1
            simp only [hg, getG_congr (gd := none) (hgt t htl), hb, hbw, cond_false]; rfl
        · rename_i hb
          cases hs
          refine ⟨none, .v (.tp []), .none, rfl, Or.inl rfl, fun l off h => (by cases h), fun l off h => (by cases h), fun st2 hl hgt => ?_⟩
          unfold step1
          simp only [hg, getG_congr (gd := none) (hgt t htl), hb]; rfl
        · cases hs
      | false =>
        simp only at hs
        cases hp : plainOp cfg o with
        | false => simp [hp] at hs
        | true =>
          simp only [hp] at hs
          split at hs
          · rename_i x s1 hr
            obtain ⟨e, h1, h2, h3, h4, h5⟩ := run hr
            refine ⟨some (t, w), x, e, by rw [← h1]; exact hs, Or.inr h2, h3, h4, fun st2 hl _ => ?_⟩
            unfold step1
            simp only [hg, hp, h5 st2 hl]; rfl
          · cases hs

/-- what one operation of a region comes to in another state, out of what its run comes to -/
theorem step1_gen {Pred : St → Prop} (run : ∀ {g : Gd} {x : TV} {s1 : St}, runOp E k cfg g o st = some (x, s1) → s1 = st ∧ ∀ st2, Pred st2 → runOp E k cfg g o st2 = some (x, st2)) (hs : step1 E k cfg kp fork all o st = some st') :
    ∃ (g : Gd) (x : TV), putX kp o.dst g x st = some st' ∧ ∀ st2, Pred st2 → (∀ t ∈ looks all o, getTV st t = getTV st2 t) → step1 E k cfg kp fork all o st2 = putX kp o.dst g x st2 := by
  unfold step1 at hs
  cases hg : guardOf all o with
  | none => simp [hg] at hs
  | some gd =>
    cases gd with
    | none =>
      simp only [hg] at hs
      split at hs
      · rename_i x s1 hr
        cases hs
        obtain ⟨h1, h5⟩ := run hr
        refine ⟨none, x, by rw [← h1]; rfl, fun st2 hl _ => ?_⟩
        unfold step1
        simp only [hg, h5 st2 hl]; rfl
      · cases hs
    | some tw =>
      obtain ⟨t, w⟩ := tw
      simp only [hg] at hs
      have htl : t ∈ looks all o := by unfold looks; rw [hg]; simp
      cases fork with
      | true =>
        simp only at hs
        split at hs
        · rename_i b hb
          cases hbw : (b == w) with
          | true =>
            rw [hbw] at hs
            simp only [cond_true] at hs
            split at hs
            · rename_i x s1 hr
              cases hs
              obtain ⟨h1, h5⟩ := run hr
              refine ⟨none, x, by rw [← h1]; rfl, fun st2 hl hgt => ?_⟩
              unfold step1
              simp only [hg, getG_congr (gd := none) (hgt t htl), hb, hbw, cond_true, h5 st2 hl]; rfl
            · cases hs
          | false =>
            rw [hbw] at hs
            simp only [cond_false] at hs
            cases hs
            refine ⟨none, .v (.tp []), rfl, fun st2 hl hgt => ?_⟩
            unfold step1
            simp only [hg, getG_congr (gd := none) (hgt t htl), hb, hbw, cond_false]; rfl
        · rename_i hb
          cases hs
          refine ⟨none, .v (.tp []), rfl, fun st2 hl hgt => ?_⟩
          unfold step1
          simp only [hg, getG_congr (gd := none) (hgt t htl), hb]; rfl
        · cases hs
      | false =>
        simp only at hs
        cases hp : plainOp cfg o with
        | false => simp [hp] at hs
        | true =>
          simp only [hp] at hs
          split at hs
          · rename_i x s1 hr
            obtain ⟨h1, h5⟩ := run hr
            refine ⟨some (t, w), x, by rw [← h1]; exact hs, fun st2 hl _ => ?_⟩
            unfold step1
            simp only [hg, hp, h5 st2 hl]; rfl
          · cases hs

theorem free_cases {a b : Nat} (ha : a ≤ 6) (hb : b ≤ 6) (h : freeOf a b = true) : a = 0 ∨ b = 0 ∨ (a ≠ 6 ∧ b ≠ 6 ∧ (a = 5 ∨ b = 5 ∨ (a = 4 ∧ b = 1) ∨ (a = 1 ∧ b = 4) ∨ (a ≠ 4 ∧ b ≠ 4))) := by
  have key : ∀ a ∈ List.range 7, ∀ b ∈ List.range 7, freeOf a b = true → a = 0 ∨ b = 0 ∨ (a ≠ 6 ∧ b ≠ 6 ∧ (a = 5 ∨ b = 5 ∨ (a = 4 ∧ b = 1) ∨ (a = 1 ∧ b = 4) ∨ (a ≠ 4 ∧ b ≠ 4))) := by decide
  exact key a (List.mem_range.2 (by omega)) b (List.mem_range.2 (by omega)) h

/-- what the effect of one leaves alike for another -/
theorem like_after {x : TV} {e : Eff} {g : Gd} {a b : Nat} (ha : a ≤ 6) (hb : b ≤ 6) (hf : freeOf a b = true ∨ freeOf b a = true) (he : e = .none ∨ effOf a oi x st e) (hfr : ∀ d cs, e = .loc d cs → Fresh d st)
    (hp : putX kp oi.dst g x (e.app st) = some st1) (hlk : ∀ d, oi.dst = some d → d ∉ looks all oj) (hfresh : b = 5 → ∀ d, oj.dst = some d → Fresh d st1) :
    Like b oj st st1 ∧ ∀ t ∈ looks all oj, getTV st t = getTV st1 t := by
  obtain ⟨p1, p2⟩ := putX_mem hp
  have hget : ∀ t ∈ looks all oj, getTV st t = getTV st1 t := fun t ht => by
    rw [putX_get hp (fun e => hlk t e ht), getTV_eff]
  have hc : a = 0 ∨ b = 0 ∨ (a ≠ 6 ∧ b ≠ 6 ∧ (a = 5 ∨ b = 5 ∨ (a = 4 ∧ b = 1) ∨ (a = 1 ∧ b = 4) ∨ (a ≠ 4 ∧ b ≠ 4))) := by
    rcases hf with h | h
    · exact free_cases ha hb h
    · have := free_cases hb ha h
      omega
  have hnone : a ≠ 4 → a ≠ 5 → a ≠ 6 → e = .none := fun h4 h5 h6 => by
    rcases he with rfl | he
    · rfl
    · unfold effOf at he
      split at he
      · exact (h4 rfl).elim
      · exact (h5 rfl).elim
      · exact (h6 rfl).elim
      · exact he
  have hheap4 : a = 4 → e = .none ∨ ∃ H, e = .heap H := fun h => by
    rcases he with rfl | he
    · exact Or.inl rfl
    · subst h; exact Or.inr he
  have hloc5 : a = 5 → e = .none ∨ ∃ d cs, e = .loc d cs := fun h => by
    rcases he with rfl | he
    · exact Or.inl rfl
    · subst h; obtain ⟨d, cs, _, h2, _⟩ := he; exact Or.inr ⟨d, cs, h2⟩
  refine ⟨⟨fun t ht => hget t (mem_looks ht), fun hb12 t ht gd l off hl => ?_, fun hb234 => ?_, hfresh, fun hb6 => ?_⟩, hget⟩
  · -- local variables that are pointed to
    rw [p1]
    have hsimple : e = .none ∨ (∃ H, e = .heap H) ∨ ∃ d cs, e = .loc d cs := by
      by_cases h4 : a = 4
      · rcases hheap4 h4 with h | h
        · exact Or.inl h
        · exact Or.inr (Or.inl h)
      · by_cases h5 : a = 5
        · rcases hloc5 h5 with h | h
          · exact Or.inl h
          · exact Or.inr (Or.inr h)
        · by_cases h6 : a = 6
          · exfalso; omega
          · exact Or.inl (hnone h4 h5 h6)
    rcases hsimple with rfl | ⟨H, rfl⟩ | ⟨d, cs, rfl⟩
    · rfl
    · rfl
    · have hd := hfr d cs rfl
      simp only [Eff.app, alook_aset]
      rw [if_neg]
      rintro rfl
      exact hd.get hl
  · rw [p2]
    have hsimple : e = .none ∨ ∃ d cs, e = .loc d cs := by
      by_cases h5 : a = 5
      · exact hloc5 h5
      · exact Or.inl (hnone (by omega) h5 (by omega))
    rcases hsimple with rfl | ⟨d, cs, rfl⟩ <;> rfl
  · rw [p1, p2, hnone (by omega) (by omega) (by omega)]
    exact ⟨rfl, rfl⟩

/-- effects commute -/
theorem eff_comm {x y : TV} {e f : Eff} {a b : Nat} (hs : Sorted st.locs) (ha : a ≤ 6) (hb : b ≤ 6) (hf : freeOf a b = true) (he : e = .none ∨ effOf a oi x st e) {s : St} (hf2 : f = .none ∨ effOf b oj y s f)
    (hne : ∀ d, oi.dst = some d → oj.dst ≠ some d) : f.app (e.app st) = e.app (f.app st) := by
  rcases he with rfl | he
  · rfl
  rcases hf2 with rfl | hf2
  · rfl
  have hc := free_cases ha hb hf
  have hi : a ≠ 4 → a ≠ 5 → a ≠ 6 → e = .none := fun h4 h5 h6 => by
    unfold effOf at he
    split at he
    · exact (h4 rfl).elim
    · exact (h5 rfl).elim
    · exact (h6 rfl).elim
    · exact he
  have hj : b ≠ 4 → b ≠ 5 → b ≠ 6 → f = .none := fun h4 h5 h6 => by
    unfold effOf at hf2
    split at hf2
    · exact (h4 rfl).elim
    · exact (h5 rfl).elim
    · exact (h6 rfl).elim
    · exact hf2
  by_cases i0 : a ≠ 4 ∧ a ≠ 5 ∧ a ≠ 6
  · rw [hi i0.1 i0.2.1 i0.2.2]; rfl
  by_cases j0 : b ≠ 4 ∧ b ≠ 5 ∧ b ≠ 6
  · rw [hj j0.1 j0.2.1 j0.2.2]; rfl
  have hab : (a = 4 ∧ b = 5) ∨ (a = 5 ∧ b = 4) ∨ (a = 5 ∧ b = 5) := by omega
  rcases hab with ⟨rfl, rfl⟩ | ⟨rfl, rfl⟩ | ⟨rfl, rfl⟩
  · obtain ⟨H, rfl⟩ := he
    obtain ⟨d, cs, _, rfl, _⟩ := hf2
    rfl
  · obtain ⟨H, rfl⟩ := hf2
    obtain ⟨d, cs, _, rfl, _⟩ := he
    rfl
  · obtain ⟨d, cs, h1, rfl, _⟩ := he
    obtain ⟨d', cs', h1', rfl, _⟩ := hf2
    have hdd : d' ≠ d := fun e => hne d h1 (by rw [h1', e])
    simp only [Eff.app]
    rw [aset_comm hs hdd]

theorem swapF (hs : st.Sorted) (hL : Sorted st.locs) (hf : freeOf (cls E cfg oi) (cls E cfg oj) = true) (hd1 : ∀ d, oi.dst = some d → d ∉ looks all oj) (hd2 : ∀ d, oi.dst = some d → oj.dst ≠ some d) (hd3 : ∀ d, oj.dst = some d → d ∉ looks all oi) (hfresh : cls E cfg oj = 5 → ∀ d, oj.dst = some d → Fresh d st) (hfreshi : cls E cfg oi = 5 → ∀ d, oi.dst = some d → Fresh d st)
    (h1 : step1 E k cfg kp fork all oi st = some st1) (h2 : step1 E k cfg kp fork all oj st1 = some st') :
    ∃ st2, step1 E k cfg kp fork all oj st = some st2 ∧ step1 E k cfg kp fork all oi st2 = some st' := by
  have ha := @cls_le E cfg oi
  have hb := @cls_le E cfg oj
  obtain ⟨gi, xi, ei, pi, fi, qi, ri, ti⟩ := step1_like h1
  obtain ⟨gj, xj, ej, pj, fj, qj, rj, tj⟩ := step1_like h2
  generalize hka : cls E cfg oi = a at *
  generalize hkb : cls E cfg oj = b at *
  have freshi : ∀ d cs, ei = .loc d cs → a = 5 ∧ oi.dst = some d ∧ Fresh d st := by
    intro d cs he
    rcases fi with h | h
    · rw [h] at he; cases he
    · unfold effOf at h
      split at h
      · obtain ⟨H, h⟩ := h; rw [h] at he; cases he
      · obtain ⟨d', cs', h3, h4, h5, h6⟩ := h
        rw [h4] at he; cases he
        exact ⟨rfl, h3, h6⟩
      · obtain ⟨L, H, h⟩ := h; rw [h] at he; cases he
      · rw [h] at he; cases he
  -- j first
  have likej : Like b oj st st1 ∧ ∀ t ∈ looks all oj, getTV st t = getTV st1 t := by
    refine like_after ha hb (Or.inl hf) fi (fun d cs he => (freshi d cs he).2.2) pi hd1 (fun h5 d hd => ?_)
    -- what j makes is new there
    rcases fj with h | h
    · -- j did not run: then nothing is asked; but it is fresh all the same
      have hfd := hfresh h5 d hd
      refine Fresh.put (eff_sorted hs) (hfd.eff (fun cs e => ?_) (fun L H e => ?_)) (fun off hx => ?_) pi
      · obtain ⟨_, k2, _⟩ := freshi d cs e
        exact hd2 d k2 hd
      · rcases fi with h' | h'
        · rw [h'] at e; cases e
        · subst h5
          exfalso
          have hc := free_cases ha hb hf
          unfold effOf at h'
          split at h'
          · obtain ⟨H', h'⟩ := h'; rw [h'] at e; cases e
          · obtain ⟨d', cs', _, h', _⟩ := h'; rw [h'] at e; cases e
          · omega
          · rw [h'] at e; cases e
      · have hc := free_cases ha hb hf
        by_cases ha5 : a = 5
        · exact hd2 d (ri d off hx ha5) hd
        · obtain ⟨t, g', off', k1, k2⟩ := qi d off hx (by omega)
          exact hfd.get k2
    · subst h5
      obtain ⟨d', cs', k1, k2, k3, k4⟩ := h
      rw [hd] at k1; cases k1
      exact k4
  have likej' : Like b oj st1 st := by
    obtain ⟨⟨l1, l2, l3, l4, l5⟩, _⟩ := likej
    refine ⟨fun t ht => (l1 t ht).symm, fun h t ht gd l off hl => ?_, fun h => (l3 h).symm, hfresh, fun h => ⟨(l5 h).1.symm, (l5 h).2.symm⟩⟩
    exact (l2 h t ht gd l off (by rw [← getG_congr (l1 t ht)]; exact hl)).symm
  have sj := tj st likej' (fun t ht => (likej.2 t ht).symm)
  -- the results
  have c1 : putX kp oi.dst gi xi (ej.app (ei.app st)) = some (ej.app st1) := by rw [putX_eff, pi]; rfl
  obtain ⟨s2', d1, d2⟩ := putX_comm (eff_sorted (eff_sorted hs)) hd2 c1 pj
  rw [eff_comm hL ha hb hf fi fj hd2] at d1
  rw [putX_eff] at d1
  cases hq : putX kp oj.dst gj xj (ej.app st) with
  | none => rw [hq] at d1; cases d1
  | some s2 =>
    rw [hq, Option.map_some, Option.some.injEq] at d1
    subst d1
    refine ⟨s2, by rw [sj, hq], ?_⟩
    have freshj : ∀ d cs, ej = .loc d cs → b = 5 ∧ oj.dst = some d ∧ Fresh d st := by
      intro d cs he
      rcases fj with h | h
      · rw [h] at he; cases he
      · unfold effOf at h
        split at h
        · obtain ⟨H, h⟩ := h; rw [h] at he; cases he
        · obtain ⟨d', cs', h3, h4, h5, h6⟩ := h
          rw [h4] at he; cases he
          exact ⟨rfl, h3, hfresh rfl d h3⟩
        · obtain ⟨L, H, h⟩ := h; rw [h] at he; cases he
        · rw [h] at he; cases he
    have fj' : ej = .none ∨ effOf b oj xj st ej := by
      rcases fj with h | h
      · exact Or.inl h
      · by_cases h5 : b = 5
        · subst h5
          obtain ⟨d, cs, h3, h4, h5, h6⟩ := h
          exact Or.inr ⟨d, cs, h3, h4, h5, hfresh rfl d h3⟩
        · refine Or.inr ?_
          unfold effOf at h ⊢
          split
          · exact h
          · exact (h5 rfl).elim
          · exact h
          · rename_i n4 n5 n6
            split at h
            · exact (n4 rfl).elim
            · exact (n5 rfl).elim
            · exact (n6 rfl).elim
            · exact h
    have likei : Like a oi st s2 ∧ ∀ t ∈ looks all oi, getTV st t = getTV s2 t := by
      refine like_after hb ha (Or.inr hf) fj' (fun d cs he => (freshj d cs he).2.2) hq hd3 (fun h5 d hd => ?_)
      -- what i makes is new there
      have key : Fresh d st → Fresh d s2 := fun hfd => by
        refine Fresh.put (eff_sorted hs) (hfd.eff (fun cs e => ?_) (fun L H e => ?_)) (fun off hx => ?_) hq
        · obtain ⟨_, k2, _⟩ := freshj d cs e
          exact hd2 d hd k2
        · rcases fj with h' | h'
          · rw [h'] at e; cases e
          · subst h5
            exfalso
            have hc := free_cases ha hb hf
            unfold effOf at h'
            split at h'
            · obtain ⟨H', h'⟩ := h'; rw [h'] at e; cases e
            · obtain ⟨d', cs', _, h', _⟩ := h'; rw [h'] at e; cases e
            · omega
            · rw [h'] at e; cases e
        · have hc := free_cases ha hb hf
          by_cases hb5 : b = 5
          · exact hd2 d hd (rj d off hx hb5)
          · obtain ⟨t, g', off', k1, k2⟩ := qj d off hx (by omega)
            rw [← getG_congr (gd := g') (likej.2 t k1).symm] at k2
            exact hfd.get k2
      exact key (hfreshi h5 d hd)
    rw [ti s2 likei.1 likei.2, d2]

/-- what a store into a local variable does -/
theorem stLoc_spec {a : Nat} (hl : stLoc cfg o = some a) : ∃ t y, o.op = .store t (.tmp a) y ∧ o.dst = none ∧ elemN cfg.loc a = true := by
  unfold stLoc at hl
  split at hl
  · rename_i t b y hop
    obtain ⟨hb, hl⟩ := bif_some hl
    cases hl
    simp only [Bool.and_eq_true, Option.isNone_iff_eq_none] at hb
    exact ⟨t, y, hop, hb.2, hb.1⟩
  · cases hl
theorem plainG_spec (h : plainG all o = true) : guardOf all o = some none := by
  unfold plainG at h
  split at h
  · assumption
  · cases h
theorem store_step {a : Nat} (hl : stLoc cfg o = some a) (hg : plainG all o = true) (hs : step1 E k cfg kp fork all o st = some st') :
    ∃ cs, (alook st.locs a).isSome = true ∧ st' = (Eff.loc a cs).app st ∧ ∀ st2, (∀ t ∈ looks all o, getTV st t = getTV st2 t) → alook st2.locs a = alook st.locs a → step1 E k cfg kp fork all o st2 = some ((Eff.loc a cs).app st2) := by
  obtain ⟨t, y, hop, hdst, hla⟩ := stLoc_spec hl
  have hgo := plainG_spec hg
  have heq : ∀ s, step1 E k cfg kp fork all o s = match runOp E k cfg none o s with | some (x, s') => some s' | none => none := by
    intro s
    unfold step1
    simp only [hgo, hdst]
    rfl
  rw [heq] at hs
  cases k with
  | zero => simp [runOp] at hs
  | succ n =>
    have hrun : ∀ s, runOp E (n + 1) cfg none o s = stepOp E cfg none o s := by
      intro s; rw [runOp]; simp only [hop]
    rw [hrun] at hs
    simp only [stepOp, hop] at hs
    cases hp : getP E 0 none st (.tmp a) with
    | none => rw [hp] at hs; cases hs
    | some p =>
      rw [hp] at hs
      simp only at hs
      cases hso : storeOk cfg (.tmp a) p with
      | false => rw [hso] at hs; cases hs
      | true =>
        rw [hso] at hs
        simp only at hs
        cases p with
        | v z => simp [storeOk, hla] at hso
        | p l off =>
          have hl : l = a := by simp only [storeOk, hla, cond_true] at hso; exact Nat.eq_of_beq_eq_true hso
          subst hl
          cases hv : getA E t none st y with
          | none => rw [hv] at hs; cases hs
          | some v =>
            rw [hv] at hs
            simp only [storeAt] at hs
            cases hcs : alook st.locs l with
            | none => rw [hcs] at hs; cases hs
            | some cs =>
              rw [hcs] at hs
              simp only at hs
              cases hb : (Nat.beq (cellsOf v).length (sizeT E t) && Nat.blt 0 (sizeT E t)) with
              | false => rw [hb] at hs; cases hs
              | true =>
                rw [hb] at hs
                simp only [cond_true] at hs
                cases hly : lay cs off (cellsOf v) with
                | none => rw [hly] at hs; cases hs
                | some cs' =>
                  rw [hly] at hs
                  simp only at hs
                  cases hs
                  refine ⟨cs', by simp, rfl, fun st2 hA hl2 => ?_⟩
                  rw [heq, hrun]
                  have hA' : AgreeT o.op.operands.toList st st2 := fun u hu => hA u (mem_looks hu)
                  simp only [stepOp, hop]
                  rw [getP_congr hA' (x := .tmp l) (by simp [hop, Op.operands]), hp]
                  simp only [hso]
                  rw [getA_congr hA' (x := y) (by simp [hop, Op.operands]), hv]
                  simp only [storeAt, hl2, hb, hly, cond_true]
                  rfl
theorem rts_get {pt : TV} {d r : Nat} : ∀ (R : List (Nat × Nat)), rtsOk R d pt = true → alook R d = some r → ∀ l off, pt = .p l off → r = l + 1
  | [], _, h => by simp [alook] at h
  | (k0, r0) :: R, h1, h2 => by
    intro l off hpt
    simp only [rtsOk, alook] at h1 h2
    cases hb : Nat.beq k0 d with
    | true =>
      rw [hb] at h1 h2
      simp only [cond_true, Option.some.injEq] at h1 h2
      rw [hpt] at h1
      rw [← h2]; exact Nat.eq_of_beq_eq_true h1
    | false =>
      rw [hb] at h1 h2
      exact rts_get R h1 h2 l off hpt
/-- a load that is known to read elsewhere -/
theorem load_run {a t d r : Nat} {y : Operand} (hop : o.op = .load t y) (hd : o.dst = some d) (hrt : alook cfg.rts d = some r) (hne : r ≠ a + 1) {g : Gd} {x : TV} {s1 : St} (hx : runOp E k cfg g o st = some (x, s1)) :
    s1 = st ∧ ∀ st2, (AgreeT o.op.operands.toList st st2 ∧ st2.heap = st.heap ∧ ∀ l, l ≠ a → alook st2.locs l = alook st.locs l) → runOp E k cfg g o st2 = some (x, st2) := by
  cases k with
  | zero => simp [runOp] at hx
  | succ n =>
    have hrun : ∀ s, runOp E (n + 1) cfg g o s = stepOp E cfg g o s := by
      intro s; rw [runOp]; simp only [hop]
    rw [hrun] at hx
    simp only [stepOp, hop] at hx
    cases hp : getP E 0 g st y with
    | none => rw [hp] at hx; cases hx
    | some pt =>
      rw [hp] at hx
      simp only at hx
      cases hlo : loadOk cfg o.dst pt with
      | false => rw [hlo] at hx; cases hx
      | true =>
        rw [hlo] at hx
        simp only at hx
        cases hla : loadAt E t st pt with
        | none => rw [hla] at hx; cases hx
        | some v =>
          rw [hla] at hx
          simp only at hx
          cases hx
          refine ⟨rfl, fun st2 ⟨hA, hh, hl⟩ => ?_⟩
          rw [hrun]
          simp only [stepOp, hop]
          rw [getP_congr hA (x := y) (by simp [hop, Op.operands]), hp]
          simp only [hlo]
          have hsame : loadAt E t st2 pt = loadAt E t st pt := by
            cases pt with
            | v z => cases z <;> simp only [loadAt, hh]
            | p l off =>
              rw [hd] at hlo
              simp only [loadOk, Bool.and_eq_true] at hlo
              have := rts_get cfg.rts hlo.2 hrt l off rfl
              simp only [loadAt, hl l (by omega)]
          rw [hsame, hla]
/-- what an operation that does not touch a local variable comes to when that variable is another -/
theorem free_step {a : Nat} (hst : stLoc cfg o = none) (hf : freeSt E cfg all a o = true) (hs : step1 E k cfg kp fork all o st = some st') :
    ∃ (g : Gd) (x : TV) (e : Eff), putX kp o.dst g x (e.app st) = some st' ∧ (e = .none ∨ (∃ H, e = .heap H) ∨ ∃ d cs, e = .loc d cs ∧ o.dst = some d ∧ cls E cfg o = 5 ∧ Fresh d st) ∧
      ∀ st2, (∀ t ∈ looks all o, getTV st t = getTV st2 t) → st2.heap = st.heap → (∀ l, l ≠ a → alook st2.locs l = alook st.locs l) → (cls E cfg o = 5 → ∀ d, o.dst = some d → Fresh d st2) → step1 E k cfg kp fork all o st2 = putX kp o.dst g x (e.app st2) := by
  unfold freeSt at hf
  rw [hst] at hf
  simp only at hf
  cases hr : rootOf cfg o with
  | some r =>
    rw [hr] at hf
    simp only at hf
    have hne : r ≠ a + 1 := fun e => by rw [e] at hf; simp [Nat.beq_refl] at hf
    unfold rootOf at hr
    split at hr
    · rename_i t y hop
      split at hr
      · rename_i d hd
        obtain ⟨g, x, h1, h2⟩ := step1_gen (fun hx => load_run (a := a) hop hd hr hne hx) hs
        exact ⟨g, x, .none, h1, Or.inl rfl, fun st2 hA hh hl _ => h2 st2 ⟨fun t ht => hA t (mem_looks ht), hh, hl⟩ hA⟩
      · cases hr
    · cases hr
  | none =>
    rw [hr] at hf
    simp only at hf
    have hk : cls E cfg o = 0 ∨ cls E cfg o = 3 ∨ cls E cfg o = 4 ∨ cls E cfg o = 5 := by
      split at hf
      · rename_i h; exact Or.inl h
      · rename_i h; exact Or.inr (Or.inl h)
      · rename_i h; exact Or.inr (Or.inr (Or.inl h))
      · rename_i h; exact Or.inr (Or.inr (Or.inr h))
      · cases hf
    obtain ⟨g, x, e, p, f, q, r, tr⟩ := step1_like hs
    refine ⟨g, x, e, p, ?_, fun st2 hA hh hl hfr => tr st2 ?_ hA⟩
    · rcases f with f | f
      · exact Or.inl f
      · unfold effOf at f
        split at f
        · exact Or.inr (Or.inl f)
        · rename_i h5
          obtain ⟨d, cs, h1, h2, h3, h4⟩ := f
          exact Or.inr (Or.inr ⟨d, cs, h2, h1, h5, h4⟩)
        · omega
        · exact Or.inl f
    · exact ⟨fun t ht => hA t (mem_looks ht), fun h12 => by omega, fun _ => hh, hfr, fun h6 => by omega⟩
theorem swapS {a : Nat} (hs : st.Sorted) (hL : Sorted st.locs) (hla : stLoc cfg oi = some a) (hg : plainG all oi = true) (hf : freeSt E cfg all a oj = true) (hd3 : ∀ d, oj.dst = some d → d ∉ looks all oi) :
    (∀ {st1 st'}, (cls E cfg oj = 5 → ∀ d, oj.dst = some d → Fresh d st) → step1 E k cfg kp fork all oi st = some st1 → step1 E k cfg kp fork all oj st1 = some st' → ∃ st2, step1 E k cfg kp fork all oj st = some st2 ∧ step1 E k cfg kp fork all oi st2 = some st') ∧
    (∀ {st1 st'}, (cls E cfg oj = 5 → ∀ d, oj.dst = some d → Fresh d st) → step1 E k cfg kp fork all oj st = some st1 → step1 E k cfg kp fork all oi st1 = some st' → ∃ st2, step1 E k cfg kp fork all oi st = some st2 ∧ step1 E k cfg kp fork all oj st2 = some st') := by
  obtain ⟨ti, yi, hopi, hdi, _⟩ := stLoc_spec hla
  have hain : a ∈ looks all oi := mem_looks (by simp [hopi, Op.operands])
  have hda : ∀ d, oj.dst = some d → d ≠ a := fun d hd e => hd3 d hd (by rw [e]; exact hain)
  cases hlj : stLoc cfg oj with
  | some b =>
    -- two stores
    have hne : a ≠ b ∧ plainG all oj = true := by
      unfold freeSt at hf
      rw [hlj] at hf
      simp only [Bool.and_eq_true] at hf
      exact ⟨fun e => by have := hf.2; rw [e] at this; simp [Nat.beq_refl] at this, hf.1⟩
    have two : ∀ {o1 o2 : Oper} {a b : Nat} {st st1 st' : St}, Sorted st.locs → a ≠ b → stLoc cfg o1 = some a → plainG all o1 = true → stLoc cfg o2 = some b → plainG all o2 = true → step1 E k cfg kp fork all o1 st = some st1 → step1 E k cfg kp fork all o2 st1 = some st' → ∃ st2, step1 E k cfg kp fork all o2 st = some st2 ∧ step1 E k cfg kp fork all o1 st2 = some st' := by
      intro o1 o2 a b st st1 st' hL hne l1 g1 l2 g2 h1 h2
      obtain ⟨cs, i1, i2, i3⟩ := store_step l1 g1 h1
      obtain ⟨cs', j1, j2, j3⟩ := store_step l2 g2 h2
      subst i2
      have hb : alook ((Eff.loc a cs).app st).locs b = alook st.locs b := by simp only [Eff.app, alook_aset]; rw [if_neg hne]
      refine ⟨(Eff.loc b cs').app st, j3 st (fun t _ => getTV_eff) hb.symm, ?_⟩
      rw [i3 _ (fun t _ => getTV_eff.symm) (by simp only [Eff.app, alook_aset]; rw [if_neg (fun e => hne e.symm)]), j2]
      simp only [Eff.app]
      rw [aset_comm hL hne]
    exact ⟨fun _ h1 h2 => two hL hne.1 hla hg hlj hne.2 h1 h2, fun _ h1 h2 => two hL (fun e => hne.1 e.symm) hlj hne.2 hla hg h1 h2⟩
  | none =>
    have looksEff : ∀ {e : Eff} {s : St} {t : Nat}, getTV (e.app s) t = getTV s t := getTV_eff
    constructor
    · intro st1 st' hfr h1 h2
      obtain ⟨cs, i1, i2, i3⟩ := store_step hla hg h1
      subst i2
      obtain ⟨g, x, e, p, he, tr⟩ := free_step (a := a) hlj hf h2
      have hst := tr st (fun t _ => getTV_eff) rfl (fun l hl => by simp only [Eff.app, alook_aset]; rw [if_neg (fun e => hl e.symm)]) hfr
      -- the effects commute
      have hcomm : e.app ((Eff.loc a cs).app st) = (Eff.loc a cs).app (e.app st) := by
        rcases he with rfl | ⟨H, rfl⟩ | ⟨d, cs', rfl, h3, _, _⟩
        · rfl
        · rfl
        · simp only [Eff.app]; rw [aset_comm hL (hda d h3)]
      rw [hcomm, putX_eff] at p
      cases hq : putX kp oj.dst g x (e.app st) with
      | none => rw [hq] at p; cases p
      | some s2 =>
        rw [hq, Option.map_some, Option.some.injEq] at p
        refine ⟨s2, by rw [hst, hq], ?_⟩
        have hs2 : alook s2.locs a = alook st.locs a := by
          rw [(putX_mem hq).1]
          rcases he with rfl | ⟨H, rfl⟩ | ⟨d, cs', rfl, h3, _, _⟩
          · rfl
          · rfl
          · simp only [Eff.app, alook_aset]; rw [if_neg (hda d h3)]
        rw [i3 s2 (fun t ht => by rw [putX_get hq (fun e => hd3 t e ht), getTV_eff]) hs2, p]
    · intro st1 st' hfr h1 h2
      obtain ⟨g, x, e, p, he, tr⟩ := free_step (a := a) hlj hf h1
      obtain ⟨cs, i1, i2, i3⟩ := store_step hla hg h2
      have hla1 : alook st.locs a = alook st1.locs a := by
        rw [(putX_mem p).1]
        rcases he with rfl | ⟨H, rfl⟩ | ⟨d, cs', rfl, h3, _, _⟩
        · rfl
        · rfl
        · simp only [Eff.app, alook_aset]; rw [if_neg (hda d h3)]
      have hget : ∀ t ∈ looks all oi, getTV st1 t = getTV st t := fun t ht => by rw [putX_get p (fun e => hd3 t e ht), getTV_eff]
      refine ⟨(Eff.loc a cs).app st, i3 st hget hla1, ?_⟩
      rw [tr _ (fun t _ => getTV_eff.symm) rfl (fun l hl => by simp only [Eff.app, alook_aset]; rw [if_neg (fun e => hl e.symm)]) (fun h5 d hd => (hfr h5 d hd).eff (fun cs2 e => by cases e; exact hda _ hd rfl) (fun L H e => by cases e))]
      have hcomm : e.app ((Eff.loc a cs).app st) = (Eff.loc a cs).app (e.app st) := by
        rcases he with rfl | ⟨H, rfl⟩ | ⟨d, cs', rfl, h3, _, _⟩
        · rfl
        · rfl
        · simp only [Eff.app]; rw [aset_comm hL (hda d h3)]
      rw [hcomm, putX_eff, p, i2]; rfl
theorem swap (hs : st.Sorted) (hL : Sorted st.locs) (hok : pairOk E cfg all oi oj = true) (hfresh : cls E cfg oj = 5 → ∀ d, oj.dst = some d → Fresh d st) (hfreshi : cls E cfg oi = 5 → ∀ d, oi.dst = some d → Fresh d st)
    (h1 : step1 E k cfg kp fork all oi st = some st1) (h2 : step1 E k cfg kp fork all oj st1 = some st') :
    ∃ st2, step1 E k cfg kp fork all oj st = some st2 ∧ step1 E k cfg kp fork all oi st2 = some st' := by
  obtain ⟨hf, hd1, hd2, hd3⟩ := pairOk_spec hok
  rcases hf with hf | hf | hf
  · exact swapF hs hL hf hd1 hd2 hd3 hfresh hfreshi h1 h2
  · unfold stPair at hf
    split at hf
    · rename_i a hla
      simp only [Bool.and_eq_true] at hf
      exact (swapS hs hL hla hf.1 hf.2 hd3).1 hfresh h1 h2
    · cases hf
  · unfold stPair at hf
    split at hf
    · rename_i a hla
      simp only [Bool.and_eq_true] at hf
      exact (swapS hs hL hla hf.1 hf.2 hd1).2 hfreshi h1 h2
    · cases hf

end
end Go.Ex
