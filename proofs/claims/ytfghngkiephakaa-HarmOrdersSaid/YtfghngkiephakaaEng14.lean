/- The evaluator of this proof, part 14. -/
import Derived.Test.YtfghngkiephakaaEng13
set_option linter.unnecessarySimpa false
set_option linter.unusedVariables false
set_option linter.unusedSimpArgs false
set_option linter.unusedSectionVars false
set_option linter.deprecated false
/- What kinds of operations there are: by what they read and turn. -/
set_option autoImplicit false
set_option linter.unusedVariables false
set_option linter.unusedSectionVars false
namespace Go.Ex

/-- 0: looks at its operands alone; 1: reads local variables too; 2: reads all memory; 3: a call that turns nothing; 4: reads and turns the heap; 5: makes a local variable; 6: anything -/
def cls (E : EP) (cfg : Cfg) (o : Oper) : Nat :=
  match o.op with
  | .move _ | .pick .. | .nilCheck _ | .binOp .. | .unOp .. | .convert .. | .fieldAddr .. | .field .. | .indexAddr .. | .index .. | .extract .. | .makeFunc .. | .build .. => 0
  | .assign _ => match o.dst with
    | some d => bif elemN cfg.own d then 6 else 0
    | none => 6
  | .buildSlice .. => match o.dst with
    | some d => bif elemN cfg.own d then 4 else 0
    | none => 6
  | .makeSlice .. => match o.dst with
    | some d => bif elemN cfg.imm d then 0 else 4
    | none => 6
  | .alloc _ | .box .. => match o.dst with
    | some d => bif elemN cfg.loc d then 5 else 4
    | none => 6
  | .load .. => match o.dst with
    | some d => bif elemN cfg.lld d then 1 else 2
    | none => 6
  | .lookup .. | .slice .. => 2
  | .makeMap .. | .mapUpdate .. | .range .. | .next .. => 4
  | .call c => match c.callee with
    | .builtin b => match b with
      | .len => 2
      | .max => 0
      | .min => 0
      | .append => 4
      | .copy => 4
      | _ => 6
    | .value (.func f) => match E.fn f with
      | some fi => bif Nat.beq fi.mode 1 then 3 else 4
      | none => 3
    | .value _ => 4
    | _ => 6
  | _ => 6

/-- may two operations that the text does not order change places? -/
def freeOf (a b : Nat) : Bool :=
  match a, b with
  | 0, _ => true
  | _, 0 => true
  | 6, _ => false
  | _, 6 => false
  | 5, _ => true
  | _, 5 => true
  | 4, 1 => true
  | 1, 4 => true
  | 4, _ => false
  | _, 4 => false
  | _, _ => true

end Go.Ex
/- Operations that do not look at the local variables; that do not look at the heap. -/
set_option autoImplicit false
set_option linter.unusedVariables false
set_option linter.unusedSectionVars false
namespace Go.Ex
section
variable {E : EP} {st st1 : St} {gd : Gd} {cfg : Cfg} {o : Oper} {x : TV}

theorem getTV_locs (L : List (Nat × List AV)) (t : Nat) : getTV { st with locs := L } t = getTV st t := rfl
theorem getTV_heap (H : List OB) (t : Nat) : getTV { st with heap := H } t = getTV st t := rfl
theorem getA_locs (L : List (Nat × List AV)) (ty : Nat) (gd : Gd) (y : Operand) : getA E ty gd { st with locs := L } y = getA E ty gd st y := by cases y <;> rfl
theorem getA_heap (H : List OB) (ty : Nat) (gd : Gd) (y : Operand) : getA E ty gd { st with heap := H } y = getA E ty gd st y := by cases y <;> rfl
theorem getP_locs (L : List (Nat × List AV)) (ty : Nat) (gd : Gd) (y : Operand) : getP E ty gd { st with locs := L } y = getP E ty gd st y := by cases y <;> rfl
theorem getP_heap (H : List OB) (ty : Nat) (gd : Gd) (y : Operand) : getP E ty gd { st with heap := H } y = getP E ty gd st y := by cases y <;> rfl
theorem getAs_heap (H : List OB) (gd : Gd) : ∀ (ys : List Operand) (ts : List Nat), getAs E gd { st with heap := H } ys ts = getAs E gd st ys ts
  | [], _ => rfl
  | y :: ys, ts => by unfold getAs; rw [getA_heap, getAs_heap H gd ys]
theorem getAs_locs (L : List (Nat × List AV)) (gd : Gd) : ∀ (ys : List Operand) (ts : List Nat), getAs E gd { st with locs := L } ys ts = getAs E gd st ys ts
  | [], _ => rfl
  | y :: ys, ts => by unfold getAs; rw [getA_locs, getAs_locs L gd ys]
theorem getParts_heap (H : List OB) (gd : Gd) (ty : Nat → Nat) : ∀ (ps : List (Nat × Operand)), getParts E gd { st with heap := H } ty ps = getParts E gd st ty ps
  | [] => rfl
  | (i, y) :: ps => by unfold getParts; rw [getA_heap, getParts_heap H gd ty ps]
theorem getParts_locs (L : List (Nat × List AV)) (gd : Gd) (ty : Nat → Nat) : ∀ (ps : List (Nat × Operand)), getParts E gd { st with locs := L } ty ps = getParts E gd st ty ps
  | [] => rfl
  | (i, y) :: ps => by unfold getParts; rw [getA_locs, getParts_locs L gd ty ps]

end
end Go.Ex
/- Operations that look at their operands alone. -/
set_option autoImplicit false
set_option linter.unusedVariables false
set_option linter.unusedSectionVars false
namespace Go.Ex
section
variable {E : EP} {st st2 st1 : St} {gd : Gd} {cfg : Cfg} {o : Oper} {x : TV}

theorem cls0_any (hc : cls E cfg o = 0) (hA : AgreeT o.op.operands.toList st st2) (hs : stepOp E cfg gd o st = some (x, st1)) : st1 = st ∧ stepOp E cfg gd o st2 = some (x, st2) := by
  unfold cls at hc
  cases hop : o.op <;> simp only [stepOp, hop] at hs hc ⊢ <;> try (first | (cases hs; done) | (cases hc; done))
  case assign y =>
    cases hd : o.dst with
    | none => simp only [hd] at hc; cases hc
    | some d =>
      simp only [hd] at hc hs ⊢
      cases hb : elemN cfg.own d with
      | true => rw [hb] at hc; cases hc
      | false =>
        simp only [hb, cond_false] at hs ⊢
        rw [getP_congr hA (x := y) (by simp [hop, Op.operands])]
        split at hs
        · cases hs; exact ⟨rfl, by simp_all⟩
        · cases hs
  case nilCheck y =>
    try simp only [cond_eq_ite] at hs hc ⊢
    simp only [getP_congr hA (x := y) (by simp [hop, Op.operands])]
    repeat' split at hs
    all_goals first
      | (cases hs; done)
      | (cases hs; simp_all)
  case binOp op t y z u =>
    try simp only [cond_eq_ite] at hs hc ⊢
    simp only [getA_congr hA (x := y) (by simp [hop, Op.operands]), getA_congr hA (x := z) (by simp [hop, Op.operands])]
    repeat' split at hs
    all_goals first
      | (cases hs; done)
      | (cases hs; simp_all)
  case unOp op t y =>
    try simp only [cond_eq_ite] at hs hc ⊢
    simp only [getA_congr hA (x := y) (by simp [hop, Op.operands])]
    repeat' split at hs
    all_goals first
      | (cases hs; done)
      | (cases hs; simp_all)
  case convert s d y =>
    try simp only [cond_eq_ite] at hs hc ⊢
    simp only [getA_congr hA (x := y) (by simp [hop, Op.operands])]
    repeat' split at hs
    all_goals first
      | (cases hs; done)
      | (cases hs; simp_all)
  case makeSlice t y z =>
    try simp only [cond_eq_ite] at hs hc ⊢
    simp only [getA_congr hA (x := y) (by simp [hop, Op.operands]), getA_congr hA (x := z) (by simp [hop, Op.operands])]
    repeat' split at hs
    all_goals first
      | (cases hs; done)
      | (cases hs; simp_all)
  case fieldAddr t y f =>
    try simp only [cond_eq_ite] at hs hc ⊢
    simp only [getP_congr hA (x := y) (by simp [hop, Op.operands])]
    repeat' split at hs
    all_goals first
      | (cases hs; done)
      | (cases hs; simp_all)
  case field t y f =>
    try simp only [cond_eq_ite] at hs hc ⊢
    simp only [getA_congr hA (x := y) (by simp [hop, Op.operands])]
    repeat' split at hs
    all_goals first
      | (cases hs; done)
      | (cases hs; simp_all)
  case indexAddr t y z =>
    try simp only [cond_eq_ite] at hs hc ⊢
    simp only [getA_congr hA (x := y) (by simp [hop, Op.operands]), getP_congr hA (x := y) (by simp [hop, Op.operands]), getA_congr hA (x := z) (by simp [hop, Op.operands])]
    repeat' split at hs
    all_goals first
      | (cases hs; done)
      | (cases hs; simp_all)
  case index t y z =>
    try simp only [cond_eq_ite] at hs hc ⊢
    simp only [getA_congr hA (x := y) (by simp [hop, Op.operands]), getA_congr hA (x := z) (by simp [hop, Op.operands])]
    repeat' split at hs
    all_goals first
      | (cases hs; done)
      | (cases hs; simp_all)
  case extract y k =>
    try simp only [cond_eq_ite] at hs hc ⊢
    simp only [getA_congr hA (x := y) (by simp [hop, Op.operands])]
    repeat' split at hs
    all_goals first
      | (cases hs; done)
      | (cases hs; simp_all)
  case move y =>
    try simp only [cond_eq_ite] at hs hc ⊢
    simp only [getP_congr hA (x := y) (by simp [hop, Op.operands])]
    repeat' split at hs
    all_goals first
      | (cases hs; done)
      | (cases hs; simp_all)
  case build t ps =>
    try simp only [cond_eq_ite] at hs hc ⊢
    simp only [getParts_congr hA (ps := ps.toList) (fun p hp => by simp only [hop, Op.operands]; simp only [List.mem_map]; exact ⟨p, hp, rfl⟩)]
    repeat' split at hs
    all_goals first
      | (cases hs; done)
      | (cases hs; simp_all)
  case buildSlice t n ps =>
    try simp only [cond_eq_ite] at hs hc ⊢
    simp only [getParts_congr hA (ps := ps.toList) (fun p hp => by simp only [hop, Op.operands]; simp only [List.mem_map]; exact ⟨p, hp, rfl⟩)]
    repeat' split at hs
    all_goals first
      | (cases hs; done)
      | (cases hs; simp_all)
  case makeFunc fn fs cs =>
    try simp only [cond_eq_ite] at hs hc ⊢
    simp only [getAs_congr hA (xs := cs.toList) (fun p hp => by simp only [hop, Op.operands]; simp at hp ⊢; exact Or.inr hp)]
    repeat' split at hs
    all_goals first
      | (cases hs; done)
      | (cases hs; simp_all)
  case call c =>
    have hAs : ∀ ts gd, getAs E gd st2 c.args.toList ts = getAs E gd st c.args.toList ts := fun ts gd => getAs_congr hA fun y hy => by
      simp only [hop, Op.operands, Call.operands, Array.toList_append]
      exact List.mem_append_right _ hy
    split at hs
    · rename_i b hcal
      simp only [hcal] at hc ⊢
      split at hs <;> simp only at hc ⊢ <;> try (cases hc; done)
      · simp only [hAs]
        repeat' split at hs
        all_goals first | (cases hs; done) | (cases hs; simp_all)
      · simp only [hAs]
        repeat' split at hs
        all_goals first | (cases hs; done) | (cases hs; simp_all)
    · cases hs
  all_goals
    exfalso
    simp only [cond_eq_ite] at hc
    repeat' split at hc
    all_goals cases hc

end
end Go.Ex
/- Loads of local variables. -/
set_option autoImplicit false
set_option linter.unusedVariables false
set_option linter.unusedSectionVars false
namespace Go.Ex
section
variable {E : EP} {st st2 st1 : St} {gd : Gd} {cfg : Cfg} {o : Oper} {x : TV}

/-- the local variables that the operands point to are alike -/
def AgreeL (T : List Operand) (st st2 : St) : Prop := ∀ t, Operand.tmp t ∈ T → ∀ gd l off, getG gd st t = some (.p l off) → alook st.locs l = alook st2.locs l

theorem cls1_any (hc : cls E cfg o = 1) (hA : AgreeT o.op.operands.toList st st2) (hL : AgreeL o.op.operands.toList st st2) (hs : stepOp E cfg gd o st = some (x, st1)) : st1 = st ∧ stepOp E cfg gd o st2 = some (x, st2) := by
  unfold cls at hc
  cases hop : o.op <;> simp only [hop] at hc <;> try (cases hc; done)
  case load t y =>
    simp only [stepOp, hop] at hs ⊢
    cases hd : o.dst with
    | none => rw [hd] at hc; cases hc
    | some d =>
      simp only [hd] at hc hs ⊢
      cases hb : elemN cfg.lld d with
      | false => rw [hb] at hc; cases hc
      | true =>
        rw [getP_congr hA (x := y) (by simp [hop, Op.operands])]
        split at hs
        · rename_i p hp
          cases hlo : loadOk cfg (some d) p with
          | false => rw [hlo] at hs; cases hs
          | true =>
          simp only [hlo] at hs ⊢
          have hlo2 := hlo
          simp only [loadOk, hb, cond_true, Bool.and_eq_true] at hlo2
          cases p with
          | v z => simp at hlo2
          | p l off =>
            cases y with
            | tmp u =>
              have hl : alook st.locs l = alook st2.locs l := hL u (by simp [hop, Op.operands]) gd l off hp
              simp only [loadAt, ← hl] at hs ⊢
              split at hs
              · rename_i v hv
                cases hs
                exact ⟨rfl, by simp only [hv]⟩
              · cases hs
            | const v => simp only [getP] at hp; split at hp <;> cases hp
            | func v => simp only [getP] at hp; split at hp <;> cases hp
            | global v => simp only [getP] at hp; split at hp <;> cases hp
        · cases hs
  all_goals
    exfalso
    simp only [cond_eq_ite] at hc
    repeat' split at hc
    all_goals cases hc

end
end Go.Ex
/- Operations that turn the heap do not look at the local variables. -/
set_option autoImplicit false
set_option linter.unusedVariables false
set_option linter.unusedSectionVars false
namespace Go.Ex
section
variable {E : EP} {st st2 st1 : St} {gd : Gd} {cfg : Cfg} {o : Oper} {x : TV}

/-- the second state with the first's heap -/
def putH (st2 st1 : St) : St := { st2 with heap := st1.heap }

theorem callF_any {n : Nat} {f : FuncId} {args : List AV} {r : AV} (hh : st2.heap = st.heap) (hc : callF E n f args st = some (r, st1)) : st1.locs = st.locs ∧ callF E n f args st2 = some (r, putH st2 st1) := by
  have hself : putH st2 st = st2 := by unfold putH; rw [← hh]
  have hres : ∀ {mode dirty v h'}, result mode dirty v h' st = some (r, st1) → st1.locs = st.locs ∧ result mode dirty v h' st2 = some (r, putH st2 st1) := by
    intro mode dirty v h' h
    unfold result at h ⊢
    simp only [cond_eq_ite] at h ⊢
    repeat' split at h
    all_goals first
      | (cases h; done)
      | (cases h; simp_all [newObj, putH])
  cases n with
  | zero => simp [callF] at hc
  | succ n =>
    rw [callF] at hc ⊢
    cases hf : E.fn f with
    | some fi =>
      simp only [hf] at hc ⊢
      cases hm : Nat.beq fi.mode 0 with
      | true =>
        simp only [hm, cond_true, hh] at hc ⊢
        split at hc
        · rename_i r' h' hr; cases hc; exact ⟨rfl, rfl⟩
        · cases hc
      | false =>
        simp only [hm, cond_false, hh] at hc ⊢
        split at hc
        · rename_i as has
          split at hc
          · rename_i r' h' hr; exact hres hc
          · cases hc
        · cases hc
    | none =>
      simp only [hf, hh] at hc ⊢
      split at hc
      · rename_i as has
        split at hc
        · rename_i r' hx
          have hq := bif_some hc
          clear hc
          obtain ⟨hb, hc⟩ := hq
          cases hc
          refine ⟨rfl, ?_⟩
          simp only [hb, cond_true, hself]
        · cases hc
      · cases hc

end
end Go.Ex
/- Operations that turn the heap do not look at the local variables: the rest of them. -/
set_option autoImplicit false
set_option linter.unusedVariables false
set_option linter.unusedSectionVars false
namespace Go.Ex
section
variable {E : EP} {st st2 st1 : St} {gd : Gd} {cfg : Cfg} {o : Oper} {x : TV}

theorem appendAV_any {n b : Nat} {base v : AV} {new : List (List AV)} (hh : st2.heap = st.heap) (h : appendAV n b st base new = some (st1, v)) : st1.locs = st.locs ∧ appendAV n b st2 base new = some (putH st2 st1, v) := by
  unfold appendAV at h ⊢
  split at h
  · rcases bif_two h with ⟨hc, h⟩ | ⟨hc, h⟩
    · simp only [hc, cond_true]
      cases h
      exact ⟨rfl, by simp only [newObj, putH, hh]⟩
    · obtain ⟨hc2, h⟩ := bif_some h
      simp only [hc, cond_false, hc2, cond_true]
      cases h
      exact ⟨rfl, by simp only [putH, ← hh]⟩
  · simp only [hh]
    split at h
    · have hq := bif_some h
      clear h
      obtain ⟨hc, h⟩ := hq
      simp only [hc, cond_true]
      revert h
      cases Nat.beq _ _ with
      | true => intro h; cases h; exact ⟨rfl, rfl⟩
      | false =>
        intro h
        simp only [cond_false] at h ⊢
        have hq := bif_some h
        clear h
        obtain ⟨hc2, h⟩ := hq
        simp only [hc2, cond_true]
        cases h; exact ⟨rfl, rfl⟩
    · cases h
  · cases h

theorem copyAV_any {n : Nat} {dst : AV} {new : List (List AV)} {k : Int} (hh : st2.heap = st.heap) (h : copyAV n st dst new = some (st1, k)) : st1.locs = st.locs ∧ copyAV n st2 dst new = some (putH st2 st1, k) := by
  unfold copyAV at h ⊢
  simp only [cond_eq_ite] at h ⊢
  split at h
  · simp only [hh]
    split at h
    · split at h
      · rename_i hc; rw [if_pos hc]; cases h; exact ⟨rfl, rfl⟩
      · cases h
    · cases h
  · cases h

end
end Go.Ex
/- Kinds 3 and 4: whatever the local variables are. -/
set_option autoImplicit false
set_option linter.unusedVariables false
set_option linter.unusedSectionVars false
namespace Go.Ex
section
variable {E : EP} {st st2 st1 : St} {gd : Gd} {cfg : Cfg} {o : Oper} {x : TV}

theorem cls4_any (hc : cls E cfg o = 4) (hA : AgreeT o.op.operands.toList st st2) (hh : st2.heap = st.heap) (hs : stepOp E cfg gd o st = some (x, st1)) : st1.locs = st.locs ∧ stepOp E cfg gd o st2 = some (x, putH st2 st1) := by
  have hself : putH st2 st = st2 := by unfold putH; rw [← hh]
  unfold cls at hc
  cases hop : o.op <;> simp only [stepOp, hop] at hs hc ⊢ <;> try (first | (cases hs; done) | (cases hc; done))
  case alloc t =>
    simp only [cond_eq_ite] at hs hc ⊢
    repeat' split at hs
    all_goals first
      | (cases hs; done)
      | (cases hs; simp_all [newObj, putH])
  case box t y =>
    simp only [cond_eq_ite] at hs hc ⊢
    simp only [getA_congr hA (x := y) (by simp [hop, Op.operands])]
    repeat' split at hs
    all_goals first
      | (cases hs; done)
      | (cases hs; simp_all [newObj, putH])
  case buildSlice t n ps =>
    simp only [cond_eq_ite] at hs hc ⊢
    simp only [getParts_congr hA (ps := ps.toList) (fun p hp => by simp only [hop, Op.operands]; simp only [List.mem_map]; exact ⟨p, hp, rfl⟩)]
    repeat' split at hs
    all_goals first
      | (cases hs; done)
      | (cases hs; simp_all [newObj, putH])
  case makeSlice t y z =>
    simp only [cond_eq_ite] at hs hc ⊢
    simp only [getA_congr hA (x := y) (by simp [hop, Op.operands]), getA_congr hA (x := z) (by simp [hop, Op.operands])]
    repeat' split at hs
    all_goals first
      | (cases hs; done)
      | (cases hs; simp_all [newObj, putH])
  case makeMap t r =>
    repeat' split at hs
    all_goals first
      | (cases hs; done)
      | (cases hs; simp_all [newObj, putH])
  case mapUpdate t m k y =>
    simp only [cond_eq_ite] at hs ⊢
    simp only [getA_congr hA (x := m) (by simp [hop, Op.operands]), getA_congr hA (x := k) (by simp [hop, Op.operands]), getA_congr hA (x := y) (by simp [hop, Op.operands]), hh]
    repeat' split at hs
    all_goals first
      | (cases hs; done)
      | (cases hs; simp_all [newObj, putH])
  case range t y =>
    simp only [cond_eq_ite] at hs ⊢
    simp only [getA_congr hA (x := y) (by simp [hop, Op.operands])]
    repeat' split at hs
    all_goals first
      | (cases hs; done)
      | (cases hs; simp_all [newObj, putH])
  case next y b =>
    simp only [getA_congr hA (x := y) (by simp [hop, Op.operands]), hh]
    repeat' split at hs
    all_goals first
      | (cases hs; done)
      | (cases hs; simp_all [newObj, putH])
  case call c =>
    have hA' : ∀ y, y ∈ c.args.toList → ∀ ty gd, getA E ty gd st2 y = getA E ty gd st y := fun y hy ty gd => getA_congr hA (by
      simp only [hop, Op.operands, Call.operands, Array.toList_append]
      exact List.mem_append_right _ hy) ty gd
    split at hs
    · rename_i b hcal
      simp only [hcal] at hc ⊢
      split at hs <;> simp only at hc ⊢ <;> try (cases hc; done)
      · split at hs
        · rename_i y z t u r ha ht
          have h1 := hA' y (by rw [ha]; simp)
          have h2 := hA' z (by rw [ha]; simp)
          simp only [ha, ht, h1, h2, elems_congr hh, cond_eq_ite] at hs ⊢
          repeat' split at hs
          all_goals first
            | (cases hs; done)
            | (rename_i hap; obtain ⟨p1, p2⟩ := appendAV_any hh hap; cases hs; simp_all)
        · cases hs
      · split at hs
        · rename_i y z t r ha ht
          have h1 := hA' y (by rw [ha]; simp)
          have h2 := hA' z (by rw [ha]; simp)
          simp only [ha, ht, h1, h2, elems_congr hh, cond_eq_ite] at hs ⊢
          repeat' split at hs
          all_goals first
            | (cases hs; done)
            | (rename_i hap; obtain ⟨p1, p2⟩ := copyAV_any hh hap; cases hs; simp_all)
        · cases hs
    · cases hs
  all_goals
    exfalso
    simp only [cond_eq_ite] at hc
    repeat' split at hc
    all_goals cases hc

end
end Go.Ex
