/- The evaluator of this proof, part 16. -/
import Derived.Test.YtfghngkiephakaaEng15
set_option linter.unnecessarySimpa false
set_option linter.unusedVariables false
set_option linter.unusedSimpArgs false
set_option linter.unusedSectionVars false
set_option linter.deprecated false
/- An operation that is listed later comes earlier. -/
set_option autoImplicit false
set_option linter.unusedVariables false
set_option linter.unusedSectionVars false
namespace Go.Ex

section
variable {E : EP} {st st' st1 st2 : St} {cfg : Cfg} {o oi oj : Oper} {kp : List Nat} {fork : Bool} {all : List Oper} {k : Nat} {gd : Gd} {x : TV} {l off : Nat}

theorem storeAt_locs {t : Nat} {v : AV} {p : TV} (h : storeAt E t st v p = some st1) : st1.locs = st.locs ∨ ∃ cs l, hasK st.locs l = true ∧ st1.locs = aset cs st.locs l := by
  unfold storeAt at h
  split at h
  · split at h
    · rename_i hl
      have hq := bif_some h
      clear h
      obtain ⟨_, h⟩ := hq
      split at h
      · cases h
        exact Or.inr ⟨_, _, by rw [hasK_isSome, hl]; rfl, rfl⟩
      · cases h
    · cases h
  · split at h
    · have hq := bif_some h
      clear h
      obtain ⟨_, h⟩ := hq
      repeat' split at h
      all_goals first
        | (cases h; done)
        | (cases h; exact Or.inl rfl)
    · cases h
  · cases h

theorem stepOp_six (hc : cls E cfg o = 6) (hs : stepOp E cfg gd o st = some (x, st1)) :
    (st1.locs = st.locs ∨ ∃ cs l, hasK st.locs l = true ∧ st1.locs = aset cs st.locs l) ∧ (∀ l off, x = .p l off → ∃ t off', Operand.tmp t ∈ o.op.operands.toList ∧ getG gd st t = some (.p l off')) := by
  have fin : ∀ {ty : Nat} {y : Operand} {l off' : Nat}, y ∈ o.op.operands.toList → getP E ty gd st y = some (.p l off') → ∃ t off', Operand.tmp t ∈ o.op.operands.toList ∧ getG gd st t = some (.p l off') := by
    intro ty y l off' hy h
    obtain ⟨t, rfl, h2⟩ := getP_ptr h
    exact ⟨t, off', hy, h2⟩
  unfold cls at hc
  cases hop : o.op <;> simp only [stepOp, hop, cond_eq_ite] at hs hc <;> try (first | (cases hs; done) | (cases hc; done))
  case store t y z =>
    split at hs
    · rename_i p hp
      cases hso : storeOk cfg y p with
      | false => rw [hso] at hs; cases hs
      | true =>
      simp only [hso] at hs
      split at hs
      · split at hs
        · rename_i hst
          cases hs
          exact ⟨storeAt_locs hst, fun l off h => by cases h⟩
        · cases hs
      · cases hs
    · cases hs
  case assign y =>
    have gen : ∀ {x st1}, (match getP E o.type gd st y with | some v => some (v, st) | none => none) = some (x, st1) → st1.locs = st.locs ∧ (∀ l off, x = .p l off → ∃ t off', Operand.tmp t ∈ o.op.operands.toList ∧ getG gd st t = some (.p l off')) := by
      intro x st1 h
      split at h
      · rename_i v hv
        cases h
        refine ⟨rfl, fun l off h => ?_⟩
        subst h
        exact fin (y := y) (by simp [hop, Op.operands]) hv
      · cases h
    have fin2 : ∀ {x st1}, (match getP E o.type gd st y with | some v => some (v, st) | none => none) = some (x, st1) → (st1.locs = st.locs ∨ ∃ cs l, hasK st.locs l = true ∧ st1.locs = aset cs st.locs l) ∧ (∀ l off, x = .p l off → ∃ t off', Operand.tmp t ∈ (Op.assign y).operands.toList ∧ getG gd st t = some (.p l off')) := by
      intro x st1 h
      obtain ⟨h1, h2⟩ := gen h
      refine ⟨Or.inl h1, ?_⟩
      rw [hop] at h2
      exact h2
    split at hs
    · split at hs
      · split at hs
        · cases hs
          exact ⟨Or.inl rfl, fun l off h => by cases h⟩
        · exact fin2 hs
      · exact fin2 hs
    · cases hs
  all_goals
    repeat' split at hs
    all_goals first
      | (cases hs; done)
      | (cases hs; exact ⟨Or.inl rfl, fun l off h => nomatch h⟩)
      | (exfalso; simp_all; done)
      | (repeat' split at hc
         all_goals first | (cases hc; done) | (cases hs; done) | (exfalso; simp_all; done))

theorem runOp_six {n : Nat} (hc : cls E cfg o = 6) (hs : runOp E n cfg gd o st = some (x, st1)) :
    (st1.locs = st.locs ∨ ∃ cs l, hasK st.locs l = true ∧ st1.locs = aset cs st.locs l) ∧ (∀ l off, x = .p l off → ∃ t off', Operand.tmp t ∈ o.op.operands.toList ∧ getG gd st t = some (.p l off')) := by
  cases n with
  | zero => simp [runOp] at hs
  | succ n =>
    rw [runOp] at hs
    split at hs
    · rename_i hop
      unfold cls at hc
      rw [hop] at hc
      cases hc
    · rename_i hop
      split at hs
      · rename_i hcal
        unfold cls at hc
        rw [hop] at hc
        simp only at hc
        rw [hcal] at hc
        rename_i y
        cases y <;> simp only [cond_eq_ite] at hc
        · cases hc
        · cases hc
        · cases hc
        · repeat' split at hc
          all_goals cases hc
      · exact stepOp_six hc hs
    · exact stepOp_six hc hs

end
end Go.Ex
/- Any order that the text allows comes to the text's own state. -/
set_option autoImplicit false
set_option linter.unusedVariables false
set_option linter.unusedSectionVars false
namespace Go.Ex

/-- operations by their places -/
def runI (E : EP) (k : Nat) (cfg : Cfg) (kp : List Nat) (fork : Bool) (all : List Oper) : List Nat → St → Option St
  | [], st => some st
  | i :: r, st => match all[i]? with
    | some o => match step1 E k cfg kp fork all o st with
      | some s => runI E k cfg kp fork all r s
      | none => none
    | none => none

section
variable {E : EP} {st st' st1 st2 : St} {cfg : Cfg} {o oi oj : Oper} {kp : List Nat} {fork : Bool} {all : List Oper} {k : Nat}

theorem runI_append {u v : List Nat} : ∀ {s t : St}, runI E k cfg kp fork all (u ++ v) s = some t ↔ ∃ m, runI E k cfg kp fork all u s = some m ∧ runI E k cfg kp fork all v m = some t := by
  induction u with
  | nil => intro s t; simp [runI]
  | cons i u ih =>
    intro s t
    simp only [List.cons_append, runI]
    split
    · split
      · exact ih
      · simp
    · simp

theorem runI_cons {i : Nat} {r : List Nat} {s t : St} : runI E k cfg kp fork all (i :: r) s = some t ↔ ∃ o m, all[i]? = some o ∧ step1 E k cfg kp fork all o s = some m ∧ runI E k cfg kp fork all r m = some t := by
  simp only [runI]
  cases ho : all[i]? with
  | none => simp
  | some o =>
    simp only [Option.some.injEq]
    cases hm : step1 E k cfg kp fork all o s with
    | none =>
      constructor
      · intro h; cases h
      · rintro ⟨o', m', rfl, h2, h3⟩
        rw [hm] at h2; cases h2
    | some m =>
      constructor
      · intro h; exact ⟨o, m, rfl, hm, h⟩
      · rintro ⟨o', m', rfl, h2, h3⟩
        rw [hm] at h2; cases h2; exact h3

/-- what holds ahead of the pending operations -/
structure Inv (E : EP) (cfg : Cfg) (all : List Oper) (P : List Nat) (st : St) : Prop where
  sorted : st.Sorted
  locs : Sorted st.locs
  fresh : ∀ i ∈ P, ∀ o, all[i]? = some o → cls E cfg o = 5 → ∀ d, o.dst = some d → Fresh d st

/-- no two operations have one temporary -/
def DistD (all : List Oper) : Prop := ∀ (i j : Nat) (oi oj : Oper) (d : Nat), i ≠ j → all[i]? = some oi → all[j]? = some oj → oi.dst = some d → oj.dst ≠ some d

theorem Inv.sub {P P' : List Nat} (h : Inv E cfg all P st) (hs : ∀ i ∈ P', i ∈ P) : Inv E cfg all P' st := ⟨h.sorted, h.locs, fun i hi => h.fresh i (hs i hi)⟩

theorem step1_mem6 (hs : step1 E k cfg kp fork all o st = some st') (hc : cls E cfg o = 6) :
    ∃ x s1 g, putX kp o.dst g x s1 = some st' ∧ s1.vals = st.vals ∧ s1.tl = st.tl ∧ (s1.locs = st.locs ∨ ∃ cs l, hasK st.locs l = true ∧ s1.locs = aset cs st.locs l) ∧ ∀ l off, x = .p l off → ∃ t g' off', getG g' st t = some (.p l off') := by
  have run : ∀ {g : Gd} {x : TV} {s1 : St}, runOp E k cfg g o st = some (x, s1) → s1.vals = st.vals ∧ s1.tl = st.tl ∧ (s1.locs = st.locs ∨ ∃ cs l, hasK st.locs l = true ∧ s1.locs = aset cs st.locs l) ∧ ∀ l off, x = .p l off → ∃ t g' off', getG g' st t = some (.p l off') := by
    intro g x s1 h
    obtain ⟨h1, h2⟩ := runOp_six hc h
    obtain ⟨h3, h4⟩ := runOp_vals h
    exact ⟨h3, h4, h1, fun l off e => by obtain ⟨t, off', _, h5⟩ := h2 l off e; exact ⟨t, _, off', h5⟩⟩
  have skip : ∀ {s'}, some (putTV kp o.dst (.v (.tp [])) st) = some s' → ∃ x s1 g, putX kp o.dst g x s1 = some s' ∧ s1.vals = st.vals ∧ s1.tl = st.tl ∧ (s1.locs = st.locs ∨ ∃ cs l, hasK st.locs l = true ∧ s1.locs = aset cs st.locs l) ∧ ∀ l off, x = .p l off → ∃ t g' off', getG g' st t = some (.p l off') := by
    intro s' h
    exact ⟨.v (.tp []), st, none, h, rfl, rfl, Or.inl rfl, fun l off h => nomatch h⟩
  unfold step1 at hs
  split at hs
  · cases hs
  · split at hs
    · rename_i x s1 hr
      obtain ⟨a1, a2, a3, a4⟩ := run hr
      exact ⟨x, s1, none, hs, a1, a2, a3, a4⟩
    · cases hs
  · split at hs
    · split at hs
      · rename_i b hb
        cases hbw : (b == _) with
        | true =>
          rw [hbw] at hs
          simp only [cond_true] at hs
          split at hs
          · rename_i x s1 hr
            obtain ⟨a1, a2, a3, a4⟩ := run hr
            exact ⟨x, s1, none, hs, a1, a2, a3, a4⟩
          · cases hs
        | false => rw [hbw] at hs; exact skip hs
      · exact skip hs
      · cases hs
    · split at hs
      · split at hs
        · rename_i t w _ _ x s1 hr
          obtain ⟨a1, a2, a3, a4⟩ := run hr
          exact ⟨x, s1, some _, hs, a1, a2, a3, a4⟩
        · cases hs
      · cases hs

theorem Inv.step {i : Nat} {P : List Nat} (hd : DistD all) (h : Inv E cfg all (i :: P) st) (hn : i ∉ P) (ho : all[i]? = some o) (hs : step1 E k cfg kp fork all o st = some st1) : Inv E cfg all P st1 := by
  by_cases h6 : cls E cfg o = 6
  · obtain ⟨x, s1, g, p1, p2, p3, p4, p5⟩ := step1_mem6 hs h6
    have hs1 : s1.Sorted := ⟨p2 ▸ h.sorted.vals, p3 ▸ h.sorted.tl⟩
    refine ⟨putX_sorted hs1 p1, ?_, fun j hj oj hoj hc d hdj => ?_⟩
    · rw [(putX_mem p1).1]
      rcases p4 with e | ⟨cs, l, _, e⟩
      · rw [e]; exact h.locs
      · rw [e]; exact sorted_aset h.locs
    · have hf := h.fresh j (List.mem_cons_of_mem _ hj) oj hoj hc d hdj
      refine Fresh.put hs1 ⟨p2 ▸ hf.1, p3 ▸ hf.2.1, ?_⟩ (fun off hx => ?_) p1
      · rcases p4 with e | ⟨cs, l, hl, e⟩
        · rw [e]; exact hf.2.2
        · rw [e, hasK_isSome, alook_aset]
          have hne : l ≠ d := by rintro rfl; rw [hf.2.2] at hl; cases hl
          rw [if_neg hne, ← hasK_isSome]; exact hf.2.2
      · obtain ⟨t, g', off', hg⟩ := p5 d off hx
        exact hf.get hg
  · obtain ⟨g, x, e, p1, p2, p3, p4, _⟩ := step1_like hs
    have hle := @cls_le E cfg o
    have hmem : ∀ L H, e ≠ .mem L H := by
      intro L H he
      rcases p2 with h' | h'
      · rw [h'] at he; cases he
      · unfold effOf at h'
        split at h'
        · obtain ⟨H', h'⟩ := h'; rw [h'] at he; cases he
        · obtain ⟨d', cs', _, h', _⟩ := h'; rw [h'] at he; cases he
        · rename_i hc; exact h6 hc
        · rw [h'] at he; cases he
    refine ⟨putX_sorted (eff_sorted h.sorted) p1, ?_, fun j hj oj hoj hc d hdj => ?_⟩
    · rw [(putX_mem p1).1]
      cases e with
      | none => exact h.locs
      | heap H => exact h.locs
      | loc d cs => exact sorted_aset h.locs
      | mem L H => exact (hmem L H rfl).elim
    · have hf := h.fresh j (List.mem_cons_of_mem _ hj) oj hoj hc d hdj
      have hij : i ≠ j := fun e => hn (e ▸ hj)
      refine Fresh.put (eff_sorted h.sorted) (hf.eff (fun cs he => ?_) (fun L H he => (hmem L H he).elim)) (fun off hx => ?_) p1
      · rcases p2 with h' | h'
        · rw [h'] at he; cases he
        · unfold effOf at h'
          split at h'
          · obtain ⟨H', h'⟩ := h'; rw [h'] at he; cases he
          · obtain ⟨d', cs', h1, h', _⟩ := h'
            rw [h'] at he; cases he
            exact hd i j o oj d hij ho hoj h1 hdj
          · rename_i hc; exact h6 hc
          · rw [h'] at he; cases he
      · by_cases h5 : cls E cfg o = 5
        · exact hd i j o oj d hij ho hoj (p4 d off hx h5) hdj
        · obtain ⟨t, g', off', _, hg⟩ := p3 d off hx (by omega)
          exact hf.get hg

theorem Inv.run {P : List Nat} (hd : DistD all) : ∀ {l : List Nat} {st st1 : St}, (l ++ P).Nodup → Inv E cfg all (l ++ P) st → runI E k cfg kp fork all l st = some st1 → Inv E cfg all P st1
  | [], st, st1, _, h, hr => by simp only [runI] at hr; cases hr; exact h
  | i :: l, st, st1, hn, h, hr => by
    obtain ⟨o, m, h1, h2, h3⟩ := runI_cons.1 hr
    rw [List.cons_append, List.nodup_cons] at hn
    exact Inv.run hd hn.2 (Inv.step hd h hn.1 h1 h2) h3

/-- an operation comes ahead of those that it is free of -/
theorem bubble (hd : DistD all) {j : Nat} {v : List Nat} (hj : all[j]? = some oj) : ∀ {u : List Nat} {s t : St}, (u ++ j :: v).Nodup → Inv E cfg all (u ++ j :: v) s → (∀ i ∈ u, ∀ oi, all[i]? = some oi → pairOk E cfg all oi oj = true) →
    runI E k cfg kp fork all (u ++ j :: v) s = some t → runI E k cfg kp fork all (j :: (u ++ v)) s = some t
  | [], s, t, _, _, _, hr => hr
  | i :: u, s, t, hn, hi, hp, hr => by
    rw [List.cons_append] at hr hn hi
    obtain ⟨oi, s1, h1, h2, h3⟩ := runI_cons.1 hr
    rw [List.nodup_cons] at hn
    have ih := bubble hd hj hn.2 (Inv.step hd hi hn.1 h1 h2) (fun i' hi' => hp i' (List.mem_cons_of_mem _ hi')) h3
    obtain ⟨oj', s2, k1, k2, k3⟩ := runI_cons.1 ih
    rw [hj] at k1
    cases k1
    obtain ⟨s3, m1, m2⟩ := swap hi.sorted hi.locs (hp i (by simp) oi h1) (fun hc d hdd => hi.fresh j (by simp) oj hj hc d hdd) (fun hc d hdd => hi.fresh i (by simp) oi h1 hc d hdd) h2 k2
    exact runI_cons.2 ⟨oj, s3, hj, m1, by rw [List.cons_append]; exact runI_cons.2 ⟨oi, s2, h1, m2, k3⟩⟩

end

/-- what must come ahead: bit by bit -/
def bitsOf (T : List Nat) : List Edge → Nat
  | [] => 0
  | e :: r => (bif Region.binds .any e then ((2 ^ e.on) ||| (match nth T e.on with | some b => b | none => 0)) else 0) ||| bitsOf T r
def ancs : List Oper → List Nat → List Nat
  | [], T => T
  | o :: r, T => ancs r (T ++ [bitsOf T o.after.toList])

inductive Anc (all : List Oper) (i : Nat) : Nat → Prop
  | dir {j : Nat} {o : Oper} {e : Edge} : all[j]? = some o → e ∈ o.after → Region.binds .any e = true → e.on = i → Anc all i j
  | step {j : Nat} {o : Oper} {e : Edge} : all[j]? = some o → e ∈ o.after → Region.binds .any e = true → Anc all i e.on → Anc all i j

theorem bitsOf_spec {T : List Nat} {i : Nat} : ∀ {L : List Edge}, Nat.testBit (bitsOf T L) i = true → ∃ e ∈ L, Region.binds .any e = true ∧ (e.on = i ∨ ∃ b, T[e.on]? = some b ∧ Nat.testBit b i = true)
  | [], h => by simp [bitsOf] at h
  | e :: r, h => by
    simp only [bitsOf, Nat.testBit_or, Bool.or_eq_true] at h
    rcases h with h | h
    · cases hb : Region.binds .any e with
      | false => rw [hb] at h; simp at h
      | true =>
        rw [hb] at h
        simp only [cond_true, Nat.testBit_or, Bool.or_eq_true] at h
        refine ⟨e, by simp, hb, ?_⟩
        rcases h with h | h
        · left; rw [Nat.testBit_two_pow] at h; simpa using h
        · right
          rw [nth_eq] at h
          split at h
          · rename_i b hT; exact ⟨b, hT, h⟩
          · simp at h
    · obtain ⟨e', h1, h2⟩ := bitsOf_spec h
      exact ⟨e', List.mem_cons_of_mem _ h1, h2⟩

theorem ancs_spec {all : List Oper} : ∀ {r : List Oper} {pre : List Oper} {T : List Nat}, pre ++ r = all → T.length = pre.length → (∀ j b i, T[j]? = some b → Nat.testBit b i = true → Anc all i j) →
    (∀ j b i, (ancs r T)[j]? = some b → Nat.testBit b i = true → Anc all i j) ∧ (ancs r T).length = all.length
  | [], pre, T, h1, h2, h3 => by
    simp only [ancs]
    exact ⟨h3, by rw [h2, ← h1]; simp⟩
  | o :: r, pre, T, h1, h2, h3 => by
    simp only [ancs]
    refine ancs_spec (pre := pre ++ [o]) (by rw [← h1]; simp) (by simp [h2]) fun j b i hb hi => ?_
    rcases getElem?_append_one hb with ⟨_, hb⟩ | ⟨rfl, rfl⟩
    · exact h3 j b i hb hi
    · have ho : all[T.length]? = some o := by
        rw [← h1, h2, List.getElem?_append_right (Nat.le_refl _), Nat.sub_self]; rfl
      obtain ⟨e, k1, k2, k3⟩ := bitsOf_spec hi
      have k1' : e ∈ o.after := by simpa using k1
      rcases k3 with k3 | ⟨b', k3, k4⟩
      · exact .dir ho k1' k2 k3
      · exact .step ho k1' k2 (h3 _ b' i k3 k4)

/-- every pair in order or free -/
def chkJ (E : EP) (cfg : Cfg) (all : List Oper) (b : Nat) (oj : Oper) : Nat → List Oper → Bool
  | _, [] => true
  | i, oi :: r => (Nat.testBit b i || pairOk E cfg all oi oj) && chkJ E cfg all b oj (i + 1) r
def edgesLt (j : Nat) : List Edge → Bool
  | [] => true
  | e :: r => (!Region.binds .any e || Nat.blt e.on j) && edgesLt j r
def chkAll (E : EP) (cfg : Cfg) (all : List Oper) (T : List Nat) : List Oper → List Oper → Nat → Bool
  | _, [], _ => true
  | pre, o :: r, j => (match nth T j with | some b => chkJ E cfg all b o 0 pre | none => false) && edgesLt j o.after.toList && chkAll E cfg all T (pre ++ [o]) r (j + 1)
def drChk (E : EP) (cfg : Cfg) (ops : Array Oper) : Bool := chkAll E cfg ops.toList (ancs ops.toList []) [] ops.toList 0

theorem chkJ_spec {E : EP} {cfg : Cfg} {all : List Oper} {b : Nat} {oj : Oper} : ∀ {L : List Oper} {n : Nat}, chkJ E cfg all b oj n L = true → ∀ i oi, L[i]? = some oi → Nat.testBit b (n + i) = true ∨ pairOk E cfg all oi oj = true
  | [], n, _, i, oi, h => by simp at h
  | o :: L, n, h, i, oi, hi => by
    simp only [chkJ, Bool.and_eq_true, Bool.or_eq_true] at h
    cases i with
    | zero => simp at hi; subst hi; exact h.1
    | succ i =>
      have := chkJ_spec h.2 i oi (by simpa using hi)
      rwa [show n + 1 + i = n + (i + 1) by omega] at this

theorem edgesLt_spec {j : Nat} : ∀ {L : List Edge}, edgesLt j L = true → ∀ e ∈ L, Region.binds .any e = true → e.on < j
  | [], _, e, he, _ => by simp at he
  | e' :: r, h, e, he, hb => by
    simp only [edgesLt, Bool.and_eq_true] at h
    rcases List.mem_cons.1 he with rfl | he
    · have := h.1
      rw [hb] at this
      exact ltN.1 (by simpa using this)
    · exact edgesLt_spec h.2 e he hb

theorem chkAll_spec {E : EP} {cfg : Cfg} {all : List Oper} {T : List Nat} : ∀ {L pre : List Oper}, chkAll E cfg all T pre L pre.length = true → pre ++ L = all →
    ∀ j oj, pre.length ≤ j → all[j]? = some oj → (∀ e ∈ oj.after, Region.binds .any e = true → e.on < j) ∧ ∃ b, T[j]? = some b ∧ ∀ i oi, i < j → all[i]? = some oi → Nat.testBit b i = true ∨ pairOk E cfg all oi oj = true
  | [], pre, _, ha, j, oj, hj, ho => by
    rw [← ha, List.append_nil, List.getElem?_eq_none hj] at ho
    cases ho
  | o :: L, pre, h, ha, j, oj, hj, ho => by
    simp only [chkAll, Bool.and_eq_true] at h
    by_cases hjp : j = pre.length
    · subst hjp
      have : o = oj := by
        rw [← ha, List.getElem?_append_right (Nat.le_refl _), Nat.sub_self] at ho
        simpa using ho
      subst this
      have h1 := h.1.1
      rw [nth_eq] at h1
      split at h1
      · rename_i b hb
        refine ⟨fun e he hbe => edgesLt_spec h.1.2 e (by simpa using he) hbe, b, hb, fun i oi hi hoi => ?_⟩
        have hp : pre[i]? = some oi := by rw [← ha, List.getElem?_append_left hi] at hoi; exact hoi
        have := chkJ_spec h1 i oi hp
        rwa [Nat.zero_add] at this
      · cases h1
    · have h2 := h.2
      refine chkAll_spec (pre := pre ++ [o]) (by simpa using h2) (by rw [← ha]; simp) j oj (by simp; omega) ho

theorem drChk_spec {E : EP} {cfg : Cfg} {ops : Array Oper} (h : drChk E cfg ops = true) {i j : Nat} {oi oj : Oper} (hij : i < j) (hi : ops[i]? = some oi) (hj : ops[j]? = some oj) : Anc ops.toList i j ∨ pairOk E cfg ops.toList oi oj = true := by
  unfold drChk at h
  obtain ⟨_, b, h1, h2⟩ := chkAll_spec (pre := []) h rfl j oj (Nat.zero_le _) (by simpa using hj)
  rcases h2 i oi hij (by simpa using hi) with h3 | h3
  · exact Or.inl ((ancs_spec (all := ops.toList) (pre := []) rfl rfl (fun j b i hb => by simp at hb)).1 j b i h1 h3)
  · exact Or.inr h3

theorem drChk_edges {E : EP} {cfg : Cfg} {ops : Array Oper} (h : drChk E cfg ops = true) {j : Nat} {oj : Oper} (hj : ops[j]? = some oj) : ∀ e ∈ oj.after, Region.binds .any e = true → e.on < j := by
  unfold drChk at h
  exact (chkAll_spec (pre := []) h rfl j oj (Nat.zero_le _) (by simpa using hj)).1

theorem Anc.closed {all : List Oper} {i j : Nat} {S : Nat → Prop} (hS : ∀ j, S j → ∀ o, all[j]? = some o → ∀ e ∈ o.after, Region.binds .any e = true → S e.on) (h : Anc all i j)
    (hj : ∀ o, all[j]? = some o → ∀ e ∈ o.after, Region.binds .any e = true → S e.on) : S i := by
  induction h with
  | dir h1 h2 h3 h4 => exact h4 ▸ hj _ h1 _ h2 h3
  | step h1 h2 h3 _ ih => exact ih (hS _ (hj _ h1 _ h2 h3))

end Go.Ex
/- A region that asks the tape. -/
set_option autoImplicit false
set_option linter.unusedVariables false
set_option linter.unusedSectionVars false
namespace Go.Ex
open Go.RowKit
section
variable {P : Program} {E : EP} (hT : ∀ t i, E.ti t = some i → TiOK P t i) (hX : ExtOK P E) (hN : EnterOK P E)
variable {Out : Nat → Prop} {N : Nat} {w0 : World} {g0 : List (Option Nat)} {H0 : List OB} {lam : Nat → Nat} {g : List (Option Nat)} {st st' : St} {a : Act} {w : World} {o : Oper}

include hT hX hN in
theorem step1_ok {k : Nat} (hR : ∀ j, j < k → RunOK P E j) {cfg : Cfg} {kp : List Nat} {fork : Bool} {ops : Array Oper} {Q : Exit → Act → World → Prop} {K : Act → World → Prop} {i : Nat} {D : List Nat} (hget : ops[i]? = some o)
    (hs : step1 E k cfg kp fork ops.toList o st = some st') (h : FR Out N w0 g0 H0 lam g st a w) (htl : TlOK st D) (hd : ∀ t, o.dst = some t → t < N ∧ t ∉ D) (hgd : ∀ t b, guardOf ops.toList o = some (some (t, b)) → t ∈ D ∧ t < N)
    (hK : ∀ a' w' lam' g', FR Out N w0 g0 H0 lam' g' st' a' w' → TlOK st' (D ++ o.dst.toList) → K a' w') : wpOp P ops Q i K a w := by
  unfold Go.wpOp
  rw [hget]
  simp only
  unfold step1 at hs
  cases hgo : guardOf ops.toList o with
  | none => simp [hgo] at hs
  | some gd =>
    cases gd with
    | none =>
      simp only [hgo] at hs
      rw [if_pos (wanted_none (guardOf_none hgo))]
      refine Or.inl ?_
      cases ho : runOp E k cfg none o st with
      | none => simp [ho] at hs
      | some p =>
        obtain ⟨x, st1⟩ := p
        simp only [ho] at hs
        cases hs
        refine runOp_ok hT hX hN hR h (gd := none) trivial ho _ _ fun v w' lam' g' hx hf => ?_
        have htl1 : TlOK st1 D := fun u gd y hy => htl u gd y ((runOp_vals ho).2 ▸ hy)
        obtain ⟨p1, p2⟩ := putTV_ok (kp := kp) hf htl1 hd hx
        exact hK _ _ _ _ p1 p2
    | some tb =>
      obtain ⟨t, b⟩ := tb
      simp only [hgo] at hs
      obtain ⟨htD, htN'⟩ := hgd t b hgo
      have htN : t < a.tmps.size := Nat.lt_of_lt_of_le htN' h.size
      have hw := guard_cases (a := a) htN hgo
      -- not carried out
      have skip : ¬ a.tmps.getD t undef = .bool b → some (putTV kp o.dst (.v (.tp [])) st) = some st' → (if Region.wanted o (yielded ops a.tmps) = true then o.wp P a w K Q ∨ o.asks P a w ∧ LetsOut Q else K (a.put o.dst undef) w) := by
        intro hnb hr1
        cases hr1
        rw [if_neg (fun e => hnb (hw.1 e))]
        obtain ⟨p1, p2⟩ := putTV_ok (kp := kp) (x := .v (.tp [])) (v := undef) h htl hd vr_unit
        exact hK _ _ _ _ p1 p2
      cases fork with
      | true =>
        simp only at hs
        split at hs
        · rename_i x hx
          have hxv := h.getG (gd := none) trivial hx
          simp only [TR] at hxv
          generalize htv : a.tmps.getD t undef = tv at hxv
          cases hxv
          cases hxb : (x == b) with
          | true =>
            rw [hxb] at hs
            simp only [cond_true] at hs
            have e : x = b := by simpa using hxb
            rw [if_pos (hw.2 (by rw [htv, e]))]
            refine Or.inl ?_
            cases ho : runOp E k cfg none o st with
            | none => simp [ho] at hs
            | some p =>
              obtain ⟨y, st1⟩ := p
              simp only [ho] at hs
              cases hs
              refine runOp_ok hT hX hN hR h (gd := none) trivial ho _ _ fun v w' lam' g' hx hf => ?_
              have htl1 : TlOK st1 D := fun u gd y hy => htl u gd y ((runOp_vals ho).2 ▸ hy)
              obtain ⟨p1, p2⟩ := putTV_ok (kp := kp) hf htl1 hd hx
              exact hK _ _ _ _ p1 p2
          | false =>
            rw [hxb] at hs
            simp only [cond_false] at hs
            refine skip (fun e => ?_) hs
            rw [htv] at e
            cases e
            simp at hxb
        · rename_i hx
          have hxv := h.getG (gd := none) trivial hx
          simp only [TR] at hxv
          generalize htv : a.tmps.getD t undef = tv at hxv
          cases hxv
          exact skip (fun e => by rw [htv] at e; cases e) hs
        · cases hs
      | false =>
        simp only at hs
        cases hp : plainOp cfg o with
        | false => simp [hp] at hs
        | true =>
          simp only [hp] at hs
          cases ho : runOp E k cfg (some (t, b)) o st with
          | none => simp [ho] at hs
          | some p =>
            obtain ⟨y, st1⟩ := p
            simp only [ho] at hs
            have hst1 := runOp_plain hp ho
            subst hst1
            by_cases hb : a.tmps.getD t undef = .bool b
            · rw [if_pos (hw.2 hb)]
              refine Or.inl (runOp_ok hT hX hN hR h (gd := some (t, b)) hb ho _ _ fun v w' lam' g' hx hf => ?_)
              obtain ⟨p1, p2⟩ := putC_ok hf htl hd htD (fun _ => hx) hs
              exact hK _ _ _ _ p1 p2
            · rw [if_neg (fun e => hb (hw.1 e))]
              obtain ⟨p1, p2⟩ := putC_ok (gw := (t, b)) (v := undef) h htl hd htD (fun hm => (hb hm).elim) hs
              exact hK _ _ _ _ p1 p2
end

theorem step1_mono {E : EP} {k : Nat} {cfg : Cfg} {kp : List Nat} {fork : Bool} {all : List Oper} {o : Oper} {st st' : St} (h : step1 E k cfg kp fork all o st = some st') : step1 E (k + 1) cfg kp fork all o st = some st' := by
  unfold step1 at h ⊢
  cases hg : guardOf all o with
  | none => rw [hg] at h; cases h
  | some gd =>
    cases gd with
    | none =>
      simp only [hg] at h ⊢
      cases hr : runOp E k cfg none o st with
      | none => rw [hr] at h; cases h
      | some p => rw [fOp (Nat.le_succ k) hr]; rw [hr] at h; exact h
    | some tw =>
      obtain ⟨t, w⟩ := tw
      simp only [hg] at h ⊢
      cases fork with
      | true =>
        try simp only at h ⊢
        split at h
        · rename_i b hb
          try simp only [hb]
          cases hbw : (b == w) with
          | true =>
            rw [hbw] at h
            simp only [cond_true] at h ⊢
            cases hr : runOp E k cfg none o st with
            | none => rw [hr] at h; cases h
            | some p => rw [fOp (Nat.le_succ k) hr]; rw [hr] at h; exact h
          | false => rw [hbw] at h; exact h
        · rename_i hb; (try simp only [hb]); exact h
        · cases h
      | false =>
        try simp only at h ⊢
        cases hp : plainOp cfg o with
        | false => rw [hp] at h; cases h
        | true =>
          simp only [hp] at h ⊢
          cases hr : runOp E k cfg (some (t, w)) o st with
          | none => rw [hr] at h; cases h
          | some p => rw [fOp (Nat.le_succ k) hr]; rw [hr] at h; exact h

theorem runI_mono {E : EP} {k : Nat} {cfg : Cfg} {kp : List Nat} {fork : Bool} {all : List Oper} : ∀ {l : List Nat} {st st' : St}, runI E k cfg kp fork all l st = some st' → runI E (k + 1) cfg kp fork all l st = some st'
  | [], st, st', h => h
  | i :: l, st, st', h => by
    obtain ⟨o, m, h1, h2, h3⟩ := runI_cons.1 h
    exact runI_cons.2 ⟨o, m, h1, step1_mono h2, runI_mono h3⟩

theorem runOps_runI {E : EP} {cfg : Cfg} {kp : List Nat} {fork : Bool} {all : List Oper} : ∀ {l pre : List Oper} {m : Nat} {st st' : St}, pre ++ l = all → runOps E (m + 1) cfg kp fork all l st = some st' → runI E m cfg kp fork all (List.range' pre.length l.length) st = some st'
  | [], pre, m, st, st', ha, h => by rw [runOps] at h; exact h
  | o :: l, pre, m, st, st', ha, h => by
    have ho : all[pre.length]? = some o := by
      rw [← ha, List.getElem?_append_right (Nat.le_refl _), Nat.sub_self]; rfl
    rw [List.length_cons, List.range'_succ]
    cases m with
    | zero =>
      exfalso
      rw [runOps] at h
      cases hg : guardOf all o with
      | none => rw [hg] at h; cases h
      | some gd =>
        cases gd with
        | none => simp only [hg, runOp] at h; cases h
        | some tw =>
          obtain ⟨t, w⟩ := tw
          simp only [hg] at h
          cases fork with
          | true =>
            simp only [runOp, runOps] at h
            split at h
            · rename_i b hb
              cases hbw : (b == w) with
              | true => rw [hbw] at h; cases h
              | false => rw [hbw] at h; cases h
            · cases h
            · cases h
          | false =>
            simp only [runOp] at h
            split at h <;> cases h
    | succ m =>
      have next : ∀ {s}, runOps E (m + 1) cfg kp fork all l s = some st' → runI E (m + 1) cfg kp fork all (List.range' (pre.length + 1) l.length) s = some st' := by
        intro s hs
        have := runOps_runI (pre := pre ++ [o]) (by rw [← ha]; simp) hs
        rw [List.length_append] at this
        exact runI_mono this
      have fin : ∀ {s}, step1 E (m + 1) cfg kp fork all o st = some s → runOps E (m + 1) cfg kp fork all l s = some st' → runI E (m + 1) cfg kp fork all (pre.length :: List.range' (pre.length + 1) l.length) st = some st' :=
        fun h1 h2 => runI_cons.2 ⟨o, _, ho, h1, next h2⟩
      rw [runOps] at h
      unfold step1 at fin
      split at h
      · cases h
      · rename_i hg
        simp only [hg] at fin
        split at h
        · rename_i x s1 hr
          simp only [hr] at fin
          exact fin rfl h
        · cases h
      · rename_i t w hg
        simp only [hg] at fin
        split at h
        · split at h
          · rename_i b hb
            simp only [hb] at fin
            cases hbw : (b == w) with
            | true =>
              simp only [hbw, cond_true] at h fin
              split at h
              · rename_i x s1 hr
                simp only [hr] at fin
                exact fin rfl h
              · cases h
            | false =>
              simp only [hbw, cond_false] at h fin
              exact fin rfl h
          · rename_i hb
            simp only [hb] at fin
            exact fin rfl h
          · cases h
        · split at h
          · rename_i hp
            simp only [hp] at fin
            split at h
            · rename_i x s1 hr
              simp only [hr] at fin
              split at h
              · rename_i s2 hpc
                exact fin hpc h
              · cases h
            · cases h
          · cases h

theorem sortedB_spec {α : Type} : ∀ {L : List (Nat × α)}, sortedB L = true → Sorted L
  | [], _ => Sorted.nil
  | [(a, x)], _ => by simp [Sorted]
  | (a, x) :: (b, y) :: r, h => by
    simp only [sortedB, Bool.and_eq_true] at h
    have ih : Sorted ((b, y) :: r) := sortedB_spec (by simp only [sortedB, Bool.and_eq_true]; exact h.2)
    refine Sorted.cons_iff.2 ⟨fun e he => ?_, ih⟩
    have hab : b < a := ltN.1 h.1
    rcases List.mem_cons.1 he with rfl | he
    · exact hab
    · exact Nat.lt_trans ((Sorted.cons_iff.1 ih).1 e he) hab

theorem cls5_alloc {E : EP} {cfg : Cfg} {o : Oper} {d : Nat} (h : cls E cfg o = 5) (hd : o.dst = some d) : allocD cfg o = some d := by
  unfold cls at h
  unfold allocD
  cases hop : o.op <;> simp only [hop] at h
  case alloc t => 
    simp only [hd] at h ⊢
    cases hb : elemN cfg.loc d with
    | true => rfl
    | false => rw [hb] at h; cases h
  case box t y =>
    simp only [hd] at h ⊢
    cases hb : elemN cfg.loc d with
    | true => rfl
    | false => rw [hb] at h; cases h
  all_goals
    exfalso
    try simp only [cond_eq_ite] at h
    repeat' split at h
    all_goals cases h

theorem freshAll_spec {cfg : Cfg} {vals : List (Nat × TV)} {locs : List (Nat × List AV)} : ∀ {ops : List Oper}, freshAll cfg vals locs ops = true → ∀ o ∈ ops, ∀ d, allocD cfg o = some d → hasP d vals = false ∧ hasK locs d = false
  | [], _, o, ho, d, _ => by simp at ho
  | o' :: r, h, o, ho, d, hd => by
    simp only [freshAll, Bool.and_eq_true] at h
    rcases List.mem_cons.1 ho with rfl | ho
    · have := h.1
      rw [hd] at this
      simpa using this
    · exact freshAll_spec h.2 o ho d hd

theorem regChk_spec {N : Nat} : ∀ {l pre : List Oper} {D : List Nat} {all : List Oper}, pre ++ l = all → regChk N l D pre.length = true → (∀ t, t ∈ dstsOf pre → t ∈ D) → ∀ j oj, pre.length ≤ j → all[j]? = some oj →
    (∀ t, oj.dst = some t → t < N ∧ (∀ i oi, i < j → all[i]? = some oi → oi.dst ≠ some t)) ∧ (∀ i b, oj.guard = some (i, b) → i < j)
  | [], pre, D, all, ha, h, hD, j, oj, hj, ho => by
    rw [← ha, List.append_nil, List.getElem?_eq_none hj] at ho
    cases ho
  | o :: l, pre, D, all, ha, h, hD, j, oj, hj, ho => by
    simp only [regChk, Bool.and_eq_true] at h
    obtain ⟨⟨c1, c2⟩, c3⟩ := h
    by_cases hjp : j = pre.length
    · subst hjp
      have : o = oj := by
        rw [← ha, List.getElem?_append_right (Nat.le_refl _), Nat.sub_self] at ho
        simpa using ho
      subst this
      refine ⟨fun t ht => ?_, fun i b hg => ?_⟩
      · rw [ht] at c2
        simp only [Bool.and_eq_true] at c2
        refine ⟨ltN.1 c2.1, fun i oi hi hoi e => elemN_not c2.2 (hD t ?_)⟩
        rw [← ha, List.getElem?_append_left hi] at hoi
        exact List.mem_filterMap.2 ⟨oi, List.mem_of_getElem? hoi, e⟩
      · rw [hg] at c1
        exact ltN.1 c1
    · refine regChk_spec (l := l) (pre := pre ++ [o]) (by rw [← ha]; simp) (by simpa using c3) (fun t ht => ?_) j oj (by simp; omega) ho
      rw [dsts_append, List.mem_append] at ht
      rcases ht with ht | ht
      · cases hd : o.dst with
        | none => exact hD t ht
        | some u => exact List.mem_cons_of_mem _ (hD t ht)
      · cases hd : o.dst with
        | none => rw [hd] at ht; simp at ht
        | some u => rw [hd] at ht; simp at ht; subst ht; exact List.mem_cons_self

end Go.Ex
/- A region that asks the tape: whatever it answers. -/
set_option autoImplicit false
set_option linter.unusedVariables false
set_option linter.unusedSectionVars false
namespace Go.Ex
open Go.RowKit
section
variable {P : Program} {E : EP} (hT : ∀ t i, E.ti t = some i → TiOK P t i) (hX : ExtOK P E) (hN : EnterOK P E)
variable {Out : Nat → Prop} {N : Nat} {w0 : World} {g0 : List (Option Nat)} {H0 : List OB} {st st' : St}

/-- the temporaries of the listed operations -/
def dstI (ops : Array Oper) (l : List Nat) : List Nat := l.filterMap fun i => (ops[i]?).bind (·.dst)

include hT hX hN in
theorem any_ok {k : Nat} (hR : ∀ j, j < k → RunOK P E j) {cfg : Cfg} {kp : List Nat} {fork : Bool} {ops : Array Oper} {Q : Exit → Act → World → Prop} (hdr : drChk E cfg ops = true) (hreg : regChk N ops.toList [] 0 = true)
    (hinv : Inv E cfg ops.toList (List.range ops.size) st) (hQ : ∀ a' w' lam' g', FR Out N w0 g0 H0 lam' g' st' a' w' → Q .normal a' w') :
    ∀ (fuel : Nat) (l r : List Nat) (listed : Array Bool) (sl : St) (a : Act) (w : World) (lam : Nat → Nat) (g : List (Option Nat)), r.length = fuel → (l ++ r).Nodup → (∀ i, i ∈ l ++ r ↔ i < ops.size) → r.Pairwise (· < ·) → listed.size = ops.size → (∀ i, i < ops.size → listed[i]? = some (decide (i ∈ l))) →
      (∀ j ∈ l, ∀ o, ops[j]? = some o → ∀ e ∈ o.after, Region.binds .any e = true → e.on ∈ l) → runI E k cfg kp fork ops.toList l st = some sl → runI E k cfg kp fork ops.toList (l ++ r) st = some st' → TlOK sl (dstI ops l) → FR Out N w0 g0 H0 lam g sl a w →
      wpAny P .any ops Q fuel listed a w := by
  have spec := regChk_spec (N := N) (l := ops.toList) (pre := []) (D := []) (all := ops.toList) rfl hreg (fun t ht => by simp [dstsOf] at ht)
  have hdist : DistD ops.toList := by
    intro i j oi oj d hij hi hj hid hjd
    rcases Nat.lt_or_gt_of_ne hij with h | h
    · exact ((spec j oj (Nat.zero_le _) hj).1 d hjd).2 i oi h hi hid
    · exact ((spec i oi (Nat.zero_le _) hi).1 d hid).2 j oj h hj hjd
  intro fuel
  induction fuel with
  | zero =>
    intro l r listed sl a w lam g hr hnd hmem hpw hsz hl hcl hrl hrr htl hfr
    have : r = [] := List.eq_nil_of_length_eq_zero hr
    subst this
    rw [List.append_nil] at hrr hmem
    rw [hrl] at hrr
    cases hrr
    refine ⟨?_, hQ a w lam g hfr⟩
    rw [List.eq_nil_iff_forall_not_mem]
    intro j hj
    rw [mem_ready] at hj
    obtain ⟨h1, o, h2, _⟩ := hj
    have hlt : j < ops.size := (Array.getElem?_eq_some_iff.1 h2).1
    have := hl j hlt
    rw [Array.getD_eq_getD_getElem?, this] at h1
    simp only [Option.getD_some, decide_eq_false_iff_not] at h1
    exact h1 ((hmem j).2 hlt)
  | succ fuel ih =>
    intro l r listed sl a w lam g hr hnd hmem hpw hsz hl hcl hrl hrr htl hfr
    refine ⟨fun hready => ?_, fun j hj => ?_⟩
    · -- the first that is not listed is ready
      exfalso
      cases r with
      | nil => simp at hr
      | cons j r =>
        have hjn : j < ops.size := (hmem j).1 (by simp)
        have hjl : j ∉ l := fun h => by
          rw [List.nodup_append] at hnd
          exact hnd.2.2 j h j (by simp) rfl
        have : j ∈ Region.ready .any ops listed := by
          rw [mem_ready]
          refine ⟨?_, ops[j], Array.getElem?_eq_getElem hjn, fun e he hb => ?_⟩
          · rw [Array.getD_eq_getD_getElem?, hl j hjn]; simp [hjl]
          · have hlt := drChk_edges hdr (Array.getElem?_eq_getElem hjn) e he hb
            have hen : e.on < ops.size := Nat.lt_trans hlt hjn
            rw [Array.getD_eq_getD_getElem?, hl _ hen]
            simp only [Option.getD_some, decide_eq_true_eq]
            have := (hmem e.on).2 hen
            rw [List.mem_append] at this
            rcases this with h | h
            · exact h
            · exfalso
              rcases List.mem_cons.1 h with h | h
              · omega
              · have := (List.pairwise_cons.1 hpw).1 _ h
                omega
        rw [hready] at this
        simp at this
    · rw [mem_ready] at hj
      obtain ⟨h1, o, h2, h3⟩ := hj
      have hlt : j < ops.size := (Array.getElem?_eq_some_iff.1 h2).1
      have hjl : j ∉ l := by
        rw [Array.getD_eq_getD_getElem?, hl j hlt] at h1
        simpa using h1
      have hin : ∀ i, listed.getD i false = true → i ∈ l := by
        intro i hi
        by_cases hin : i < ops.size
        · rw [Array.getD_eq_getD_getElem?, hl i hin] at hi
          simpa using hi
        · rw [Array.getD_eq_getD_getElem?, Array.getElem?_eq_none (by omega)] at hi
          simp at hi
      have h3' : ∀ e ∈ o.after, Region.binds .any e = true → e.on ∈ l := fun e he hb => hin _ (h3 e he hb)
      have hjr : j ∈ r := by
        have := (hmem j).2 hlt
        rw [List.mem_append] at this
        exact this.resolve_left hjl
      obtain ⟨u, v, rfl⟩ := List.append_of_mem hjr
      have h2' : ops.toList[j]? = some o := by simpa using h2
      -- it is free of those that the text has ahead of it
      have hfree : ∀ i ∈ u, ∀ oi, ops.toList[i]? = some oi → pairOk E cfg ops.toList oi o = true := by
        intro i hi oi hoi
        have hij : i < j := by
          rw [List.pairwise_append] at hpw
          exact hpw.2.2 i hi j (by simp)
        rcases drChk_spec hdr hij (by simpa using hoi) h2 with h | h
        · exfalso
          have hil : i ∈ l := h.closed (S := fun i => i ∈ l) (fun j' hj' o' ho' e he hb => hcl j' hj' o' (by simpa using ho') e he hb) (fun o' ho' e he hb => by rw [h2'] at ho'; cases ho'; exact h3' e he hb)
          rw [List.nodup_append] at hnd
          exact hnd.2.2 i hil i (by simp [hi]) rfl
        · exact h
      obtain ⟨sl', q1, q2⟩ := runI_append.1 hrr
      rw [hrl] at q1
      cases q1
      have hnd2 : (u ++ j :: v).Nodup := by rw [List.nodup_append] at hnd; exact hnd.2.1
      have hinv2 : Inv E cfg ops.toList (l ++ (u ++ j :: v)) st := hinv.sub fun i hi => by rw [List.mem_range]; exact (hmem i).1 hi
      have hinv3 := Inv.run hdist hnd hinv2 hrl
      have hb := bubble hdist h2' hnd2 hinv3 hfree q2
      obtain ⟨o', s2, b1, b2, b3⟩ := runI_cons.1 hb
      rw [h2'] at b1
      cases b1
      -- the operation
      have hgd : ∀ t b, guardOf ops.toList o = some (some (t, b)) → t ∈ dstI ops l ∧ t < N := by
        intro t b hg
        obtain ⟨jg, og, g1, g2, g3⟩ := guardOf_some hg
        have hjg := (spec j o (Nat.zero_le _) h2').2 jg b g1
        have hgl : jg ∈ l := by
          have hn : pairOk E cfg ops.toList og o = false := by
            cases hp : pairOk E cfg ops.toList og o with
            | false => rfl
            | true =>
              exfalso
              have := (pairOk_spec hp).2.1 t g3
              unfold looks at this
              rw [hg] at this
              simp at this
          rcases drChk_spec hdr hjg (by simpa using g2) h2 with h | h
          · exact h.closed (S := fun i => i ∈ l) (fun j' hj' o' ho' e he hb => hcl j' hj' o' (by simpa using ho') e he hb) (fun o' ho' e he hb => by rw [h2'] at ho'; cases ho'; exact h3' e he hb)
          · rw [hn] at h; cases h
        refine ⟨List.mem_filterMap.2 ⟨jg, hgl, ?_⟩, ((spec jg og (Nat.zero_le _) g2).1 t g3).1⟩
        rw [← Array.getElem?_toList, g2]; exact g3
      have hd : ∀ t, o.dst = some t → t < N ∧ t ∉ dstI ops l := by
        intro t ht
        refine ⟨((spec j o (Nat.zero_le _) h2').1 t ht).1, fun hm => ?_⟩
        obtain ⟨i, hi, he⟩ := List.mem_filterMap.1 hm
        cases hoi : ops[i]? with
        | none => rw [hoi] at he; cases he
        | some oi =>
          rw [hoi] at he
          exact hdist i j oi o t (fun e => hjl (e ▸ hi)) (by simpa using hoi) h2' he ht
      refine step1_ok hT hX hN hR h2 b2 hfr htl hd hgd fun a' w' lam' g' hfr' htl' => ?_
      have hperm : (l ++ (u ++ j :: v)).Perm (l ++ [j] ++ (u ++ v)) := by
        rw [List.append_assoc]
        exact List.Perm.append_left l (by simpa using List.perm_middle)
      refine ih (l ++ [j]) (u ++ v) _ s2 a' w' lam' g' ?_ (hperm.nodup_iff.1 hnd) (fun i => by rw [← hperm.mem_iff]; exact hmem i) ?_ (by simp [hsz]) ?_ ?_ ?_ ?_ ?_ hfr'
      · simp at hr ⊢; omega
      · exact hpw.sublist (by simp)
      · intro i hi
        by_cases hij : j = i
        · subst hij
          rw [Array.getElem?_setIfInBounds_self_of_lt (by omega)]
          simp
        · rw [Array.getElem?_setIfInBounds_ne hij, hl i hi]
          simp [Ne.symm hij]
      · intro j' hj' o' ho' e he hbe
        rcases List.mem_append.1 hj' with h | h
        · exact List.mem_append_left _ (hcl j' h o' ho' e he hbe)
        · have : j' = j := by simpa using h
          subst this
          rw [h2] at ho'
          cases ho'
          exact List.mem_append_left _ (h3' e he hbe)
      · exact runI_append.2 ⟨sl, hrl, runI_cons.2 ⟨o, s2, h2', b2, rfl⟩⟩
      · exact runI_append.2 ⟨s2, runI_append.2 ⟨sl, hrl, runI_cons.2 ⟨o, s2, h2', b2, rfl⟩⟩, b3⟩
      · have : dstI ops (l ++ [j]) = dstI ops l ++ o.dst.toList := by
          unfold dstI
          rw [List.filterMap_append]
          congr 1
          simp only [List.filterMap_cons, h2, Option.bind_some, List.filterMap_nil]
          cases o.dst <;> rfl
        rw [this]; exact htl'

include hT hX hN in
theorem drawOK (hm : P.follows .mixedOrders = true) {n : Nat} (hR : ∀ j, j < n → RunOK P E j) (cfg : Cfg) : DrawOK P E (fun _ ops => drChk E cfg ops) Out N w0 g0 H0 cfg n := by
  intro id ops m st st' a w lam g Q hmn hdr hreg htl hchk hrun hfr hQ
  cases m with
  | zero => simp [runOps] at hrun
  | succ k =>
    have hrun' := runOps_runI (pre := []) rfl hrun
    simp only [drawChk, Bool.and_eq_true] at hchk
    have hinv : Inv E cfg ops.toList (List.range ops.size) st := by
      refine ⟨⟨hfr.vnd.1, hfr.vnd.2⟩, sortedB_spec hchk.1, fun i _ o ho hc d hd => ?_⟩
      obtain ⟨h1, h2⟩ := freshAll_spec hchk.2 o (List.mem_of_getElem? ho) d (cls5_alloc hc hd)
      exact ⟨h1, by rw [htl]; rfl, h2⟩
    refine wp_region_any hm ?_
    have := any_ok hT hX hN (fun j hj => hR j (by omega)) (Q := Q) (k := k) (kp := kpOf cfg id) (fork := elemN cfg.fork id) hdr hreg hinv hQ ops.size [] (List.range ops.size) (Array.replicate ops.size false) st a _ lam g (by simp) (by simp [List.nodup_range]) (fun i => by simp) List.pairwise_lt_range (by simp) (fun i hi => by simp [hi]) (fun j hj => by simp at hj) rfl
      (by rw [List.range_eq_range']; simpa using hrun') (fun t gd y hy => by rw [htl] at hy; simp at hy) (hfr.grow (Grow.drew w))
    exact this

end
end Go.Ex
