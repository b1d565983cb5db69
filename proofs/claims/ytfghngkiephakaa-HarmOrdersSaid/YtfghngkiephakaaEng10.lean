/- The evaluator of this proof, part 10. -/
import Derived.Test.YtfghngkiephakaaEng09
import GoSem.Instr.Slice
import GoSem.Instr.MapUpdate
set_option linter.unnecessarySimpa false
set_option linter.unusedVariables false
set_option linter.unusedSimpArgs false
set_option linter.unusedSectionVars false
set_option linter.deprecated false
/- parts of slices, maps, iterators. -/
set_option autoImplicit false
set_option linter.unusedVariables false
set_option linter.unusedSectionVars false
namespace Go.Ex
open Go.RowKit
section
variable {P : Program} {E : EP}
variable {Out : Nat → Prop} {N : Nat} {w0 : World} {g0 : List (Option Nat)} {H0 : List OB} {lam : Nat → Nat} {g : List (Option Nat)} {st : St} {a : Act} {w : World} {o : Oper}

theorem VR.part {Mu : Nat → Prop} {H : List OB} {n : Nat} {es : List (List AV)} {clip clip' : Bool} {ad : Option Addr} {cap l r m : Nat} (h : VR Mu w H g (.sl n es clip) (.slice ad es.length cap)) (h1 : l ≤ r) (h2 : r ≤ es.length) (hm : r ≤ m) (hm2 : m ≤ cap) (hcl : clip' = true → m = r) :
    VR Mu w H g (.sl n ((es.take r).drop l) clip') (.slice (if m = l then ad else ad.map (·.add (l * n))) (r - l) (m - l)) := by
  cases h with
  | sl _ _ _ _ _ c hcap hclip hnil hrow hc hcell hh =>
    have hlen : ((es.take r).drop l).length = r - l := by simp; omega
    have hget : ∀ i row, ((es.take r).drop l)[i]? = some row → es[l + i]? = some row ∧ l + i < r := by
      intro i row hi
      rw [List.getElem?_drop, List.getElem?_take] at hi
      split at hi
      · rename_i hlt; exact ⟨hi, hlt⟩
      · cases hi
    rw [← hlen]
    refine .sl n _ clip' _ _ (fun i j => c (l + i) j) (by rw [hlen]; omega) (fun e => by rw [hlen, hcl e]) (fun e => ?_) (fun i row hi => hrow _ row (hget i row hi).1) (fun i row j x hi hx => hc _ row j x (hget i row hi).1 hx) (fun i row j x hi hx => ?_) (fun i row j x hi hx => hh _ row j x (hget i row hi).1 hx)
    · split at e
      · omega
      · cases ad with
        | none => have := hnil rfl; omega
        | some ad => simp at e
    · obtain ⟨e1, e2⟩ := hget i row hi
      obtain ⟨ad', k1, k2, k3, k4⟩ := hcell _ row j x e1 hx
      subst k1
      rw [if_neg (by omega)]
      refine ⟨ad'.add (l * n), rfl, ?_, ?_, ?_⟩
      · rw [add_eq' _ _ k2]
      · rw [add_eq' _ _ k2]
        show w.cell? ⟨ad'.block, ad'.off + l * n + (i * n + j), none⟩ = _
        have : ad'.off + l * n + (i * n + j) = ad'.off + ((l + i) * n + j) := by rw [Nat.add_mul]; omega
        rw [this]; exact k3
      · rw [add_eq' _ _ k2]; exact k4

theorem op_slice (hT : ∀ t i, E.ti t = some i → TiOK P t i) (h : FR Out N w0 g0 H0 lam g st a w) {gd : Gd} (hm : Met a gd) {t : Nat} {x : Operand} {lo hi mx : Option Operand} (ho : o.op = .slice t x lo hi mx) {i : TI} (hi' : E.ti t = some i) {y v : AV} (hx : VR (MuOf Out lam st.locs g) w st.heap g y (a.eval x))
    (hs : sliceAV E gd st i.kind (elSize E t) y lo hi mx = some v) : OpRes P Out N w0 g0 H0 st a w o (.v v) st := by
  have run : ∀ d r, P.underlying t = some d → (∀ n e, d ≠ .array n e) → (Instr.slice t (a.eval x) (lo.map a.eval) (hi.map a.eval) (mx.map a.eval)).run P w = .ok r w → (execOp a.eval o).run P w = .ok (.value r) w := by
    intro d r hd hna hr
    have hr2 : (Instr.sliceAt t (a.eval x) (lo.map a.eval) (hi.map a.eval) (mx.map a.eval)).run P w = .ok r w := by
      unfold Instr.sliceAt
      simp only [Sem.run_bind, run_underlying hd, Result.andThen_ok]
      cases d <;> first | exact hr | exact absurd rfl (hna _ _)
    unfold execOp
    simp only [ho, Sem.run_bind, hr2, Result.andThen_ok, Sem.run_pure]
  unfold sliceAV at hs
  split at hs
  · rename_i m es clip
    have hq := bif_some hs
    clear hs
    obtain ⟨hb, hs⟩ := hq
    simp only [Bool.and_eq_true] at hb
    obtain ⟨⟨b1, b2⟩, b3⟩ := hb
    obtain rfl := Nat.eq_of_beq_eq_true b1
    have hk : i.kind = 3 := Nat.eq_of_beq_eq_true b3
    have hpos : 0 < elSize E t := by unfold Nat.blt at b2; rw [Nat.ble_eq] at b2; exact b2
    obtain ⟨e, he, hes⟩ := elSize_some hi' hpos
    have hu := (hT t i hi').slice hk
    have hso := run_sizeOf hT he w
    rw [hes] at hso
    generalize hxv : a.eval x = xv at hx
    have hx0 := hx
    cases hx with
    | sl _ _ _ ad cap c hcap hclip hnil hrow hcl hcell hh =>
      split at hs
      · rename_i l r hl hr
        split at hs
        · split at hs
          · rename_i hc
            simp only [Option.some.injEq] at hs
            subst hs
            have hrun := run_bounds2 (P := P) h hm (b := true) (cap := cap) hl hr hc.1 hc.2.1 hc.2.2 hcap
            refine OpRes.same h (run _ _ hu (fun _ _ hh => by cases hh) ?_) (VR.part (l := l.toNat) (r := r.toNat) (m := cap) hx0 (by omega) (by omega) (by omega) (Nat.le_refl _) fun hcc => ?_)
            · rw [hxv]
              simp only [Instr.slice, Sem.run_bind, run_underlying hu, Result.andThen_ok, Option.map_none, hrun, hso, Sem.run_pure]
            · simp only [Bool.and_eq_true, decide_eq_true_eq] at hcc
              have := hclip hcc.1
              omega
          · cases hs
        · rename_i mo
          split at hs
          · rename_i d hd
            split at hs
            · rename_i hc
              simp only [Option.some.injEq] at hs
              subst hs
              have hrun := run_bounds3 (P := P) (cap := cap) h hm hl hr hc.2.2.2.2 hd rfl hc.1 hc.2.1 hc.2.2.1 hc.2.2.2.1 hcap
              refine OpRes.same h (run _ _ hu (fun _ _ hh => by cases hh) ?_) (VR.part (l := l.toNat) (r := r.toNat) (m := d.toNat) hx0 (by omega) (by omega) (by omega) (by omega) fun _ => by omega)
              rw [hxv]
              simp only [Option.map_some] at hrun
              simp only [Instr.slice, Sem.run_bind, run_underlying hu, Result.andThen_ok, Option.map_some, hrun, hso, Sem.run_pure]
            · cases hs
          · cases hs
      · cases hs
  · rename_i o' m off len tot
    have hq := bif_some hs
    clear hs
    obtain ⟨hb, hs⟩ := hq
    simp only [Bool.and_eq_true] at hb
    obtain ⟨⟨b1, b2⟩, b3⟩ := hb
    obtain rfl := Nat.eq_of_beq_eq_true b1
    have hk : i.kind = 3 := Nat.eq_of_beq_eq_true b3
    have hpos : 0 < elSize E t := by unfold Nat.blt at b2; rw [Nat.ble_eq] at b2; exact b2
    obtain ⟨e, he, hes⟩ := elSize_some hi' hpos
    have hu := (hT t i hi').slice hk
    have hso := run_sizeOf hT he w
    rw [hes] at hso
    generalize hxv : a.eval x = xv at hx
    cases hx with
    | hs _ _ _ _ _ rows grow lvl ad cap hob ht hnn hv =>
      split at hs
      · rename_i l r m2 rows2 grow2 lvl2 hl hr hob2
        split at hs
        · rename_i hc
          simp only [Option.some.injEq] at hs
          subst hs
          rw [hob] at hob2; cases hob2
          have hv2 := hv hc.2.2.2
          have hlc : len ≤ cap := by
            rcases hv2 with ⟨_, e2, _, ad', e4⟩ | ⟨b, cap', _, e2, _, e4, _⟩ | ⟨e1, _, ad', cap', e3, _⟩
            · omega
            · cases e2; exact e4
            · omega
          have hrun := run_bounds2 (P := P) h hm (b := true) (cap := cap) hl hr hc.1 hc.2.1 hc.2.2.1 hlc
          have e0 : r.toNat - l.toNat = (r - l).toNat := by omega
          refine OpRes.same h (run (.slice i.el) (.slice (if cap = l.toNat then ad else ad.map (·.add (l.toNat * elSize E t))) (r - l).toNat (cap - l.toNat)) hu (fun _ _ hh => by cases hh) ?_) ?_
          · rw [hxv]
            simp only [Instr.slice, Sem.run_bind, run_underlying hu, Result.andThen_ok, Option.map_none, hrun, hso, Sem.run_pure, e0]
          · refine .hs o' _ _ _ tot rows grow lvl _ _ hob ht (fun hn => ?_) fun hl => ?_
            · split at hn
              · omega
              · have := hnn (by cases ad with | none => rfl | some ad => simp at hn)
                omega
            · rcases hv2 with ⟨e1, e2, e3, ad', e4⟩ | ⟨b, cap', e1, e2, e3, e4, e5, e6⟩ | ⟨e1, e2, ad', cap', e3, e7⟩
              · cases e4
                have l0 : l = 0 := by omega
                have r0 : r = 0 := by omega
                subst l0; subst r0
                exact Or.inl ⟨e1, rfl, by simpa using e3, _, by simp; rfl⟩
              · cases e2
                by_cases hcl : cap = l.toNat
                · rw [if_pos hcl]
                  have hr0 : (r - l).toNat = 0 := by omega
                  by_cases ho0 : off + l.toNat = 0
                  · have hr2 := h.rows hob
                    have : rows = [] := by
                      rcases hr2.2 with ⟨h0, _⟩ | ⟨b', C, ec, g1, g2, g3, g4, g5⟩
                      · exact h0
                      · rw [e1] at g1; cases g1
                        have hz : off + cap = 0 := by omega
                        simp only [bsize, g2, hz, Nat.zero_mul, Option.some.injEq] at e3
                        rw [e3] at g3
                        exact nil_of_len ((Nat.mul_eq_zero.1 (Nat.le_zero.1 g3)).resolve_right (by omega))
                    subst this
                    simp only [List.length_nil] at hl
                    refine Or.inl ⟨hl.symm, hr0, ho0, some ⟨b, off * elSize E t, none⟩, ?_⟩
                    rw [hr0, hcl, Nat.sub_self]
                  · refine Or.inr (Or.inr ⟨hr0, ho0, some ⟨b, off * elSize E t, none⟩, cap - l.toNat, ?_, fun e => by cases e⟩)
                    rw [hr0]
                · rw [if_neg hcl]
                  refine Or.inr (Or.inl ⟨b, cap - l.toNat, e1, ?_, ?_, by omega, by omega, e6⟩)
                  · simp only [Option.map_some, add_eq, Nat.add_mul]
                  · rw [e3]; congr 2; omega
              · cases e3
                have l0 : l = 0 := by omega
                have r0 : r = 0 := by omega
                subst l0; subst r0
                refine Or.inr (Or.inr ⟨rfl, by simpa using e2, _, _, rfl, fun hn => ?_⟩)
                have := e7 (by
                  split at hn
                  · exact hn
                  · cases ad with
                    | none => rfl
                    | some ad => simp at hn)
                omega
        · cases hs
      · cases hs
  · rename_i s
    split at hs
    · rename_i l r hl hr
      split at hs
      · rename_i hc
        simp only [Option.some.injEq] at hs
        subst hs
        have hu := (hT t i hi').string hc.2.2.2
        generalize hxv : a.eval x = xv at hx
        cases hx
        have hrun := run_bounds2 (P := P) h hm (b := false) (cap := s.size) hl hr hc.1 hc.2.1 hc.2.2.1 (Nat.le_refl _)
        refine OpRes.same h (run _ _ hu (fun _ _ hh => by cases hh) ?_) (VR.s _)
        rw [hxv]
        simp only [Instr.slice, Sem.run_bind, run_underlying hu, Result.andThen_ok, Option.map_none, Sem.run_pure]
        simp [hrun]
      · cases hs
    · cases hs
  · cases hs

end
end Go.Ex
/- maps, iterators. -/
set_option autoImplicit false
set_option linter.unusedVariables false
set_option linter.unusedSectionVars false
namespace Go.Ex
open Go.RowKit
section
variable {P : Program} {E : EP}
variable {Out : Nat → Prop} {N : Nat} {w0 : World} {g0 : List (Option Nat)} {H0 : List OB} {lam : Nat → Nat} {g : List (Option Nat)} {st : St} {a : Act} {w : World} {o : Oper}

theorem bytes_beq' (a b : ByteArray) : (a == b) = true ↔ a = b := MapKept.bytes_beq a b

/-- keys stand for themselves -/
theorem keyEq_spec {Mu : Nat → Prop} {H : List OB} {d : TypeDesc} {kk : Nat} {k x : AV} {kv xv : Value} {r : Bool} (hk : keyIs kk k = true) (hd5 : kk = 5 → ∃ j, d = .int j) (hd6 : kk = 6 → d = .bool) (hd7 : kk = 7 → d = .string) (hkv : VR Mu w H g k kv) (hxv : VR Mu w H g x xv) (h : keyEq k x = some r) :
    Instr.sameNow d kv xv = some r ∧ (r = true → x = k ∧ xv = kv) := by
  cases k <;> cases x <;> simp only [keyEq] at h <;> try (cases h; done)
  · have e := hd6 (Nat.eq_of_beq_eq_true hk)
    subst e
    cases hkv; cases hxv
    simp only [Option.some.injEq] at h
    subst h
    refine ⟨rfl, fun hr => ?_⟩
    simp only [beq_iff_eq] at hr
    subst hr; exact ⟨rfl, rfl⟩
  · obtain ⟨j, e⟩ := hd5 (Nat.eq_of_beq_eq_true hk)
    subst e
    cases hkv; cases hxv
    split at h
    · rename_i e2
      subst e2
      simp only [Option.some.injEq] at h
      subst h
      refine ⟨by simp [Instr.sameNow], fun hr => ?_⟩
      simp only [beq_iff_eq] at hr
      subst hr; exact ⟨rfl, rfl⟩
    · cases h
  · have e := hd7 (Nat.eq_of_beq_eq_true hk)
    subst e
    cases hkv; cases hxv
    simp only [Option.some.injEq] at h
    subst h
    refine ⟨rfl, fun hr => ?_⟩
    rw [bytes_beq'] at hr
    subst hr; exact ⟨rfl, rfl⟩

/-- entries of a map -/
def EsOK (R : AV → Value → Prop) (es : List (AV × AV)) (en : List MapEntry) : Prop :=
  en.length = es.length ∧ ∀ (i : Nat) (e : AV × AV) (m : MapEntry), es[i]? = some e → en[i]? = some m → R e.1 m.key ∧ R e.2 m.val

theorem EsOK.tail {R : AV → Value → Prop} {e : AV × AV} {es : List (AV × AV)} {m : MapEntry} {en : List MapEntry} (h : EsOK R (e :: es) (m :: en)) : R e.1 m.key ∧ R e.2 m.val ∧ EsOK R es en :=
  ⟨(h.2 0 e m rfl rfl).1, (h.2 0 e m rfl rfl).2, by have := h.1; simpa using this, fun i x y h1 h2 => h.2 (i + 1) x y (by simpa using h1) (by simpa using h2)⟩

section key
variable {Mu : Nat → Prop} {H : List OB} {d : TypeDesc} {kk : Nat} {k : AV} {kv : Value} (hk : keyIs kk k = true) (hd5 : kk = 5 → ∃ j, d = .int j) (hd6 : kk = 6 → d = .bool) (hd7 : kk = 7 → d = .string) (hkv : VR Mu w H g k kv)
include hk hd5 hd6 hd7 hkv

theorem find_ok : ∀ {es : List (AV × AV)} {en : List MapEntry} {i : Nat} {r : Option AV}, EsOK (VR Mu w H g) es en → mfind k es = some r →
    (r = none ∧ Instr.findNow d kv en i = some none) ∨ ∃ v j u, r = some v ∧ Instr.findNow d kv en i = some (some (j, u)) ∧ VR Mu w H g v u
  | [], [], i, r, _, h => by simp only [mfind, Option.some.injEq] at h; exact Or.inl ⟨h.symm, rfl⟩
  | [], _ :: _, _, _, he, _ => by have := he.1; simp at this
  | _ :: _, [], _, _, he, _ => by have := he.1; simp at this
  | (x, v) :: es, m :: en, i, r, he, h => by
    obtain ⟨h1, h2, h3⟩ := he.tail
    simp only [mfind] at h
    cases hq : keyEq k x with
    | none => simp [hq] at h
    | some b =>
      obtain ⟨h4, h5⟩ := keyEq_spec hk hd5 hd6 hd7 hkv h1 hq
      cases b with
      | true =>
        simp only [hq, Option.some.injEq] at h
        exact Or.inr ⟨v, i, m.val, h.symm, by simp [Instr.findNow, h4], h2⟩
      | false =>
        simp only [hq] at h
        rcases find_ok h3 (i := i + 1) h with ⟨a1, a2⟩ | ⟨v', j, u, a1, a2, a3⟩
        · exact Or.inl ⟨a1, by simp [Instr.findNow, h4, a2]⟩
        · exact Or.inr ⟨v', j, u, a1, by simp [Instr.findNow, h4, a2], a3⟩

theorem set_ok {v : AV} {u : Value} (hv : VR Mu w H g v u) : ∀ {es es' : List (AV × AV)} {en : List MapEntry} {i : Nat}, EsOK (VR Mu w H g) es en → mset k v es = some es' →
    (Instr.findNow d kv en i = some none ∧ es' = es ++ [(k, v)]) ∨ ∃ j m, Instr.findNow d kv en i = some (some (i + j, m.val)) ∧ en[j]? = some m ∧ m.key = kv ∧ ∃ x y, es[j]? = some (x, y) ∧ x = k ∧ es' = es.set j (k, v)
  | [], es', [], i, _, h => by simp only [mset, Option.some.injEq] at h; exact Or.inl ⟨rfl, h.symm⟩
  | [], _, _ :: _, _, he, _ => by have := he.1; simp at this
  | _ :: _, _, [], _, he, _ => by have := he.1; simp at this
  | (x, y) :: es, es', m :: en, i, he, h => by
    obtain ⟨h1, h2, h3⟩ := he.tail
    simp only [mset] at h
    cases hq : keyEq k x with
    | none => simp [hq] at h
    | some b =>
      obtain ⟨h4, h5⟩ := keyEq_spec hk hd5 hd6 hd7 hkv h1 hq
      cases b with
      | true =>
        simp only [hq, Option.some.injEq] at h
        obtain ⟨e1, e2⟩ := h5 rfl
        subst e1
        exact Or.inr ⟨0, m, by simp [Instr.findNow, h4], rfl, e2, x, y, rfl, rfl, h.symm⟩
      | false =>
        simp only [hq] at h
        cases hr : mset k v es with
        | none => simp [hr] at h
        | some es1 =>
          simp only [hr, Option.some.injEq] at h
          subst h
          rcases set_ok hv h3 (i := i + 1) hr with ⟨a1, a2⟩ | ⟨j, m', a1, a2, a3, x', y', a4, a5, a6⟩
          · exact Or.inl ⟨by simp [Instr.findNow, h4, a1], by rw [a2]; rfl⟩
          · refine Or.inr ⟨j + 1, m', ?_, by simpa using a2, a3, x', y', by simpa using a4, a5, by rw [a6]; rfl⟩
            simp only [Instr.findNow, h4, a1]
            congr 3; omega

theorem check_ok {P : Program} {kt : TypeId} (hd : P.underlying kt = some d) (e : Bool) : (Instr.checkKey e 10000 kt kv).run P w = .ok () w := by
  have : Instr.checkKey e 10000 kt kv = Instr.checkKey e (9999 + 1) kt kv := rfl
  rw [this]
  unfold Instr.checkKey
  simp only [Sem.run_bind, run_underlying hd, Result.andThen_ok]
  have hdd : (∃ j, d = .int j) ∨ d = .bool ∨ d = .string := by
    cases k <;> simp only [keyIs] at hk <;> try (cases hk; done)
    · exact Or.inr (Or.inl (hd6 (Nat.eq_of_beq_eq_true hk)))
    · exact Or.inl (hd5 (Nat.eq_of_beq_eq_true hk))
    · exact Or.inr (Or.inr (hd7 (Nat.eq_of_beq_eq_true hk)))
  rcases hdd with ⟨j, rfl⟩ | rfl | rfl <;> cases k <;> simp only [keyIs] at hk <;> try (cases hk; done)
  all_goals cases hkv; rfl

theorem key_lev : lev k = 0 := by
  cases k <;> simp only [keyIs] at hk <;> try (cases hk; done)
  all_goals rfl

theorem key_same : Instr.sameBits 10000 kv kv = true := by
  have : (10000 : Nat) = 9999 + 1 := rfl
  cases k <;> simp only [keyIs] at hk <;> try (cases hk; done)
  all_goals (cases hkv; rw [this]; simp [Instr.sameBits])
  exact (bytes_beq' _ _).2 rfl

end key

theorem map_keys (hT : ∀ t i, E.ti t = some i → TiOK P t i) {t : Nat} {i : TI} (hi : E.ti t = some i) (hk : i.kind = 4) {kk kt : Nat} {r : List (Nat × Nat)} (hf : i.flds = (kk, kt) :: r) {k : AV} (hki : keyIs kk k = true) :
    ∃ d, P.underlying t = some (.map kt i.el) ∧ P.underlying kt = some d ∧ (kk = 5 → ∃ j, d = .int j) ∧ (kk = 6 → d = .bool) ∧ (kk = 7 → d = .string) := by
  obtain ⟨kk', kt', hu, hf', h5, h6, h7⟩ := (hT t i hi).map hk
  rw [hf] at hf'
  simp only [List.cons.injEq, Prod.mk.injEq] at hf'
  obtain ⟨⟨rfl, rfl⟩, _⟩ := hf'
  cases k <;> simp only [keyIs] at hki <;> try (cases hki; done)
  · have e := Nat.eq_of_beq_eq_true hki
    exact ⟨.bool, hu, h6 e, by omega, fun _ => rfl, by omega⟩
  · have e := Nat.eq_of_beq_eq_true hki
    obtain ⟨j, hj⟩ := h5 e
    exact ⟨.int j, hu, hj, fun _ => ⟨j, rfl⟩, by omega, by omega⟩
  · have e := Nat.eq_of_beq_eq_true hki
    exact ⟨.string, hu, h7 e, by omega, by omega, fun _ => rfl⟩

theorem VR.tp2 {Mu : Nat → Prop} {H : List OB} {x y : AV} {u v : Value} (hx : VR Mu w H g x u) (hy : VR Mu w H g y v) : VR Mu w H g (.tp [x, y]) (.tuple #[u, v]) := by
  refine .tp [x, y] [u, v] rfl fun j z r h1 h2 => ?_
  cases j with
  | zero => simp at h1 h2; subst h1; subst h2; exact hx
  | succ j => cases j with
    | zero => simp at h1 h2; subst h1; subst h2; exact hy
    | succ j => simp at h1

theorem zero_one (hT : ∀ t i, E.ti t = some i → TiOK P t i) {t : Nat} {i : TI} (hi : E.ti t = some i) {x : AV} (hz : zeroV i = some x) {Mu : Nat → Prop} {H : List OB} : ∃ z, (zeroValue t).run P w = .ok z w ∧ VR Mu w H g x z := by
  obtain ⟨z, h1, h2, h3, h4⟩ := run_zero hT hi w
  refine ⟨z, h1, ?_⟩
  have agg : (i.kind = 1 ∨ i.kind = 2) → VR Mu w H g (.ag i.zero) z := fun hk => by
    obtain ⟨cs, rfl⟩ := h3 hk
    have hcs := h2.cs hT Mu w H g
    have e : cs = cs.toList.toArray := by simp
    rw [e]
    refine .ag i.zero cs.toList (by have := h2.1; simpa [Value.cells] using this.symm) (fun j x hx => (hcs j x hx).choose_spec.2.2) (fun j x v hx hv => ?_)
    obtain ⟨u, k1, k2, k3⟩ := hcs j x hx
    have k1' : cs[j]? = some u := k1
    have hv' : cs[j]? = some v := by simpa using hv
    rw [k1'] at hv'; cases hv'; exact k2
  unfold zeroV at hz
  split at hz
  · rename_i hk; simp only [Option.some.injEq] at hz; subst hz; exact agg (Or.inl hk)
  · rename_i hk; simp only [Option.some.injEq] at hz; subst hz; exact agg (Or.inr hk)
  · rename_i hk1 hk2
    rw [nth_eq] at hz
    obtain ⟨v, n, k1, k2, k3⟩ := h2.2 0 x hz
    have k1' : z.cells[0]? = some v := k1
    rw [h4 hk1 hk2] at k1'
    simp at k1'
    subst k1'
    exact ofConst_VR k2

/-- the entries of a map, concretely -/
theorem entries_ok (h : FR Out N w0 g0 H0 lam g st a w) {y : AV} {v : Value} (hx : VR (MuOf Out lam st.locs g) w st.heap g y v) {es : List (AV × AV)} (he : entries st y = some es) :
    (v = .map none ∧ es = []) ∨ ∃ b en clock, v = .map (some b) ∧ w.heap[b]? = some (.map en clock) ∧ EsOK (VR (MuOf Out lam st.locs g) w st.heap g) es en.toList := by
  unfold entries at he
  split at he
  · simp only [Option.some.injEq] at he
    subst he
    cases hx with
    | im0 => exact Or.inl ⟨rfl, rfl⟩
    | im _ b en clock k v hb hm hl he hk hv =>
      refine Or.inr ⟨b, en, clock, rfl, hb, by simpa using hl, fun i e m h1 h2 => ?_⟩
      obtain ⟨e1, e2⟩ := he i e m h1 (by simpa using h2)
      exact ⟨by rw [e1]; exact (hk i e h1).lift _ _, by rw [e2]; exact (hv i e h1).lift _ _⟩
  · rename_i o'
    split at he
    · rename_i es' lvl hob
      simp only [Option.some.injEq] at he
      subst he
      cases hx with
      | mp _ b es2 lvl2 hob2 hg =>
        obtain ⟨_, b', en, clock, h1, h2, h3, h4⟩ := h.heap.obj o' _ hob
        rw [hg] at h1; cases h1
        exact Or.inr ⟨b, en, clock, rfl, h2, by simpa using h3, fun i e m a1 a2 => h4 i e m a1 (by simpa using a2)⟩
    · cases he
  · cases he

theorem op_lookup (hT : ∀ t i, E.ti t = some i → TiOK P t i) (h : FR Out N w0 g0 H0 lam g st a w) {t : Nat} {x ix : Operand} {ok : Bool} (ho : o.op = .lookup t x ix ok) {i e : TI} (hi : E.ti t = some i) (hk4 : i.kind = 4) (hel : E.ti i.el = some e) {kk kt : Nat} {fr : List (Nat × Nat)} (hf : i.flds = (kk, kt) :: fr)
    {m k v : AV} {b : Bool} {es : List (AV × AV)} (hki : keyIs kk k = true) (hx : VR (MuOf Out lam st.locs g) w st.heap g m (a.eval x)) (hix : VR (MuOf Out lam st.locs g) w st.heap g k (a.eval ix)) (hes : entries st m = some es) (hl : lookAV e k es = some (v, b)) :
    OpRes P Out N w0 g0 H0 st a w o (.v (match ok with | true => .tp [v, .b b] | false => v)) st := by
  obtain ⟨d, hu, hud, h5, h6, h7⟩ := map_keys hT hi hk4 hf hki
  have main : ∀ en : List MapEntry, EsOK (VR (MuOf Out lam st.locs g) w st.heap g) es en → ∃ r u, (Instr.findKey kt (a.eval ix) en).run P w = .ok r w ∧ (match r with | some (_, v) => pure (v, true) | none => do pure (← zeroValue i.el, false) : Sem (Value × Bool)).run P w = .ok (u, b) w ∧ VR (MuOf Out lam st.locs g) w st.heap g v u := by
    intro en hen
    unfold lookAV at hl
    cases hq : mfind k es with
    | none => simp [hq] at hl
    | some r =>
      rcases find_ok hki h5 h6 h7 hix (i := 0) hen hq with ⟨rfl, a2⟩ | ⟨v', j, u, rfl, a2, a3⟩
      · simp only [hq] at hl
        cases hz : zeroV e with
        | none => simp [hz] at hl
        | some z =>
          simp only [hz, Option.some.injEq, Prod.mk.injEq] at hl
          obtain ⟨rfl, rfl⟩ := hl
          obtain ⟨zv, z1, z2⟩ := zero_one (w := w) (g := g) (Mu := MuOf Out lam st.locs g) (H := st.heap) hT hel hz
          exact ⟨none, zv, MapKept.run_findKey hud a2, by simp [z1], z2⟩
      · simp only [hq, Option.some.injEq, Prod.mk.injEq] at hl
        obtain ⟨rfl, rfl⟩ := hl
        exact ⟨some (j, u), u, MapKept.run_findKey hud a2, by simp, a3⟩
  have hck : ∀ eb, (Instr.checkKey eb 10000 kt (a.eval ix)).run P w = .ok () w := fun eb => check_ok hki h5 h6 h7 hix hud eb
  have fin : ∀ u, (Instr.lookup t (a.eval x) (a.eval ix) ok).run P w = .ok (if ok then .tuple #[u, .bool b] else u) w → VR (MuOf Out lam st.locs g) w st.heap g v u → OpRes P Out N w0 g0 H0 st a w o (.v (match ok with | true => .tp [v, .b b] | false => v)) st := by
    intro u hr k3
    refine OpRes.same h (v := if ok then .tuple #[u, .bool b] else u) ?_ ?_
    · unfold execOp
      simp only [ho, Sem.run_bind, hr, Result.andThen_ok, Sem.run_pure]
    · cases ok with
      | true => exact VR.tp2 k3 (VR.b _)
      | false => exact k3
  rcases entries_ok h hx hes with ⟨hv, rfl⟩ | ⟨b', en, clock, hv, hb, hen⟩
  · obtain ⟨r, u, k1, k2, k3⟩ := main (#[] : Array MapEntry).toList ⟨rfl, fun i e m h1 => by simp at h1⟩
    refine fin u ?_ k3
    unfold Instr.lookup
    simp only [hv, Sem.run_bind, run_underlying hu, Result.andThen_ok, Sem.run_pure, hck, k1]
    cases r with
    | none =>
      simp only [Sem.run_bind, Sem.run_pure] at k2 ⊢
      cases hz : (zeroValue i.el).run P w with
      | halt _ _ => simp [hz, Result.andThen] at k2
      | ok z w2 => simp only [hz, Result.andThen_ok, Result.ok.injEq, Prod.mk.injEq] at k2 ⊢; obtain ⟨⟨rfl, rfl⟩, rfl⟩ := k2; exact ⟨rfl, rfl⟩
    | some p => simp at k2 ⊢; obtain ⟨rfl, rfl⟩ := k2; rfl
  · obtain ⟨r, u, k1, k2, k3⟩ := main en.toList hen
    refine fin u ?_ k3
    unfold Instr.lookup
    simp only [hv, Sem.run_bind, run_underlying hu, Result.andThen_ok, Sem.run_pure, MapKept.run_getObj_map hb, hck, k1]
    cases r with
    | none =>
      simp only [Sem.run_bind, Sem.run_pure] at k2 ⊢
      cases hz : (zeroValue i.el).run P w with
      | halt _ _ => simp [hz, Result.andThen] at k2
      | ok z w2 => simp only [hz, Result.andThen_ok, Result.ok.injEq, Prod.mk.injEq] at k2 ⊢; obtain ⟨⟨rfl, rfl⟩, rfl⟩ := k2; exact ⟨rfl, rfl⟩
    | some p => simp at k2 ⊢; obtain ⟨rfl, rfl⟩ := k2; rfl

end
end Go.Ex
/- map updates, iterators. -/
set_option autoImplicit false
set_option linter.unusedVariables false
set_option linter.unusedSectionVars false
namespace Go.Ex
open Go.RowKit
section
variable {P : Program} {E : EP}
variable {Out : Nat → Prop} {N : Nat} {w0 : World} {g0 : List (Option Nat)} {H0 : List OB} {lam : Nat → Nat} {g : List (Option Nat)} {st : St} {a : Act} {w : World} {o : Oper}

theorem vr_unit {Mu : Nat → Prop} {H : List OB} : VR Mu w H g (.tp []) (.tuple #[]) := .tp [] [] rfl fun j x v h => by simp at h

theorem op_mapUpdate (hT : ∀ t i, E.ti t = some i → TiOK P t i) (h : FR Out N w0 g0 H0 lam g st a w) {t : Nat} {m k x : Operand} (ho : o.op = .mapUpdate t m k x) {i : TI} (hi : E.ti t = some i) (hk4 : i.kind = 4) {kk kt : Nat} {fr : List (Nat × Nat)} (hf : i.flds = (kk, kt) :: fr) {o' lvl : Nat}
    {ka v : AV} {es es' : List (AV × AV)} (hki : keyIs kk ka = true) (hm : VR (MuOf Out lam st.locs g) w st.heap g (.mp o') (a.eval m)) (hka : VR (MuOf Out lam st.locs g) w st.heap g ka (a.eval k)) (hv : VR (MuOf Out lam st.locs g) w st.heap g v (a.eval x)) (hob : st.heap[o']? = some (.map es lvl)) (hset : mset ka v es = some es') :
    OpRes P Out N w0 g0 H0 st a w o (.v (.tp [])) { st with heap := st.heap.set o' (.map es' (Nat.max lvl (lev v))) } := by
  obtain ⟨d, hu, hud, h5, h6, h7⟩ := map_keys hT hi hk4 hf hki
  generalize hmv : a.eval m = mv at hm
  cases hm with
  | mp _ b es2 lvl2 hob2 hgb =>
    obtain ⟨hlev, b', en, clock, g1, hb, hen1, hen2⟩ := h.heap.obj o' _ hob
    rw [hgb] at g1; cases g1
    have hen : EsOK (VR (MuOf Out lam st.locs g) w st.heap g) es en.toList := ⟨by simpa using hen1, fun i e m a1 a2 => hen2 i e m a1 (by simpa using a2)⟩
    have hck : (Instr.checkKey false 10000 kt (a.eval k)).run P w = .ok () w := check_ok hki h5 h6 h7 hka hud false
    have hblt : b < w.heap.size := h.heap.lt o' b hgb
    -- what the map becomes
    have key : ∃ (en' : Array MapEntry) (clock' : Nat), (Instr.mapUpdate t (.map (some b)) (a.eval k) (a.eval x)).run P w = .ok () { w with heap := w.heap.setIfInBounds b (.map en' clock') } ∧ en'.size = es'.length ∧ (∀ (i : Nat) (e : AV × AV), es'[i]? = some e → lev e.1 = 0 ∧ lev e.2 ≤ Nat.max lvl (lev v)) ∧
        ∀ (i : Nat) (e : AV × AV) (m : MapEntry), es'[i]? = some e → en'[i]? = some m → VR (MuOf Out lam st.locs g) w st.heap g e.1 m.key ∧ VR (MuOf Out lam st.locs g) w st.heap g e.2 m.val := by
      have hlev' : ∀ e ∈ es, lev e.1 = 0 ∧ lev e.2 ≤ Nat.max lvl (lev v) := fun e he => by
        obtain ⟨j, hj⟩ := List.mem_iff_getElem?.1 he
        exact ⟨(hlev j e hj).1, Nat.le_trans (hlev j e hj).2 (Nat.le_max_left _ _)⟩
      rcases set_ok hki h5 h6 h7 hka hv (i := 0) hen hset with ⟨a1, rfl⟩ | ⟨j, me, a1, a2, a3, x', y', a4, a5, rfl⟩
      · refine ⟨en.push { key := a.eval k, val := a.eval x, born := clock }, clock + 1, ?_, by simp [hen1], fun i e he => ?_, fun i e m he hm => ?_⟩
        · unfold Instr.mapUpdate
          simp only [Sem.run_bind, run_underlying hu, Result.andThen_ok, MapKept.run_getObj_map hb, hck, MapKept.run_findKey hud a1, MapKept.run_setObj_map _ hb]
        · rcases List.mem_append.1 (List.mem_of_getElem? he) with he | he
          · exact hlev' e he
          · simp at he; subst he; exact ⟨key_lev hki h5 h6 h7 hka, Nat.le_max_right _ _⟩
        · rcases getElem?_append_one he with ⟨hlt, he2⟩ | ⟨e1, e2⟩
          · have : en[i]? = some m := by rw [Array.getElem?_push] at hm; rw [if_neg (by omega)] at hm; exact hm
            exact hen2 i e m he2 this
          · subst e1; subst e2
            rw [Array.getElem?_push, if_pos hen1.symm] at hm
            cases hm; exact ⟨hka, hv⟩
      · have hj : j < en.size := by have := lt_of_get a2; simpa using this
        have hkey : (en[j]?.map (·.key)).getD (a.eval k) = a.eval k := by
          have : en[j]? = some me := by simpa using a2
          rw [this]; simp [a3]
        have hks : (Instr.keyThatStays (a.eval k) (a.eval k)).run P w = .ok (a.eval k) w := by
          unfold Instr.keyThatStays
          rw [if_pos (key_same hki h5 h6 h7 hka)]; simp
        refine ⟨en.modify j fun e => { e with key := a.eval k, val := a.eval x }, clock, ?_, by simp [hen1], fun i e he => ?_, fun i e m he hm => ?_⟩
        · unfold Instr.mapUpdate
          simp only [Nat.zero_add] at a1
          simp only [Sem.run_bind, run_underlying hu, Result.andThen_ok, MapKept.run_getObj_map hb, hck, MapKept.run_findKey hud a1, hkey, hks, MapKept.run_setObj_map _ hb]
        · rcases getElem?_set_cases he with ⟨_, rfl, _⟩ | ⟨_, he⟩
          · exact ⟨key_lev hki h5 h6 h7 hka, Nat.le_max_right _ _⟩
          · exact hlev' e (List.mem_of_getElem? he)
        · rw [Array.getElem?_modify] at hm
          rcases getElem?_set_cases he with ⟨rfl, rfl, _⟩ | ⟨hne, he⟩
          · rw [if_pos rfl] at hm
            have : en[j]? = some me := by simpa using a2
            rw [this] at hm
            simp at hm; subst hm
            exact ⟨hka, hv⟩
          · rw [if_neg hne] at hm
            exact hen2 i e m he hm
    obtain ⟨en', clock', hrun, k1, k2, k3⟩ := key
    have hget : ({ w with heap := w.heap.setIfInBounds b (.map en' clock') } : World).heap[b]? = some (.map en' clock') := by simp [hblt]
    obtain ⟨F1, F2⟩ := h.setOb (w' := { w with heap := w.heap.setIfInBounds b (.map en' clock') }) (ob' := .map es' (Nat.max lvl (lev v))) hob hgb rfl rfl rfl (by simp) (fun b' hne => by simp [Ne.symm hne]) rfl (fun hr => ⟨k2, b, en', clock', hgb, hget, k1, fun i e m a1 a2 => ⟨hr _ _ (k3 i e m a1 a2).1, hr _ _ (k3 i e m a1 a2).2⟩⟩)
    refine ⟨.skip, undef, _, lam, g, ?_, Or.inr ⟨rfl, rfl⟩, ?_, F1, fun _ h => h, fun _ h => h⟩
    · unfold execOp
      simp only [ho, hmv, Sem.run_bind, hrun, Result.andThen_ok, Sem.run_pure]
    · exact vr_unit

theorem op_next (h : FR Out N w0 g0 H0 lam g st a w) {x : Operand} (ho : o.op = .next x true) {o' : Nat} {s : ByteArray} {pos : Nat} (hx : VR (MuOf Out lam st.locs g) w st.heap g (.it o') (a.eval x)) (hob : st.heap[o']? = some (.sit s pos)) :
    (pos < s.size → OpRes P Out N w0 g0 H0 st a w o (.v (.tp [.b true, .i .i64 pos, .i .i32 (Utf8.decode s pos).1])) { st with heap := st.heap.set o' (.sit s (pos + (Utf8.decode s pos).2)) }) ∧ (¬ pos < s.size → OpRes P Out N w0 g0 H0 st a w o (.v (.tp [.b false])) st) := by
  generalize hxv : a.eval x = xv at hx
  cases hx with
  | it _ b s2 pos2 hob2 hgb =>
    obtain ⟨b', g1, hb⟩ := h.heap.obj o' _ hob
    rw [hgb] at g1; cases g1
    have hblt : b < w.heap.size := h.heap.lt o' b hgb
    have hgo : (getObj b).run P w = .ok (.stringIter s pos) w := by simp [getObj, Sem.run, hb]
    have hso : ∀ ob, (setObj b ob).run P w = .ok () { w with heap := w.heap.setIfInBounds b ob } := fun ob => by simp [setObj, Sem.run, hb]
    constructor
    · intro hlt
      have hget : ({ w with heap := w.heap.setIfInBounds b (.stringIter s (pos + (Utf8.decode s pos).2)) } : World).heap[b]? = some (.stringIter s (pos + (Utf8.decode s pos).2)) := by simp [hblt]
      obtain ⟨F1, F2⟩ := h.setOb (w' := { w with heap := w.heap.setIfInBounds b (.stringIter s (pos + (Utf8.decode s pos).2)) }) (ob' := .sit s (pos + (Utf8.decode s pos).2)) hob hgb rfl rfl rfl (by simp) (fun b' hne => by simp [Ne.symm hne]) rfl (fun hr => ⟨b, hgb, hget⟩)
      refine ⟨_, .tuple #[.bool true, goInt pos, .int .i32 (Utf8.decode s pos).1], _, lam, g, ?_, Or.inl rfl, ?_, F1, fun _ h => h, fun _ h => h⟩
      · unfold execOp
        simp only [ho, hxv, Instr.next, Sem.run_bind, hgo, Result.andThen_ok, if_pos hlt, hso, Sem.run_pure]
      · refine .tp [.b true, .i .i64 pos, .i .i32 (Utf8.decode s pos).1] [.bool true, goInt pos, .int .i32 (Utf8.decode s pos).1] rfl fun j z r h1 h2 => ?_
        match j with
        | 0 => simp at h1 h2; subst h1; subst h2; exact .b _
        | 1 => simp at h1 h2; subst h1; subst h2; exact .i _ _
        | 2 => simp at h1 h2; subst h1; subst h2; exact .i _ _
        | j + 3 => simp at h1
    · intro hlt
      refine OpRes.same h (v := .tuple #[.bool false]) ?_ ?_
      · unfold execOp
        simp only [ho, hxv, Instr.next, Sem.run_bind, hgo, Result.andThen_ok, if_neg hlt, Sem.run_pure]
      · refine .tp [.b false] [.bool false] rfl fun j z r h1 h2 => ?_
        match j with
        | 0 => simp at h1 h2; subst h1; subst h2; exact .b _
        | j + 1 => simp at h1

end
end Go.Ex
/- One operation. -/
set_option autoImplicit false
set_option linter.unusedVariables false
set_option linter.unusedSectionVars false
namespace Go.Ex
open Go.RowKit

theorem blt_pos {n : Nat} (h : Nat.blt 0 n = true) : 0 < n := by unfold Nat.blt at h; rw [Nat.ble_eq] at h; exact h

theorem free_some {α : Type} {p q r : Bool} {x : α} {y : Option α} (h : (bif p || q || r then none else some x) = y) : ∀ {z : α}, y = some z → p = false ∧ q = false ∧ r = false ∧ some x = y := by
  intro z hz
  cases p <;> cases q <;> cases r <;> simp at h <;> subst h <;> first | exact ⟨rfl, rfl, rfl, rfl⟩ | cases hz

section
variable {P : Program} {E : EP} (hT : ∀ t i, E.ti t = some i → TiOK P t i)
variable {Out : Nat → Prop} {N : Nat} {w0 : World} {g0 : List (Option Nat)} {H0 : List OB} {lam : Nat → Nat} {g : List (Option Nat)} {st st' : St} {a : Act} {w : World} {o : Oper} {x : TV} {cfg : Cfg}
variable (h : FR Out N w0 g0 H0 lam g st a w) {gd : Gd} (hm : Met a gd) (hs : stepOp E cfg gd o st = some (x, st'))

theorem kindIs_some {t k : Nat} (h : kindIs E t k = true) : ∃ i, E.ti t = some i ∧ i.kind = k := by
  unfold kindIs at h
  split at h
  · rename_i i hi; exact ⟨i, hi, Nat.eq_of_beq_eq_true h⟩
  · cases h

include h hm hs

theorem step_move {y : Operand} (hop : o.op = .move y) : OpRes P Out N w0 g0 H0 st a w o x st' := by
  simp only [stepOp, hop] at hs
  split at hs
  · rename_i v hv
    cases hs
    exact op_move h hm (Or.inl hop) hv
  · cases hs

theorem step_assign {y : Operand} (hop : o.op = .assign y) : OpRes P Out N w0 g0 H0 st a w o x st' := by
  simp only [stepOp, hop] at hs
  have gen : (match getP E o.type gd st y with | some v => some (v, st) | none => none) = some (x, st') → OpRes P Out N w0 g0 H0 st a w o x st' := by
    intro hs
    split at hs
    · rename_i v hv
      cases hs
      exact op_move h hm (Or.inr hop) hv
    · cases hs
  split at hs
  · rename_i d hd
    cases hb : elemN cfg.own d with
    | false => rw [hb] at hs; exact gen hs
    | true =>
      rw [hb] at hs
      simp only [cond_true] at hs
      split at hs
      · cases hs
        exact op_ownNil h _ hop
      · exact gen hs
  · cases hs

include hT

theorem step_alloc {e : Nat} (hop : o.op = .alloc e) : OpRes P Out N w0 g0 H0 st a w o x st' := by
  simp only [stepOp, hop] at hs
  split at hs
  · rename_i i hi
    obtain ⟨z, hr, hz⟩ := alloc_run (P := P) (a := a) (w := w) hT hi hop
    have hlen := zero_len hT hi
    split at hs
    · rename_i d hd
      cases hb : elemN cfg.loc d with
      | false =>
        rw [hb] at hs
        simp only [cond_false] at hs
        obtain ⟨hp, hs⟩ := bif_some hs
        cases hs
        have hpos := blt_pos hp
        have := new_box (lvl := lev.levs i.zero) h e hz.1 (by omega) (Nat.le_refl _) (hz.cs hT _ _ _ _) hr
        rwa [hlen] at this
      | true =>
        rw [hb] at hs
        simp only [cond_true] at hs
        obtain ⟨q1, q2, q3, hs⟩ := free_some hs rfl
        cases hs
        have := new_loc h d e hz.1 (hz.cs hT _ _ _ _) hr
        rwa [dropP_none q1, dropG_none q2] at this
    · cases hs
  · cases hs

omit hT in
theorem step_box {e : Nat} {y : Operand} (hop : o.op = .box e y) : OpRes P Out N w0 g0 H0 st a w o x st' := by
  simp only [stepOp, hop] at hs
  split at hs
  · rename_i v hv
    obtain ⟨hp, hs⟩ := bif_some hs
    have hpos := blt_pos hp
    have hr := box_run (P := P) (a := a) (w := w) hop
    obtain ⟨c1, c2⟩ := (h.getA hm hv).cells hpos
    split at hs
    · rename_i d hd
      cases hb : elemN cfg.loc d with
      | false =>
        rw [hb] at hs
        cases hs
        exact new_box h e c1 hpos (levs_cellsOf v) c2 hr
      | true =>
        rw [hb] at hs
        simp only [cond_true] at hs
        obtain ⟨q1, q2, q3, hs⟩ := free_some hs rfl
        cases hs
        have := new_loc h d e c1 c2 hr
        rwa [dropP_none q1, dropG_none q2] at this
    · cases hs
  · cases hs

theorem step_build {t : Nat} {ps : Array (Nat × Operand)} (hop : o.op = .build t ps) : OpRes P Out N w0 g0 H0 st a w o x st' := by
  simp only [stepOp, hop] at hs
  split at hs
  · rename_i i hi
    split at hs
    · rename_i hk
      split at hs
      · rename_i vs hv
        split at hs
        · rename_i cs hf
          cases hs
          exact op_buildStruct hT h hop hi hk (h.getParts hm hv) hf
        · cases hs
      · cases hs
    · rename_i hk
      split at hs
      · rename_i vs hv
        obtain ⟨hp, hs⟩ := bif_some hs
        split at hs
        · rename_i cs hf
          cases hs
          exact op_buildArr hT h hop hi hk (blt_pos hp) (h.getParts hm hv) hf
        · cases hs
      · cases hs
    · cases hs
  · cases hs

theorem step_buildSlice {t len : Nat} {ps : Array (Nat × Operand)} (hop : o.op = .buildSlice t len ps) : OpRes P Out N w0 g0 H0 st a w o x st' := by
  simp only [stepOp, hop] at hs
  split at hs
  · rename_i i hi
    split at hs
    · rename_i vs hv
      split at hs
      · rename_i rows hr
        obtain ⟨hp, hs⟩ := bif_some hs
        simp only [Bool.and_eq_true] at hp
        obtain ⟨⟨⟨b1, b2⟩, b3⟩, b4⟩ := hp
        have hk : i.kind = 3 := Nat.eq_of_beq_eq_true b4
        have hpos := blt_pos b3
        obtain ⟨e, he, hes⟩ := elSize_some hi hpos
        rw [← hes] at hr b2 hpos hs
        rw [Nat.ble_eq] at b2
        have hlen : rows.length = len := Nat.eq_of_beq_eq_true b1
        split at hs
        · rename_i d hd
          cases hb : elemN cfg.own d with
          | true =>
            rw [hb] at hs
            cases hs
            exact op_buildSliceOwn hT h hop hi hk he hpos (h.getParts hm hv) hr hlen b2
          | false =>
            rw [hb] at hs
            simp only [cond_false] at hs
            obtain ⟨hl, hs⟩ := bif_some hs
            rw [Nat.ble_eq] at hl
            cases hs
            exact op_buildSliceImm hT h hop hi hk he hpos (h.getParts hm hv) hr hlen b2 hl
        · cases hs
      · cases hs
    · cases hs
  · cases hs

theorem step_load {t : Nat} {y : Operand} (hop : o.op = .load t y) : OpRes P Out N w0 g0 H0 st a w o x st' := by
  simp only [stepOp, hop] at hs
  split at hs
  · rename_i p hp
    split at hs
    · split at hs
      · rename_i v hv
        cases hs
        obtain ⟨u, h1, h2⟩ := load_ok hT h (h.getP hm hp) hv
        refine OpRes.same h (v := u) ?_ h2
        unfold execOp
        simp only [hop, Sem.run_bind, h1, Result.andThen_ok, Sem.run_pure]
      · cases hs
    · cases hs
  · cases hs

theorem step_store {t : Nat} {y z : Operand} (hop : o.op = .store t y z) : OpRes P Out N w0 g0 H0 st a w o x st' := by
  simp only [stepOp, hop] at hs
  split at hs
  · rename_i p hp
    cases hso : storeOk cfg y p with
    | false => rw [hso] at hs; cases hs
    | true =>
    simp only [hso] at hs
    split at hs
    · rename_i v hv
      split at hs
      · rename_i st1 hst
        cases hs
        obtain ⟨w', h1, h2, h3, h4⟩ := store_ok hT h (h.getP hm hp) (h.getA hm hv) hst
        refine ⟨.skip, undef, w', lam, g, ?_, Or.inr ⟨rfl, rfl⟩, vr_unit, h2, fun e he => by rw [h4] at he; exact he, fun e he => by rw [h3] at he; exact he⟩
        unfold execOp
        simp only [hop, Sem.run_bind, h1, Result.andThen_ok, Sem.run_pure]
      · cases hs
    · cases hs
  · cases hs

omit hT in
theorem step_nilCheck {y : Operand} (hop : o.op = .nilCheck y) : OpRes P Out N w0 g0 H0 st a w o x st' := by
  simp only [stepOp, hop] at hs
  split at hs
  · rename_i hp; cases hs; exact op_nilCheck h hop (h.getP hm hp) (Or.inl ⟨_, _, rfl⟩)
  · rename_i hp; cases hs; exact op_nilCheck h hop (h.getP hm hp) (Or.inr (Or.inl ⟨_, _, _, _, _, rfl⟩))
  · rename_i hp; cases hs; exact op_nilCheck h hop (h.getP hm hp) (Or.inr (Or.inr (Or.inl ⟨_, _, rfl⟩)))
  · rename_i hp; cases hs; exact op_nilCheck h hop (h.getP hm hp) (Or.inr (Or.inr (Or.inr ⟨_, _, rfl⟩)))
  · cases hs

theorem step_binOp {op : BinOp} {t ty : Nat} {y z : Operand} (hop : o.op = .binOp op t y z ty) : OpRes P Out N w0 g0 H0 st a w o x st' := by
  simp only [stepOp, hop] at hs
  split at hs
  · rename_i u hu
    split at hs
    · rename_i v hv
      split at hs
      · rename_i r hr
        cases hs
        exact op_binOp hT h hop (h.getA hm hu) (h.getA hm hv) hr
      · cases hs
    · cases hs
  · cases hs

omit hT in
theorem step_unOp {op : UnOp} {t : Nat} {y : Operand} (hop : o.op = .unOp op t y) : OpRes P Out N w0 g0 H0 st a w o x st' := by
  simp only [stepOp, hop] at hs
  split at hs
  · rename_i u hu
    split at hs
    · rename_i r hr
      cases hs
      exact op_unOp h hop (h.getA hm hu) hr
    · cases hs
  · cases hs

theorem step_convert {s d : Nat} {y : Operand} (hop : o.op = .convert s d y) : OpRes P Out N w0 g0 H0 st a w o x st' := by
  simp only [stepOp, hop] at hs
  split at hs
  · rename_i k n hu
    split at hs
    · rename_i i hi
      obtain ⟨hb, hs⟩ := bif_some hs
      simp only [Bool.and_eq_true] at hb
      obtain ⟨j, hj, hjk⟩ := kindIs_some hb.2
      cases hs
      exact op_convert hT h hop hi (Nat.eq_of_beq_eq_true hb.1) hj hjk (h.getA hm hu)
    · cases hs
  · cases hs

omit hT in
theorem step_makeFunc {fn : Fn} {first cap : Array Operand} (hop : o.op = .makeFunc fn first cap) : OpRes P Out N w0 g0 H0 st a w o x st' := by
  simp only [stepOp, hop] at hs
  split at hs
  · rename_i f hf
    split at hs
    · rename_i vs hv
      cases hs
      exact op_makeFunc h hop hf (h.getAs hm hv)
    · cases hs
  · cases hs

omit hT in
theorem step_makeMap {t : Nat} {r : Option Operand} (hop : o.op = .makeMap t r) : OpRes P Out N w0 g0 H0 st a w o x st' := by
  simp only [stepOp, hop] at hs
  split at hs
  · cases hs
    exact op_makeMap h hop
  · cases hs

theorem step_makeSlice {t : Nat} {y z : Operand} (hop : o.op = .makeSlice t y z) : OpRes P Out N w0 g0 H0 st a w o x st' := by
  simp only [stepOp, hop] at hs
  split at hs
  · rename_i k n hn
    split at hs
    · rename_i k' m hm'
      split at hs
      · rename_i i hi
        split at hs
        · rename_i e he
          split at hs
          · split at hs
            · rename_i hc
              obtain ⟨c1, c2, c3, rfl, c5, c6⟩ := hc
              split at hs
              · rename_i d hd
                cases hb : elemN cfg.imm d with
                | true =>
                  rw [hb] at hs
                  cases hs
                  exact op_makeSliceImm hT h hop hi c6 he c5 (h.getA hm hn) (h.getA hm hm') c1 c2 c3
                | false =>
                  rw [hb] at hs
                  cases hs
                  exact op_makeSliceOwn hT h hop hi c6 he c5 (h.getA hm hn) (h.getA hm hm') c1 c2 c3
              · cases hs
            · cases hs
          · cases hs
        · cases hs
      · cases hs
    · cases hs
  · cases hs

theorem step_slice {t : Nat} {y : Operand} {lo hi mx : Option Operand} (hop : o.op = .slice t y lo hi mx) : OpRes P Out N w0 g0 H0 st a w o x st' := by
  simp only [stepOp, hop] at hs
  split at hs
  · rename_i v hv
    split at hs
    · rename_i i hi
      split at hs
      · rename_i u hu
        cases hs
        exact op_slice hT h hm hop hi (h.getA hm hv) hu
      · cases hs
    · cases hs
  · cases hs

theorem step_fieldAddr {t f : Nat} {y : Operand} (hop : o.op = .fieldAddr t y f) : OpRes P Out N w0 g0 H0 st a w o x st' := by
  simp only [stepOp, hop] at hs
  split at hs
  · rename_i p hp
    split at hs
    · rename_i i hi
      split at hs
      · rename_i off ft hf
        rw [nth_eq] at hf
        obtain ⟨hb, hs⟩ := bif_some hs
        simp only [Bool.and_eq_true] at hb
        split at hs
        · rename_i q hq
          cases hs
          exact op_fieldAddr hT h hop hi (Nat.eq_of_beq_eq_true hb.2) hf (blt_pos hb.1) (h.getP hm hp) hq
        · cases hs
      · cases hs
    · cases hs
  · cases hs

theorem step_field {t f : Nat} {y : Operand} (hop : o.op = .field t y f) : OpRes P Out N w0 g0 H0 st a w o x st' := by
  simp only [stepOp, hop] at hs
  split at hs
  · rename_i cs hc
    split at hs
    · rename_i i hi
      split at hs
      · rename_i off ft hf
        rw [nth_eq] at hf
        obtain ⟨hb, hs⟩ := bif_some hs
        split at hs
        · rename_i v hv
          cases hs
          exact op_field hT h hop hi (Nat.eq_of_beq_eq_true hb) hf (h.getA hm hc) hv
        · cases hs
      · cases hs
    · cases hs
  · cases hs

theorem step_indexAddr {t : Nat} {y z : Operand} (hop : o.op = .indexAddr t y z) : OpRes P Out N w0 g0 H0 st a w o x st' := by
  simp only [stepOp, hop] at hs
  split at hs
  · rename_i i hi
    split at hs
    · rename_i hk
      split at hs
      · rename_i v hv
        split at hs
        · rename_i k n hn
          obtain ⟨hb, hs⟩ := bif_some hs
          split at hs
          · rename_i p hp
            cases hs
            exact op_indexAddr hT h hop hi hk (blt_pos hb) (h.getA hm hv) (h.getA hm hn) hp
          · cases hs
        · cases hs
      · cases hs
    · rename_i hk
      split at hs
      · rename_i p hp
        split at hs
        · rename_i k n hn
          split at hs
          · rename_i hc
            split at hs
            · rename_i q hq
              cases hs
              exact op_indexAddrArr hT h hop hi hk (h.getP hm hp) (h.getA hm hn) ⟨hc.1, hc.2.1⟩ hq hc.2.2
            · cases hs
          · cases hs
        · cases hs
      · cases hs
    · cases hs
  · cases hs

theorem step_index {t : Nat} {y z : Operand} (hop : o.op = .index t y z) : OpRes P Out N w0 g0 H0 st a w o x st' := by
  simp only [stepOp, hop] at hs
  split at hs
  · rename_i s hv
    split at hs
    · rename_i k n hn
      split at hs
      · rename_i hc
        obtain ⟨i, hi, hik⟩ := kindIs_some hc.2
        split at hs
        · rename_i c hcc
          cases hs
          exact op_indexStr hT h hop hi hik (h.getA hm hv) (h.getA hm hn) hc.1 hcc
        · cases hs
      · cases hs
    · cases hs
  · rename_i cs hv
    split at hs
    · rename_i k n hn
      split at hs
      · rename_i i hi
        split at hs
        · rename_i hc
          split at hs
          · rename_i v hp
            cases hs
            exact op_indexArr hT h hop hi hc.2.2.2 (h.getA hm hv) (h.getA hm hn) ⟨hc.1, hc.2.1⟩ hc.2.2.1 hp
          · cases hs
        · cases hs
      · cases hs
    · cases hs
  · cases hs

theorem step_lookup {t : Nat} {y z : Operand} {ok : Bool} (hop : o.op = .lookup t y z ok) : OpRes P Out N w0 g0 H0 st a w o x st' := by
  simp only [stepOp, hop] at hs
  split at hs
  · rename_i m hm'
    split at hs
    · rename_i i hi
      split at hs
      · rename_i e he
        split at hs
        · rename_i kk kt fr hf
          split at hs
          · rename_i k hk
            obtain ⟨hb, hs⟩ := bif_some hs
            simp only [Bool.and_eq_true] at hb
            split at hs
            · rename_i es hes
              split at hs
              · rename_i v b hl
                have := op_lookup hT h hop hi (Nat.eq_of_beq_eq_true hb.2) he hf hb.1 (h.getA hm hm') (h.getA hm hk) hes hl
                cases ok <;> (cases hs; exact this)
              · cases hs
            · cases hs
          · cases hs
        · cases hs
      · cases hs
    · cases hs
  · cases hs

theorem step_mapUpdate {t : Nat} {m k y : Operand} (hop : o.op = .mapUpdate t m k y) : OpRes P Out N w0 g0 H0 st a w o x st' := by
  simp only [stepOp, hop] at hs
  split at hs
  · rename_i o' hm'
    split at hs
    · rename_i i hi
      split at hs
      · rename_i kk kt fr hf
        split at hs
        · rename_i ka hk
          obtain ⟨hb, hs⟩ := bif_some hs
          simp only [Bool.and_eq_true] at hb
          split at hs
          · rename_i v hv
            split at hs
            · rename_i es lvl hob
              split at hs
              · rename_i es' hset
                cases hs
                exact op_mapUpdate hT h hop hi (Nat.eq_of_beq_eq_true hb.2) hf hb.1 (h.getA hm hm') (h.getA hm hk) (h.getA hm hv) hob hset
              · cases hs
            · cases hs
          · cases hs
        · cases hs
      · cases hs
    · cases hs
  · cases hs

omit hT in
theorem step_extract {y : Operand} {k : Nat} (hop : o.op = .extract y k) : OpRes P Out N w0 g0 H0 st a w o x st' := by
  simp only [stepOp, hop] at hs
  split at hs
  · rename_i vs hv
    split at hs
    · rename_i v hk
      rw [nth_eq] at hk
      cases hs
      exact op_extract h hop (h.getA hm hv) hk
    · cases hs
  · cases hs

theorem step_range {t : Nat} {y : Operand} (hop : o.op = .range t y) : OpRes P Out N w0 g0 H0 st a w o x st' := by
  simp only [stepOp, hop] at hs
  split at hs
  · rename_i s hv
    obtain ⟨hb, hs⟩ := bif_some hs
    obtain ⟨i, hi, hik⟩ := kindIs_some hb
    cases hs
    exact op_range hT h hop hi hik (h.getA hm hv)
  · cases hs

omit hT in
theorem step_next {y : Operand} {b : Bool} (hop : o.op = .next y b) : OpRes P Out N w0 g0 H0 st a w o x st' := by
  simp only [stepOp, hop] at hs
  split at hs
  · rename_i o' hv
    cases b with
    | false => cases hs
    | true =>
      simp only at hs
      split at hs
      · rename_i s pos hob
        have := op_next h hop (h.getA hm hv) hob (P := P)
        split at hs
        · rename_i hlt; cases hs; exact this.1 hlt
        · rename_i hlt; cases hs; exact this.2 hlt
      · cases hs
  · cases hs

theorem step_call {c : Call} (hop : o.op = .call c) : OpRes P Out N w0 g0 H0 st a w o x st' := by
  simp only [stepOp, hop] at hs
  split at hs
  · rename_i b hc
    split at hs
    · -- len
      split at hs
      · rename_i y t ha ht
        split at hs
        · rename_i i hi
          split at hs
          · rename_i v hv
            split at hs
            · rename_i n hn
              cases hs
              exact op_len hT h hop hc ha ht hi (h.getA hm hv) hn
            · cases hs
          · cases hs
        · cases hs
      · cases hs
    · -- max
      split at hs
      · rename_i y r hv
        split at hs
        · rename_i z hz
          cases hs
          exact op_max h hop hc (h.getAs hm hv) hz
        · cases hs
      · cases hs
    · -- min
      split at hs
      · rename_i y r hv
        split at hs
        · rename_i z hz
          cases hs
          exact op_min h hop hc (h.getAs hm hv) hz
        · cases hs
      · cases hs
    · -- append
      split at hs
      · rename_i y z t u rt ha hts
        split at hs
        · rename_i i hi
          split at hs
          · rename_i e he
            split at hs
            · rename_i base hbase
              split at hs
              · rename_i new hnew
                obtain ⟨hb, hs⟩ := bif_some hs
                simp only [Bool.and_eq_true] at hb
                obtain ⟨j, hj, hjk⟩ := kindIs_some hb.1.1.2
                split at hs
                · rename_i rows hrows
                  split at hs
                  · rename_i st1 v hap
                    cases hs
                    exact op_append hT h hop hc ha hts hi (Nat.eq_of_beq_eq_true hb.1.1.1) he (blt_pos hb.1.2) (blt_pos hb.2) hj hjk (h.getA hm hbase) (h.getA hm hnew) hrows hap
                  · cases hs
                · cases hs
              · cases hs
            · cases hs
          · cases hs
        · cases hs
      · cases hs
    · -- copy
      split at hs
      · rename_i y z t rt ha hts
        split at hs
        · rename_i i hi
          split at hs
          · rename_i e he
            split at hs
            · rename_i dst hdst
              split at hs
              · rename_i src hsrc
                obtain ⟨hb, hs⟩ := bif_some hs
                simp only [Bool.and_eq_true] at hb
                split at hs
                · rename_i rows hrows
                  split at hs
                  · rename_i st1 n hcp
                    cases hs
                    exact op_copy hT h hop hc ha hts hi (Nat.eq_of_beq_eq_true hb.1) he (blt_pos hb.2) (h.getA hm hdst) (h.getA hm hsrc) hrows hcp
                  · cases hs
                · cases hs
              · cases hs
            · cases hs
          · cases hs
        · cases hs
      · cases hs
    · cases hs
  · cases hs

/-- every operation that calls nothing -/
theorem step_ok : OpRes P Out N w0 g0 H0 st a w o x st' := by
  have hs' := hs
  unfold stepOp at hs'
  split at hs'
  · rename_i hop; exact step_move h hm hs hop
  · rename_i hop; exact step_assign h hm hs hop
  · rename_i hop; exact step_alloc hT h hm hs hop
  · rename_i hop; exact step_box h hm hs hop
  · rename_i hop; exact step_build hT h hm hs hop
  · rename_i hop; exact step_buildSlice hT h hm hs hop
  · rename_i hop; exact step_load hT h hm hs hop
  · rename_i hop; exact step_store hT h hm hs hop
  · rename_i hop; exact step_nilCheck h hm hs hop
  · rename_i hop; exact step_binOp hT h hm hs hop
  · rename_i hop; exact step_unOp h hm hs hop
  · rename_i hop; exact step_convert hT h hm hs hop
  · rename_i hop; exact step_makeFunc h hm hs hop
  · rename_i hop; exact step_makeMap h hm hs hop
  · rename_i hop; exact step_makeSlice hT h hm hs hop
  · rename_i hop; exact step_slice hT h hm hs hop
  · rename_i hop; exact step_fieldAddr hT h hm hs hop
  · rename_i hop; exact step_field hT h hm hs hop
  · rename_i hop; exact step_indexAddr hT h hm hs hop
  · rename_i hop; exact step_index hT h hm hs hop
  · rename_i hop; exact step_lookup hT h hm hs hop
  · rename_i hop; exact step_mapUpdate hT h hm hs hop
  · rename_i hop; exact step_extract h hm hs hop
  · rename_i hop; exact step_range hT h hm hs hop
  · rename_i hop; exact step_next h hm hs hop
  · rename_i hop; exact step_call hT h hm hs hop
  · cases hs'

end
end Go.Ex
