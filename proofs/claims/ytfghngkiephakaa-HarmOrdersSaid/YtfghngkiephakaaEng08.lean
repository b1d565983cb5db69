/- The evaluator of this proof, part 08. -/
import Derived.Test.YtfghngkiephakaaEng07
set_option linter.unnecessarySimpa false
set_option linter.unusedVariables false
set_option linter.unusedSimpArgs false
set_option linter.unusedSectionVars false
set_option linter.deprecated false
/- Fields, elements, lengths, parts. -/
set_option autoImplicit false
set_option linter.unusedVariables false
set_option linter.unusedSectionVars false
namespace Go.Ex
open Go.RowKit
section
variable {P : Program} {E : EP}
variable {Out : Nat → Prop} {N : Nat} {w0 : World} {g0 : List (Option Nat)} {H0 : List OB} {lam : Nat → Nat} {g : List (Option Nat)} {st : St} {a : Act} {w : World} {o : Oper}

theorem op_convert (hT : ∀ t i, E.ti t = some i → TiOK P t i) (h : FR Out N w0 g0 H0 lam g st a w) {src dst : Nat} {x : Operand} (ho : o.op = .convert src dst x) {k : IntKind} {n : Int} {i : TI} (hi : E.ti dst = some i) (hk : i.kind = 5)
    {s : TI} (hs : E.ti src = some s) (hsk : s.kind = 5)
    (hx : VR (MuOf Out lam st.locs g) w st.heap g (.i k n) (a.eval x)) : OpRes P Out N w0 g0 H0 st a w o (.v (.i i.ik (i.ik.wrap n))) st := by
  have hu := (hT dst i hi).int hk
  have hsu := (hT src s hs).int hsk
  generalize hv : a.eval x = v at hx
  cases hx
  refine OpRes.same h (v := .int i.ik (i.ik.wrap n)) ?_ (VR.i _ _)
  unfold execOp
  simp only [ho, hv, Go.convert, Sem.run_bind, run_underlying hu, run_underlying hsu, Result.andThen_ok]
  rfl

theorem op_makeFunc (h : FR Out N w0 g0 H0 lam g st a w) {f : FuncId} {first cap : Array Operand} (ho : o.op = .makeFunc (.func f) first cap) (hf : first.toList = []) {vs : List AV} (hv : VRs (MuOf Out lam st.locs g) w st.heap g vs (cap.toList.map a.eval)) :
    OpRes P Out N w0 g0 H0 st a w o (.v (.fn f vs)) st := by
  have hf' : first = #[] := by cases first; simp_all
  subst hf'
  refine OpRes.same h (v := .func (.func f) #[] (cap.toList.map a.eval).toArray) ?_ (VR.fn f vs _ hv.1 hv.2)
  unfold execOp
  simp only [ho, Instr.makeFunc]
  have : cap.map a.eval = (cap.toList.map a.eval).toArray := by cases cap; simp
  rw [this]; simp

theorem op_extract (h : FR Out N w0 g0 H0 lam g st a w) {x : Operand} {k : Nat} (ho : o.op = .extract x k) {vs : List AV} {y : AV} (hx : VR (MuOf Out lam st.locs g) w st.heap g (.tp vs) (a.eval x)) (hy : vs[k]? = some y) : OpRes P Out N w0 g0 H0 st a w o (.v y) st := by
  generalize hv : a.eval x = v at hx
  cases hx with
  | tp _ us hl hh =>
    have hk : k < us.length := by rw [← hl]; exact (List.getElem?_eq_some_iff.1 hy).1
    refine OpRes.same h (v := us[k]) ?_ (hh k y us[k] hy (List.getElem?_eq_getElem hk))
    unfold execOp
    simp [ho, hv, Instr.extract, hk]

/-- the part of an aggregate -/
theorem part_run (hT : ∀ t i, E.ti t = some i → TiOK P t i) {Mu : Nat → Prop} {H : List OB} {t off : Nat} {cs : List AV} {us : List Value} (hl : cs.length = us.length) (hc : ∀ (j : Nat) (x : AV), cs[j]? = some x → isCell x)
    (hh : ∀ (j : Nat) (x : AV) (v : Value), cs[j]? = some x → us[j]? = some v → VR Mu w H g x v) {y : AV} (hp : partA E t cs off = some y) : ∃ v, (part t us.toArray off).run P w = .ok v w ∧ VR Mu w H g y v := by
  obtain ⟨i, hi, hq⟩ := partA_some hT hp
  rcases hq with ⟨hk, hle, rfl⟩ | ⟨hk1, hk2, hy⟩
  · have hb : (Nat.beq i.kind 1 || Nat.beq i.kind 2) = true := by rcases hk with hk | hk <;> rw [hk] <;> rfl
    refine ⟨.agg ((us.drop off).take i.size).toArray, ?_, ?_⟩
    · unfold part
      simp only [Sem.run_bind, run_isAgg hT hi, hb, run_sizeOf hT hi, Result.andThen_ok, if_true]
      simp only [Sem.run_pure]
      congr 2
      apply Array.ext'
      simp [Array.toList_extract, List.extract_eq_drop_take]
    · refine .ag _ _ ?_ ?_ ?_
      · simp [hl]
      · intro j x hx
        rw [List.getElem?_take] at hx
        split at hx
        · rw [List.getElem?_drop] at hx; exact hc _ x hx
        · cases hx
      · intro j x v hx hv
        rw [List.getElem?_take] at hx hv
        split at hx
        · rename_i hj
          rw [if_pos hj] at hv
          rw [List.getElem?_drop] at hx hv
          exact hh _ x v hx hv
        · cases hx
  · have hb : (Nat.beq i.kind 1 || Nat.beq i.kind 2) = false := by rw [nbF hk1, nbF hk2]; rfl
    have hlt : off < us.length := by rw [← hl]; exact (List.getElem?_eq_some_iff.1 hy).1
    refine ⟨us[off], ?_, hh off y _ hy (List.getElem?_eq_getElem hlt)⟩
    unfold part
    simp only [Sem.run_bind, run_isAgg hT hi, hb, Result.andThen_ok]
    simp [hlt]

theorem op_field (hT : ∀ t i, E.ti t = some i → TiOK P t i) (h : FR Out N w0 g0 H0 lam g st a w) {t f off ft : Nat} {x : Operand} (ho : o.op = .field t x f) {i : TI} (hi : E.ti t = some i) (hk : i.kind = 1) (hf : i.flds[f]? = some (off, ft)) {cs : List AV} {y : AV}
    (hx : VR (MuOf Out lam st.locs g) w st.heap g (.ag cs) (a.eval x)) (hp : partA E ft cs off = some y) : OpRes P Out N w0 g0 H0 st a w o (.v y) st := by
  generalize hv : a.eval x = v at hx
  cases hx with
  | ag _ us hl hc hh =>
    obtain ⟨fs, hu, hfs, _⟩ := (hT t i hi).struct hk
    obtain ⟨fl, h1, h2, h3⟩ := hfs f off ft hf
    obtain ⟨r, hr, hvr⟩ := part_run (P := P) hT hl hc hh hp
    refine OpRes.same h (v := r) ?_ hvr
    unfold execOp
    simp only [ho, hv, Instr.field, Sem.run_bind, run_underlying hu, Result.andThen_ok, h1, asAgg, Sem.run_pure, h2, h3, hr]

theorem fieldAt_TR {off : Nat} {p q : TV} (hf : fieldAt off p = some q) {Mu : Nat → Prop} {H : List OB} {v : Value} (hp : TR Mu w H g lam p v) : ∃ b o', v = .pointer (some ⟨b, o', none⟩) ∧ TR Mu w H g lam q (.pointer (some ⟨b, o' + off, none⟩)) ∨
    ∃ o n tot row f rows gr lvl ad, p = .v (.hp o n tot row f) ∧ H[o]? = some (.arr n rows gr lvl) ∧ tot ≤ rows.length ∧ rows.length ≠ tot ∧ v = .pointer (some ad) := by
  cases p with
  | p l o' =>
    simp only [fieldAt, Option.some.injEq] at hf
    subst hf
    simp only [TR] at hp ⊢
    exact ⟨lam l, o', Or.inl ⟨hp, rfl⟩⟩
  | v x =>
    cases x <;> simp only [fieldAt, Option.some.injEq] at hf <;> try (cases hf; done)
    · rename_i o n tot row f
      subst hf
      simp only [TR] at hp ⊢
      cases hp with
      | hp _ _ _ _ _ rows gr lvl ad ho ht hv =>
        by_cases he : rows.length = tot
        · obtain ⟨b, hg, rfl⟩ := hv he
          exact ⟨b, row * n + f, Or.inl ⟨rfl, by rw [Nat.add_assoc]; exact .hp o n tot row (f + off) rows gr lvl _ ho ht fun _ => ⟨b, hg, by simp [Nat.add_assoc]⟩⟩⟩
        · exact ⟨0, 0, Or.inr ⟨o, n, tot, row, f, rows, gr, lvl, ad, rfl, ho, ht, he, rfl⟩⟩
    · rename_i cs o'
      subst hf
      simp only [TR] at hp ⊢
      cases hp with
      | ep _ _ b base c hc hcell hh => exact ⟨b, base + o', Or.inl ⟨rfl, by rw [Nat.add_assoc]; exact .ep cs (o' + off) b base c hc hcell hh⟩⟩

/-- pointers move on by an offset -/
theorem fieldAt_ok {off : Nat} {p q : TV} (hf : fieldAt off p = some q) {Mu : Nat → Prop} {H : List OB} {v : Value} (hp : TR Mu w H g lam p v) : ∃ ad, v = .pointer (some ad) ∧ ((ad.spot = none ∨ True) ∧ TR Mu w H g lam q (.pointer (some (ad.add off)))) := by
  obtain ⟨b, o', hq⟩ := fieldAt_TR hf hp
  rcases hq with ⟨rfl, h2⟩ | ⟨o, n, tot, row, f, rows, gr, lvl, ad, rfl, h1, h2, h3, rfl⟩
  · exact ⟨_, rfl, Or.inr trivial, by rw [add_eq]; exact h2⟩
  · simp only [fieldAt, Option.some.injEq] at hf
    subst hf
    exact ⟨ad, rfl, Or.inr trivial, .hp o n tot row (f + off) rows gr lvl _ h1 h2 fun e => absurd e h3⟩

theorem op_fieldAddr (hT : ∀ t i, E.ti t = some i → TiOK P t i) (h : FR Out N w0 g0 H0 lam g st a w) {t f off ft : Nat} {x : Operand} (ho : o.op = .fieldAddr t x f) {i : TI} (hi : E.ti t = some i) (hk : i.kind = 1) (hf : i.flds[f]? = some (off, ft)) (hz : 0 < sizeT E ft) {p q : TV}
    (hx : TR (MuOf Out lam st.locs g) w st.heap g lam p (a.eval x)) (hq : fieldAt off p = some q) : OpRes P Out N w0 g0 H0 st a w o q st := by
  obtain ⟨ad, h1, _, h2⟩ := fieldAt_ok hq hx
  obtain ⟨fs, hu, hfs, _⟩ := (hT t i hi).struct hk
  obtain ⟨fl, f1, f2, f3⟩ := hfs f off ft hf
  have ⟨j, hj, hjs⟩ : ∃ j, E.ti ft = some j ∧ 0 < j.size := by
    unfold sizeT at hz
    cases hj : E.ti ft with
    | none => rw [hj] at hz; simp at hz
    | some j => rw [hj] at hz; exact ⟨j, rfl, hz⟩
  refine OpRes.same h (v := .pointer (some (ad.add off))) ?_ h2
  unfold execOp
  simp only [ho, h1, Instr.fieldAt, Sem.run_bind, run_underlying hu, Result.andThen_ok, f1, Instr.sureAddr, Sem.run_pure, fieldPlace, f3, run_sizeOf hT hj]
  rw [if_neg (by omega), f2]
  rfl

theorem row?_some {rows : List (List AV)} {n : Int} {r : List AV} (h : row? rows n = some r) : 0 ≤ n ∧ rows[n.toNat]? = some r := by
  unfold row? at h
  split at h
  · exact ⟨by assumption, h⟩
  · cases h

theorem elSize_ti {t n : Nat} {i : TI} (hi : E.ti t = some i) (hs : elSize E t = n) (hn : 0 < n) : ∃ j, E.ti i.el = some j ∧ j.size = n := by
  unfold elSize at hs
  simp only [hi] at hs
  cases hj : E.ti i.el with
  | none => rw [hj] at hs; simp only at hs; omega
  | some j => rw [hj] at hs; exact ⟨j, rfl, hs⟩

theorem op_indexAddr (hT : ∀ t i, E.ti t = some i → TiOK P t i) (h : FR Out N w0 g0 H0 lam g st a w) {t : Nat} {x ix : Operand} (ho : o.op = .indexAddr t x ix) {i : TI} (hi : E.ti t = some i) (hk : i.kind = 3) {y : AV} {k : IntKind} {n : Int} {p : AV} (hpos : 0 < elSize E t)
    (hx : VR (MuOf Out lam st.locs g) w st.heap g y (a.eval x)) (hn : VR (MuOf Out lam st.locs g) w st.heap g (.i k n) (a.eval ix)) (hp : indexAt (elSize E t) n y = some p) : OpRes P Out N w0 g0 H0 st a w o (.v p) st := by
  have hu := (hT t i hi).slice hk
  obtain ⟨j, hj, hjs⟩ := elSize_ti hi rfl hpos
  generalize hv : a.eval x = v at hx
  generalize hvn : a.eval ix = vn at hn
  cases hn
  have hrun : ∀ (ad : Addr) (len cap : Nat), v = .slice (some ad) len cap → 0 ≤ n → n < (len : Int) → (execOp a.eval o).run P w = .ok (.value (.pointer (some (ad.add (n.toNat * elSize E t))))) w := by
    intro ad len cap hv' h1 h2
    unfold execOp
    simp only [ho, hv, hvn, hv', Instr.indexAt, Sem.run_bind, run_underlying hu, asIntOf, Sem.run_pure, Result.andThen_ok]
    rw [if_pos ⟨h1, h2⟩]
    simp [run_sizeOf hT hj, hjs]
  cases y <;> simp only [indexAt] at hp <;> try (cases hp; done)
  case sl m es clip =>
    cases hb : Nat.beq m (elSize E t) with
    | false => rw [hb] at hp; cases hp
    | true =>
      rw [hb] at hp
      simp only [cond_true] at hp
      have hm : m = elSize E t := Nat.eq_of_beq_eq_true hb
      subst hm
      cases hr : row? es n with
      | none => simp [hr] at hp
      | some cs =>
        simp only [hr, Option.some.injEq] at hp
        subst hp
        obtain ⟨hn0, hrow⟩ := row?_some hr
        have hlt : n.toNat < es.length := (List.getElem?_eq_some_iff.1 hrow).1
        cases hx with
        | sl _ _ _ ad cap c hcap hclip hnil hrl hc hcell hh =>
          have hcl : 0 < cs.length := by rw [hrl _ _ hrow]; exact hpos
          obtain ⟨ad', rfl, hspot, _, _⟩ := hcell n.toNat cs 0 cs[0] hrow (List.getElem?_eq_getElem hcl)
          refine OpRes.same h (hrun ad' _ _ rfl hn0 (by omega)) ?_
          rw [add_eq' _ _ hspot]
          refine .ep cs 0 ad'.block (ad'.off + n.toNat * elSize E t) (fun j => c n.toNat j) (fun j x hx => hc _ _ j x hrow hx) (fun j x hx => ?_) (fun j x hx => hh _ _ j x hrow hx)
          obtain ⟨ad2, e2, _, h3, h4⟩ := hcell n.toNat cs j x hrow hx
          cases e2
          exact ⟨by rw [Nat.add_assoc]; exact h3, h4⟩
  case hs o' m off len tot =>
    cases hb : Nat.beq m (elSize E t) with
    | false => rw [hb] at hp; cases hp
    | true =>
      rw [hb] at hp
      simp only [cond_true] at hp
      have hm : m = elSize E t := Nat.eq_of_beq_eq_true hb
      subst hm
      by_cases hc : 0 ≤ n ∧ n < (len : Int)
      · rw [if_pos hc] at hp
        simp only [Option.some.injEq] at hp
        subst hp
        cases hx with
        | hs _ _ _ _ _ rows gr lvl ad cap hob ht hnn hsl =>
          by_cases he : rows.length = tot
          · rcases hsl he with ⟨h1, h2, h3, _⟩ | ⟨b, cap', hg, hva, hbs, hle, hle2, hn'⟩ | ⟨h1, _⟩
            · omega
            · cases hva
              refine OpRes.same h (hrun _ _ _ rfl hc.1 hc.2) ?_
              rw [add_eq]
              refine .hp o' (elSize E t) tot (off + n.toNat) 0 rows gr lvl _ hob ht fun _ => ⟨b, hg, ?_⟩
              congr 1
              simp [Nat.add_mul]
            · omega
          · cases ad with
            | none => have := hnn rfl; omega
            | some ad' => exact OpRes.same h (hrun _ _ _ rfl hc.1 hc.2) (.hp o' (elSize E t) tot (off + n.toNat) 0 rows gr lvl _ hob ht fun e => absurd e he)
      · rw [if_neg hc] at hp; cases hp

theorem op_indexAddrArr (hT : ∀ t i, E.ti t = some i → TiOK P t i) (h : FR Out N w0 g0 H0 lam g st a w) {t : Nat} {x ix : Operand} (ho : o.op = .indexAddr t x ix) {i : TI} (hi : E.ti t = some i) (hk : i.kind = 2) {p q : TV} {k : IntKind} {n : Int}
    (hx : TR (MuOf Out lam st.locs g) w st.heap g lam p (a.eval x)) (hn : VR (MuOf Out lam st.locs g) w st.heap g (.i k n) (a.eval ix)) (hb : 0 ≤ n ∧ n * sizeT E i.el < i.size) (hq : fieldAt (n.toNat * sizeT E i.el) p = some q) (hz : 0 < sizeT E i.el) : OpRes P Out N w0 g0 H0 st a w o q st := by
  obtain ⟨len, hu, hlen⟩ := (hT t i hi).array hk
  obtain ⟨ad, h1, _, h2⟩ := fieldAt_ok hq hx
  have ⟨j, hj, hjs⟩ : ∃ j, E.ti i.el = some j ∧ j.size = sizeT E i.el := by
    unfold sizeT at hz ⊢
    cases hj : E.ti i.el with
    | none => rw [hj] at hz; simp at hz
    | some j => exact ⟨j, rfl, rfl⟩
  have hcs : P.cellsOf i.el = sizeT E i.el := by rw [cellsOf_ti hT hj, hjs]
  rw [hcs] at hlen
  have hnl : n < (len : Int) := by
    have h3 : n * (sizeT E i.el : Int) < (len : Int) * (sizeT E i.el : Int) := by rw [← Int.natCast_mul, hlen]; exact hb.2
    exact Int.lt_of_mul_lt_mul_right h3 (by omega)
  generalize hvn : a.eval ix = vn at hn
  cases hn
  refine OpRes.same h (v := .pointer (some (ad.add (n.toNat * sizeT E i.el)))) ?_ h2
  unfold execOp
  simp only [ho, h1, hvn, Instr.indexAt, Sem.run_bind, run_underlying hu, asIntOf, Sem.run_pure, Result.andThen_ok, Instr.sureAddr]
  rw [if_pos ⟨hb.1, hnl⟩]
  simp [run_sizeOf hT hj, hjs]

theorem op_indexStr (hT : ∀ t i, E.ti t = some i → TiOK P t i) (h : FR Out N w0 g0 H0 lam g st a w) {t : Nat} {x ix : Operand} (ho : o.op = .index t x ix) {i : TI} (hi : E.ti t = some i) (hk : i.kind = 7) {s : ByteArray} {k : IntKind} {n : Int} {c : UInt8}
    (hx : VR (MuOf Out lam st.locs g) w st.heap g (.s s) (a.eval x)) (hn : VR (MuOf Out lam st.locs g) w st.heap g (.i k n) (a.eval ix)) (h0 : 0 ≤ n) (hc : s.data.toList[n.toNat]? = some c) : OpRes P Out N w0 g0 H0 st a w o (.v (.i .u8 c.toNat)) st := by
  have hu := (hT t i hi).string hk
  generalize hv : a.eval x = v at hx
  generalize hvn : a.eval ix = vn at hn
  cases hx; cases hn
  refine OpRes.same h (v := .int .u8 c.toNat) ?_ (VR.i _ _)
  unfold execOp
  have hc' : s[n.toNat]? = some c := by
    have h1 : n.toNat < s.data.size := by have := (List.getElem?_eq_some_iff.1 hc).1; simpa using this
    have h2 := (List.getElem?_eq_some_iff.1 hc).2
    have h3 : n.toNat < s.size := h1
    rw [getElem?_pos s n.toNat h3]
    congr 1
  simp only [ho, hv, hvn, Instr.index, Sem.run_bind, run_underlying hu, asIntOf, Sem.run_pure, Result.andThen_ok, if_pos h0, hc']

theorem op_indexArr (hT : ∀ t i, E.ti t = some i → TiOK P t i) (h : FR Out N w0 g0 H0 lam g st a w) {t : Nat} {x ix : Operand} (ho : o.op = .index t x ix) {i : TI} (hi : E.ti t = some i) (hk : i.kind = 2) {cs : List AV} {k : IntKind} {n : Int} {y : AV}
    (hx : VR (MuOf Out lam st.locs g) w st.heap g (.ag cs) (a.eval x)) (hn : VR (MuOf Out lam st.locs g) w st.heap g (.i k n) (a.eval ix)) (hb : 0 ≤ n ∧ n * sizeT E i.el < i.size) (hz : 0 < sizeT E i.el) (hp : partA E i.el cs (n.toNat * sizeT E i.el) = some y) : OpRes P Out N w0 g0 H0 st a w o (.v y) st := by
  obtain ⟨len, hu, hlen⟩ := (hT t i hi).array hk
  have ⟨j, hj, hjs⟩ : ∃ j, E.ti i.el = some j ∧ j.size = sizeT E i.el := by
    unfold sizeT at hz ⊢
    cases hj : E.ti i.el with
    | none => rw [hj] at hz; simp at hz
    | some j => exact ⟨j, rfl, rfl⟩
  have hcs : P.cellsOf i.el = sizeT E i.el := by rw [cellsOf_ti hT hj, hjs]
  rw [hcs] at hlen
  have hnl : n < (len : Int) := by
    have h3 : n * (sizeT E i.el : Int) < (len : Int) * (sizeT E i.el : Int) := by rw [← Int.natCast_mul, hlen]; exact hb.2
    exact Int.lt_of_mul_lt_mul_right h3 (by omega)
  generalize hv : a.eval x = v at hx
  generalize hvn : a.eval ix = vn at hn
  cases hn
  cases hx with
  | ag _ us hl hc hh =>
    obtain ⟨r, hr, hvr⟩ := part_run (P := P) hT hl hc hh hp
    refine OpRes.same h (v := r) ?_ hvr
    unfold execOp
    simp only [ho, hv, hvn, Instr.index, Sem.run_bind, run_underlying hu, asIntOf, Sem.run_pure, Result.andThen_ok]
    rw [if_pos ⟨hb.1, hnl⟩]
    simp only [Sem.run_bind, run_sizeOf hT hj, Result.andThen_ok, hjs, hr]

end
end Go.Ex
/- Lengths, the greatest and the least; new variables; new maps, slices, iterators. -/
set_option autoImplicit false
set_option linter.unusedVariables false
set_option linter.unusedSectionVars false
namespace Go.Ex
open Go.RowKit
section
variable {P : Program} {E : EP}
variable {Out : Nat → Prop} {N : Nat} {w0 : World} {g0 : List (Option Nat)} {H0 : List OB} {lam : Nat → Nat} {g : List (Option Nat)} {st : St} {a : Act} {w : World} {o : Oper}

theorem exec_builtin {c : Call} {b : Builtin} (ho : o.op = .call c) (hc : c.callee = .builtin b) : execOp a.eval o = builtin b c.argTypes o.type (c.args.map fun | .const _ => true | _ => false) (c.args.map a.eval) := by
  unfold execOp
  simp only [ho, resolve, hc]
  rfl

theorem args1 {c : Call} {x : Operand} (h : c.args.toList = [x]) : c.args.map a.eval = #[a.eval x] := by
  have : c.args = #[x] := by cases hc : c.args; rw [hc] at h; simp at h; simp [h]
  rw [this]; simp
theorem types1 {c : Call} {t : Nat} (h : c.argTypes.toList = [t]) : c.argTypes = #[t] := by
  cases hc : c.argTypes; rw [hc] at h; simp at h; simp [h]

theorem op_len (hT : ∀ t i, E.ti t = some i → TiOK P t i) (h : FR Out N w0 g0 H0 lam g st a w) {c : Call} {x : Operand} {t : Nat} (ho : o.op = .call c) (hc : c.callee = .builtin .len) (ha : c.args.toList = [x]) (ht : c.argTypes.toList = [t]) {i : TI} (hi : E.ti t = some i) {y : AV} {n : Int}
    (hx : VR (MuOf Out lam st.locs g) w st.heap g y (a.eval x)) (hn : lenAV st i.kind y = some n) : OpRes P Out N w0 g0 H0 st a w o (.v (.i .i64 n)) st := by
  refine OpRes.same h (v := .int .i64 n) ?_ (VR.i _ _)
  rw [exec_builtin ho hc, args1 ha, types1 ht]
  generalize hv : a.eval x = v at hx
  simp only [builtin]
  unfold lenAV at hn
  split at hn
  · rename_i hk
    have hu := (hT t i hi).slice hk
    split at hn
    · simp only [Option.some.injEq] at hn; subst hn
      cases hx
      simp [Builtin.len_, run_underlying hu, goInt]
    · simp only [Option.some.injEq] at hn; subst hn
      cases hx
      simp [Builtin.len_, run_underlying hu, goInt]
    · cases hn
  · rename_i hk
    have hu := (hT t i hi).string hk
    split at hn
    · simp only [Option.some.injEq] at hn; subst hn
      cases hx
      simp [Builtin.len_, run_underlying hu, goInt]
    · cases hn
  · rename_i hk
    obtain ⟨kk, kt, hu, _⟩ := (hT t i hi).map hk
    split at hn
    · rename_i es
      simp only [Option.some.injEq] at hn; subst hn
      cases hx with
      | im0 => simp [Builtin.len_, run_underlying hu, goInt]
      | im _ b en clock k v hb hm hl he hk2 hv2 =>
        simp [Builtin.len_, run_underlying hu, goInt, MapKept.run_getObj_map hb, hl]
    · rename_i o'
      split at hn
      · rename_i es lvl hob
        simp only [Option.some.injEq] at hn; subst hn
        cases hx with
        | mp _ b es' lvl' hob' hg =>
          obtain ⟨_, b', en, clock, h1, h2, h3, _⟩ := h.heap.obj o' _ hob
          rw [hg] at h1; cases h1
          simp [Builtin.len_, run_underlying hu, goInt, MapKept.run_getObj_map h2, h3]
      · cases hn
    · cases hn
  · cases hn

theorem foldAV_run {f : AV → AV → Option AV} {F : Value → Value → Sem Value} {Mu : Nat → Prop} {H : List OB} (hf : ∀ x y z u v, f x y = some z → VR Mu w H g x u → VR Mu w H g y v → ∃ r, (F u v).run P w = .ok r w ∧ VR Mu w H g z r) :
    ∀ {ys : List AV} {vs : List Value} {x z : AV} {u : Value}, foldAV f x ys = some z → VR Mu w H g x u → VRs Mu w H g ys vs → ∃ r, (vs.foldlM F u).run P w = .ok r w ∧ VR Mu w H g z r
  | [], [], x, z, u, hz, hx, _ => by simp only [foldAV, Option.some.injEq] at hz; subst hz; exact ⟨u, by simp, hx⟩
  | [], v :: vs, _, _, _, _, _, hs => absurd hs.1 (by simp)
  | y :: ys, [], _, _, _, _, _, hs => absurd hs.1 (by simp)
  | y :: ys, v :: vs, x, z, u, hz, hx, hs => by
    simp only [foldAV] at hz
    cases hq : f x y with
    | none => simp [hq] at hz
    | some q =>
      simp only [hq] at hz
      obtain ⟨r, h1, h2⟩ := hf x y q u v hq hx hs.uncons.1
      obtain ⟨r', h3, h4⟩ := foldAV_run hf hz h2 hs.uncons.2
      exact ⟨r', by simp only [List.foldlM_cons, Sem.run_bind, h1, Result.andThen_ok, h3], h4⟩

theorem op_max (h : FR Out N w0 g0 H0 lam g st a w) {c : Call} (ho : o.op = .call c) (hc : c.callee = .builtin .max) {x : AV} {r : List AV} {z : AV} (ha : VRs (MuOf Out lam st.locs g) w st.heap g (x :: r) (c.args.toList.map a.eval)) (hz : foldAV maxAV x r = some z) : OpRes P Out N w0 g0 H0 st a w o (.v z) st := by
  cases hl : c.args.toList.map a.eval with
  | nil => rw [hl] at ha; exact absurd ha.1 (by simp)
  | cons u us =>
    rw [hl] at ha
    obtain ⟨rv, h1, h2⟩ := foldAV_run (P := P) (f := maxAV) (F := Builtin.max2) (fun x y z u v hq hx hy => by
      cases x <;> cases y <;> simp only [maxAV] at hq <;> try (cases hq; done)
      cases hx; cases hy
      split at hq
      · rename_i hk; subst hk; simp only [Option.some.injEq] at hq; subst hq
        exact ⟨_, rfl, VR.i _ _⟩
      · cases hq) hz ha.uncons.1 ha.uncons.2
    refine OpRes.same h (v := rv) ?_ h2
    rw [exec_builtin ho hc]
    have : (c.args.map a.eval).toList = u :: us := by simpa using hl
    simp only [builtin, Builtin.max_, this, Sem.run_bind, h1, Result.andThen_ok, Sem.run_pure]

theorem op_min (h : FR Out N w0 g0 H0 lam g st a w) {c : Call} (ho : o.op = .call c) (hc : c.callee = .builtin .min) {x : AV} {r : List AV} {z : AV} (ha : VRs (MuOf Out lam st.locs g) w st.heap g (x :: r) (c.args.toList.map a.eval)) (hz : foldAV minAV x r = some z) : OpRes P Out N w0 g0 H0 st a w o (.v z) st := by
  cases hl : c.args.toList.map a.eval with
  | nil => rw [hl] at ha; exact absurd ha.1 (by simp)
  | cons u us =>
    rw [hl] at ha
    obtain ⟨rv, h1, h2⟩ := foldAV_run (P := P) (f := minAV) (F := Builtin.min2) (fun x y z u v hq hx hy => by
      cases x <;> cases y <;> simp only [minAV] at hq <;> try (cases hq; done)
      cases hx; cases hy
      split at hq
      · rename_i hk; subst hk; simp only [Option.some.injEq] at hq; subst hq
        exact ⟨_, rfl, VR.i _ _⟩
      · cases hq) hz ha.uncons.1 ha.uncons.2
    refine OpRes.same h (v := rv) ?_ h2
    rw [exec_builtin ho hc]
    have : (c.args.map a.eval).toList = u :: us := by simpa using hl
    simp only [builtin, Builtin.min_, this, Sem.run_bind, h1, Result.andThen_ok, Sem.run_pure]

/-- a nil slice that is to grow -/
theorem op_ownNil (h : FR Out N w0 g0 H0 lam g st a w) (n : Nat) (ho : o.op = .assign (.const (.slice none 0 0))) : OpRes P Out N w0 g0 H0 st a w o (.v (.hs st.heap.length n 0 0 0)) (newObj (.arr n [] true 0) st) := by
  obtain ⟨h1, _⟩ := h.newOb (Grow.refl w) none (.arr n [] true 0) (fun b hb => by cases hb) (fun _ => ⟨fun i row hi => by simp at hi, Or.inl ⟨rfl, rfl⟩⟩)
  refine ⟨_, .slice none 0 0, w, lam, g ++ [none], ?_, Or.inl rfl, ?_, h1, fun _ h => h, fun _ h => h⟩
  · unfold execOp; rw [ho]; rfl
  · exact .hs _ n 0 0 0 [] true 0 none 0 (by simp [newObj]) (Nat.le_refl _) (fun _ => rfl) fun _ => Or.inl ⟨rfl, rfl, rfl, none, rfl⟩

/-- a new variable's cells are known -/
theorem new_loc (h : FR Out N w0 g0 H0 lam g st a w) (d : Nat) {cs : List AV} {c : Array Value} (e : TypeId) (hn : c.size = cs.length) (hc : Cs (VR (MuOf Out lam st.locs g) w st.heap g) cs (fun j => c[j]?))
    (hr : (execOp a.eval o).run P w = .ok (.value (.pointer (some ⟨w.heap.size, 0, none⟩))) { w with heap := w.heap.push (.cells c e) }) :
    OpRes P Out N w0 g0 H0 st a w o (.p d 0) { st with locs := aset cs st.locs d, vals := dropP d st.vals, tl := dropG d st.tl } := by
  obtain ⟨h1, _⟩ := h.newLoc d e hn hc
  exact ⟨_, _, _, _, g, hr, Or.inl rfl, by simp [TR], h1, fun x hx => by obtain ⟨t, gd, y⟩ := x; exact (mem_dropG hx).1, fun x hx => by obtain ⟨t, y⟩ := x; exact (mem_dropP hx).1⟩

theorem new_box (h : FR Out N w0 g0 H0 lam g st a w) {cs : List AV} {c : Array Value} (e : TypeId) {lvl : Nat} (hn : c.size = cs.length) (hp : 0 < cs.length) (hl : lev.levs cs ≤ lvl) (hc : Cs (VR (MuOf Out lam st.locs g) w st.heap g) cs (fun j => c[j]?))
    (hr : (execOp a.eval o).run P w = .ok (.value (.pointer (some ⟨w.heap.size, 0, none⟩))) { w with heap := w.heap.push (.cells c e) }) :
    OpRes P Out N w0 g0 H0 st a w o (.v (.hp st.heap.length cs.length 1 0 0)) (newObj (.arr cs.length [cs] false lvl) st) := by
  obtain ⟨h1, h2⟩ := h.newOb (Grow.push w (.cells c e)) (some w.heap.size) (.arr cs.length [cs] false lvl) (fun b hb => by cases hb; simp) (fun hr' =>
    ⟨fun i row hi => by
        cases i with
        | zero => simp at hi; subst hi; exact ⟨rfl, hl⟩
        | succ i => simp at hi,
      Or.inr ⟨w.heap.size, c, e, rfl, push_get, by simp [hn], hp, fun i row hi => by
        cases i with
        | zero => simp at hi; subst hi; simpa using hc.mono hr'
        | succ i => simp at hi⟩⟩)
  refine ⟨_, _, _, lam, g ++ [some w.heap.size], hr, Or.inl rfl, ?_, h1, fun _ h => h, fun _ h => h⟩
  exact .hp _ _ 1 0 0 [cs] false lvl _ (by simp [newObj]) (by simp) fun _ => ⟨w.heap.size, by rw [← h.heap.len]; simp, by simp⟩

theorem alloc_run (hT : ∀ t i, E.ti t = some i → TiOK P t i) {e : Nat} {i : TI} (hi : E.ti e = some i) (ho : o.op = .alloc e) : ∃ z : Value, (execOp a.eval o).run P w = .ok (.value (.pointer (some ⟨w.heap.size, 0, none⟩))) { w with heap := w.heap.push (.cells z.cells e) } ∧ ZeroOK z i.zero := by
  obtain ⟨z, h1, h2, _⟩ := run_zero hT hi w
  refine ⟨z, ?_, h2⟩
  unfold execOp
  simp only [ho, Instr.alloc, Sem.run_bind, h1, Result.andThen_ok, newVar, newRow, run_newObj, Sem.run_pure]

theorem box_run {e : Nat} {x : Operand} (ho : o.op = .box e x) : (execOp a.eval o).run P w = .ok (.value (.pointer (some ⟨w.heap.size, 0, none⟩))) { w with heap := w.heap.push (.cells (a.eval x).cells e) } := by
  unfold execOp
  simp only [ho, Instr.box, Sem.run_bind, Result.andThen_ok, newVar, newRow, run_newObj, Sem.run_pure]

/-- a new map -/
theorem op_makeMap (h : FR Out N w0 g0 H0 lam g st a w) {t : Nat} (ho : o.op = .makeMap t none) : OpRes P Out N w0 g0 H0 st a w o (.v (.mp st.heap.length)) (newObj (.map [] 0) st) := by
  obtain ⟨h1, _⟩ := h.newOb (Grow.push w (.map #[] 0)) (some w.heap.size) (.map [] 0) (fun b hb => by cases hb; simp) (fun _ => ⟨fun i e hi => by simp at hi, w.heap.size, #[], 0, rfl, push_get, rfl, fun i e m hi => by simp at hi⟩)
  refine ⟨_, .map (some w.heap.size), _, lam, g ++ [some w.heap.size], ?_, Or.inl rfl, ?_, h1, fun _ h => h, fun _ h => h⟩
  · unfold execOp
    simp [ho, Instr.makeMap]
  · exact .mp _ _ [] 0 (by simp [newObj]) (by rw [← h.heap.len]; simp)

/-- a new iterator over a string -/
theorem op_range (hT : ∀ t i, E.ti t = some i → TiOK P t i) (h : FR Out N w0 g0 H0 lam g st a w) {t : Nat} {x : Operand} (ho : o.op = .range t x) {i : TI} (hi : E.ti t = some i) (hk : i.kind = 7) {s : ByteArray} (hx : VR (MuOf Out lam st.locs g) w st.heap g (.s s) (a.eval x)) :
    OpRes P Out N w0 g0 H0 st a w o (.v (.it st.heap.length)) (newObj (.sit s 0) st) := by
  have hu := (hT t i hi).string hk
  generalize hv : a.eval x = v at hx
  cases hx
  obtain ⟨h1, _⟩ := h.newOb (Grow.push w (.stringIter s 0)) (some w.heap.size) (.sit s 0) (fun b hb => by cases hb; simp) (fun _ => ⟨w.heap.size, rfl, push_get⟩)
  refine ⟨_, .pointer (some ⟨w.heap.size, 0, none⟩), _, lam, g ++ [some w.heap.size], ?_, Or.inl rfl, ?_, h1, fun _ h => h, fun _ h => h⟩
  · unfold execOp
    simp [ho, hv, Instr.range, run_underlying hu]
  · exact .it _ _ s 0 (by simp [newObj]) (by rw [← h.heap.len]; simp)

end
end Go.Ex
/- Composite literals; made slices. -/
set_option autoImplicit false
set_option linter.unusedVariables false
set_option linter.unusedSectionVars false
namespace Go.Ex
open Go.RowKit

/-- what 'fill' does with one part -/
theorem fold_set (vs : List Value) : ∀ (k off : Nat) (cs : Array Value), ((vs.zipIdx k).foldl (fun cs (p : Value × Nat) => cs.setIfInBounds (off + p.2) p.1) cs).size = cs.size ∧
    ∀ j, ((vs.zipIdx k).foldl (fun cs (p : Value × Nat) => cs.setIfInBounds (off + p.2) p.1) cs)[j]? = if off + k ≤ j ∧ j < off + k + vs.length ∧ j < cs.size then vs[j - (off + k)]? else cs[j]? := by
  induction vs with
  | nil => intro k off cs; exact ⟨rfl, fun j => by rw [if_neg (by simp; omega)]; rfl⟩
  | cons v vs ih =>
    intro k off cs
    simp only [List.zipIdx_cons, List.foldl_cons]
    obtain ⟨h1, h2⟩ := ih (k + 1) off (cs.setIfInBounds (off + k) v)
    refine ⟨by rw [h1]; simp, fun j => ?_⟩
    rw [h2 j]
    simp only [Array.size_setIfInBounds, List.length_cons]
    by_cases hj : off + (k + 1) ≤ j ∧ j < off + (k + 1) + vs.length ∧ j < cs.size
    · rw [if_pos hj, if_pos (by omega)]
      have : j - (off + k) = (j - (off + (k + 1))) + 1 := by omega
      rw [this, List.getElem?_cons_succ]
    · rw [if_neg hj]
      rw [Array.getElem?_setIfInBounds]
      by_cases he : off + k = j
      · subst he
        by_cases hs : off + k < cs.size
        · rw [if_pos (show off + k ≤ off + k ∧ off + k < off + k + (vs.length + 1) ∧ off + k < cs.size from ⟨by omega, by omega, hs⟩)]; simp [hs]
        · rw [if_neg (show ¬ (off + k ≤ off + k ∧ off + k < off + k + (vs.length + 1) ∧ off + k < cs.size) by omega)]; simp [hs, Array.getElem?_eq_none (Nat.le_of_not_lt hs)]
      · rw [if_neg he, if_neg (show ¬ (off + k ≤ j ∧ j < off + k + (vs.length + 1) ∧ j < cs.size) by omega)]

theorem fold_cells (v : Value) (off : Nat) (cs : Array Value) : (v.cells.zipIdx.foldl (fun cs (c, j) => cs.setIfInBounds (off + j) c) cs).size = cs.size ∧
    ∀ j, (v.cells.zipIdx.foldl (fun cs (c, j) => cs.setIfInBounds (off + j) c) cs)[j]? = if off ≤ j ∧ j < off + v.cells.size ∧ j < cs.size then v.cells[j - off]? else cs[j]? := by
  have h := fold_set v.cells.toList 0 off cs
  have he : v.cells.zipIdx.foldl (fun cs (c, j) => cs.setIfInBounds (off + j) c) cs = (v.cells.toList.zipIdx 0).foldl (fun cs (p : Value × Nat) => cs.setIfInBounds (off + p.2) p.1) cs := by
    rw [← Array.foldl_toList]
    simp
  rw [he]
  refine ⟨h.1, fun j => ?_⟩
  rw [h.2 j]
  simp

section
variable {P : Program} {E : EP}
variable {Out : Nat → Prop} {N : Nat} {w0 : World} {g0 : List (Option Nat)} {H0 : List OB} {lam : Nat → Nat} {g : List (Option Nat)} {st : St} {a : Act} {w : World} {o : Oper}

/-- parts and what they stand for -/
def PRs (Mu : Nat → Prop) (w : World) (H : List OB) (g : List (Option Nat)) : List (Nat × AV) → List (Nat × Value) → Prop
  | [], [] => True
  | (i, x) :: r, (j, v) :: s => i = j ∧ VR Mu w H g x v ∧ PRs Mu w H g r s
  | _, _ => False

theorem FR.getParts (h : FR Out N w0 g0 H0 lam g st a w) {gd : Gd} (hm : Met a gd) {ty : Nat → Nat} : ∀ {ps : List (Nat × Operand)} {vs : List (Nat × AV)}, getParts E gd st ty ps = some vs → PRs (MuOf Out lam st.locs g) w st.heap g vs (ps.map fun (i, x) => (i, a.eval x))
  | [], vs, hv => by simp only [Ex.getParts, Option.some.injEq] at hv; subst hv; trivial
  | (i, x) :: ps, vs, hv => by
    simp only [Ex.getParts] at hv
    split at hv
    · rename_i v hx
      split at hv
      · rename_i rs hr
        simp only [Option.some.injEq] at hv
        subst hv
        exact ⟨rfl, h.getA hm hx, FR.getParts h hm hr⟩
      · cases hv
    · cases hv

theorem fill_ok {Mu : Nat → Prop} {H : List OB} {place place' : Nat → Option (Nat × Nat)} (hpl : ∀ i p, place i = some p → 0 < p.2 → place' i = some p) : ∀ {vs : List (Nat × AV)} {us : List (Nat × Value)} {cs cs' : List AV} {c : Array Value}, fillAV place cs vs = some cs' → PRs Mu w H g vs us →
    c.size = cs.length → Cs (VR Mu w H g) cs (fun j => c[j]?) → ∃ c', Instr.fill place' c us = some c' ∧ c'.size = cs'.length ∧ Cs (VR Mu w H g) cs' (fun j => c'[j]?)
  | [], [], cs, cs', c, hf, _, hs, hc => by simp only [fillAV, Option.some.injEq] at hf; subst hf; exact ⟨c, rfl, hs, hc⟩
  | [], _ :: _, _, _, _, _, hp, _, _ => hp.elim
  | _ :: _, [], _, _, _, _, hp, _, _ => hp.elim
  | (i, x) :: vs, (j, v) :: us, cs, cs', c, hf, hp, hs, hc => by
    obtain ⟨rfl, hv, hps⟩ := hp
    simp only [fillAV] at hf
    cases hi : place i with
    | none => simp [hi] at hf
    | some p =>
      obtain ⟨off, n⟩ := p
      simp only [hi] at hf
      cases hb : (Nat.beq (cellsOf x).length n && Nat.blt 0 n) with
      | false => rw [hb] at hf; cases hf
      | true =>
        rw [hb] at hf
        simp only [cond_true] at hf
        simp only [Bool.and_eq_true] at hb
        have hn : (cellsOf x).length = n := Nat.eq_of_beq_eq_true hb.1
        have hpos : 0 < n := by have := hb.2; unfold Nat.blt at this; rw [Nat.ble_eq] at this; omega
        cases hl : lay cs off (cellsOf x) with
        | none => simp [hl] at hf
        | some cs1 =>
          simp only [hl] at hf
          obtain ⟨hsz, hcv⟩ := hv.cells (by omega)
          obtain ⟨hl1, hl2, hl3⟩ := lay_spec hl
          have hne : cellsOf x ≠ [] := fun e => by rw [e] at hn; simp at hn; omega
          rw [if_neg hne] at hl2
          obtain ⟨f1, f2⟩ := fold_cells v off c
          obtain ⟨c', k1, k2, k3⟩ := fill_ok (place := place) (place' := place') hpl (c := v.cells.zipIdx.foldl (fun cs (c, j) => cs.setIfInBounds (off + j) c) c) hf hps (by rw [f1, hs, hl1]) (fun j y hy => by
            rw [hl3 j] at hy
            show ∃ u, (v.cells.zipIdx.foldl (fun cs (c, j) => cs.setIfInBounds (off + j) c) c)[j]? = some u ∧ _
            rw [f2 j, hsz]
            by_cases hj : off ≤ j ∧ j < off + (cellsOf x).length
            · rw [if_pos hj] at hy
              rw [if_pos ⟨hj.1, hj.2, by omega⟩]
              exact hcv _ y hy
            · rw [if_neg hj] at hy
              rw [if_neg (fun hh => hj ⟨hh.1, hh.2.1⟩)]
              exact hc j y hy)
          refine ⟨c', ?_, k2, k3⟩
          simp only [Instr.fill, hpl i (off, n) hi hpos]
          rw [if_neg]
          · exact k1
          · rw [hsz, hn, hs]
            simp; omega

/-- the places of a struct's fields -/
theorem fields_places (hT : ∀ t i, E.ti t = some i → TiOK P t i) : ∀ (l : List Field), (∀ fl ∈ l, ∃ inf, P.info? fl.type = some inf) → (l.mapM fun f => (do pure (f.offset, ← sizeOf f.type) : Sem (Nat × Nat))).run P w = .ok (l.map fun f => (f.offset, P.cellsOf f.type)) w
  | [], _ => by simp
  | f :: l, h => by
    obtain ⟨inf, hi⟩ := h f (by simp)
    have ih := fields_places hT l (fun fl hf => h fl (by simp [hf]))
    have this : P.cellsOf f.type = inf.size := by simp [Program.cellsOf, hi]
    have h1 : (do pure (f.offset, ← sizeOf f.type) : Sem (Nat × Nat)).run P w = .ok (f.offset, inf.size) w := by simp [sizeOf, typeInfo, hi]
    rw [List.mapM_cons, Sem.run_bind, h1, Result.andThen_ok, Sem.run_bind, ih, Result.andThen_ok, Sem.run_pure, List.map_cons, this]

theorem op_buildStruct (hT : ∀ t i, E.ti t = some i → TiOK P t i) (h : FR Out N w0 g0 H0 lam g st a w) {t : Nat} {ps : Array (Nat × Operand)} (ho : o.op = .build t ps) {i : TI} (hi : E.ti t = some i) (hk : i.kind = 1) {vs : List (Nat × AV)} {cs : List AV}
    (hp : PRs (MuOf Out lam st.locs g) w st.heap g vs (ps.toList.map fun (i, x) => (i, a.eval x))) (hf : fillAV (fun f => match nth i.flds f with | some (off, ft) => some (off, sizeT E ft) | none => none) i.zero vs = some cs) : OpRes P Out N w0 g0 H0 st a w o (.v (.ag cs)) st := by
  obtain ⟨z, hz, hzo, hza, _⟩ := run_zero hT hi w
  obtain ⟨fs, hu, hfs, hfi⟩ := (hT t i hi).struct hk
  obtain ⟨c', f1, f2, f3⟩ := fill_ok (w := w) (g := g) (Mu := MuOf Out lam st.locs g) (H := st.heap) (place' := fun k => (fs.toList.map fun f => (f.offset, P.cellsOf f.type)).toArray[k]?) (c := z.cells) (fun k p hpk hpos => by
    rw [nth_eq] at hpk
    cases hq : i.flds[k]? with
    | none => simp [hq] at hpk
    | some q =>
      obtain ⟨off, ft⟩ := q
      simp only [hq, Option.some.injEq] at hpk
      subst hpk
      obtain ⟨fl, a1, a2, a3⟩ := hfs k off ft hq
      have : P.cellsOf fl.type = sizeT E ft := by
        rw [a3]
        simp only at hpos
        unfold sizeT at hpos ⊢
        cases hj : E.ti ft with
        | none => rw [hj] at hpos; simp at hpos
        | some j => simp only [cellsOf_ti hT hj]
      have a1' : fs.toList[k]? = some fl := by simpa using a1
      simp [a1', a2, this]) hf hp hzo.1 (hzo.cs hT _ _ _ _)
  refine OpRes.same h (v := .agg c') ?_ ?_
  · unfold execOp
    have hmap : (fs.mapM fun f => (do pure (f.offset, ← sizeOf f.type) : Sem (Nat × Nat))).run P w = .ok (fs.toList.map fun f => (f.offset, P.cellsOf f.type)).toArray w := by
      rw [Array.mapM_eq_mapM_toList]
      simp only [Sem.run_map, fields_places hT fs.toList (fun fl hf => hfi fl (by simpa using hf)), Result.andThen_ok]
    have hparts : (ps.map fun (i, x) => (i, a.eval x)).toList = ps.toList.map fun (i, x) => (i, a.eval x) := by simp
    simp only [ho, Instr.build, Sem.run_bind, hz, run_underlying hu, Result.andThen_ok, hmap, hparts, f1, Sem.run_pure]
  · have : c' = c'.toList.toArray := by simp
    rw [this]
    refine .ag cs c'.toList (by simpa using f2.symm) (fun j x hx => (f3 j x hx).choose_spec.2.2) (fun j x v hx hv => ?_)
    obtain ⟨u, k1, k2, k3⟩ := f3 j x hx
    have : c'.toList[j]? = some u := by simpa using k1
    rw [this] at hv; cases hv; exact k2

theorem op_buildArr (hT : ∀ t i, E.ti t = some i → TiOK P t i) (h : FR Out N w0 g0 H0 lam g st a w) {t : Nat} {ps : Array (Nat × Operand)} (ho : o.op = .build t ps) {i : TI} (hi : E.ti t = some i) (hk : i.kind = 2) {vs : List (Nat × AV)} {cs : List AV} (hpos : 0 < sizeT E i.el)
    (hp : PRs (MuOf Out lam st.locs g) w st.heap g vs (ps.toList.map fun (i, x) => (i, a.eval x))) (hf : fillAV (fun f => some (f * sizeT E i.el, sizeT E i.el)) i.zero vs = some cs) : OpRes P Out N w0 g0 H0 st a w o (.v (.ag cs)) st := by
  obtain ⟨z, hz, hzo, hza, _⟩ := run_zero hT hi w
  obtain ⟨len, hu, hlen⟩ := (hT t i hi).array hk
  have ⟨j, hj, hjs⟩ : ∃ j, E.ti i.el = some j ∧ j.size = sizeT E i.el := by
    unfold sizeT at hpos ⊢
    cases hj : E.ti i.el with
    | none => rw [hj] at hpos; simp at hpos
    | some j => exact ⟨j, rfl, rfl⟩
  obtain ⟨c', f1, f2, f3⟩ := fill_ok (w := w) (g := g) (Mu := MuOf Out lam st.locs g) (H := st.heap) (place' := fun f => some (f * sizeT E i.el, sizeT E i.el)) (c := z.cells) (fun k p hpk _ => hpk) hf hp hzo.1 (hzo.cs hT _ _ _ _)
  refine OpRes.same h (v := .agg c') ?_ ?_
  · unfold execOp
    have hparts : (ps.map fun (i, x) => (i, a.eval x)).toList = ps.toList.map fun (i, x) => (i, a.eval x) := by simp
    simp only [ho, Instr.build, Sem.run_bind, hz, run_underlying hu, Result.andThen_ok, run_sizeOf hT hj, hjs, hparts, f1, Sem.run_pure]
  · have : c' = c'.toList.toArray := by simp
    rw [this]
    refine .ag cs c'.toList (by simpa using f2.symm) (fun j x hx => (f3 j x hx).choose_spec.2.2) (fun j x v hx hv => ?_)
    obtain ⟨u, k1, k2, k3⟩ := f3 j x hx
    have : c'.toList[j]? = some u := by simpa using k1
    rw [this] at hv; cases hv; exact k2

end
end Go.Ex
