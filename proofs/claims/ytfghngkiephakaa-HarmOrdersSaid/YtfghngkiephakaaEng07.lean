/- The evaluator of this proof, part 07. -/
import Derived.Test.YtfghngkiephakaaEng06
import Derived.MapKept
set_option linter.unnecessarySimpa false
set_option linter.unusedVariables false
set_option linter.unusedSimpArgs false
set_option linter.unusedSectionVars false
set_option linter.deprecated false
/- What is known of the types; reading and writing memory. -/
set_option autoImplicit false
set_option linter.unusedVariables false
set_option linter.unusedSectionVars false
namespace Go.Ex
open Go.RowKit

def ZeroOK (z : Value) (zs : List AV) : Prop := z.cells.size = zs.length ∧ ∀ (j : Nat) (x : AV), zs[j]? = some x → ∃ v n, z.cells[j]? = some v ∧ ofConst n v = some x ∧ isCell x

structure TiOK (P : Program) (t : Nat) (i : TI) : Prop where
  info : ∃ inf z, P.info? t = some inf ∧ inf.size = i.size ∧ inf.bytes = i.bytes ∧ inf.zero = some z ∧ ZeroOK z i.zero ∧ i.zero.length = i.size ∧ ((i.kind = 1 ∨ i.kind = 2) → ∃ cs, z = .agg cs) ∧ (i.kind ≠ 1 → i.kind ≠ 2 → z.cells = #[z] ∧ i.size = 1)
  struct : i.kind = 1 → ∃ fs : Array Field, P.underlying t = some (.struct fs) ∧ (∀ (f off ft : Nat), i.flds[f]? = some (off, ft) → ∃ fl : Field, fs[f]? = some fl ∧ fl.offset = off ∧ fl.type = ft) ∧ ∀ fl ∈ fs, ∃ inf, P.info? fl.type = some inf
  array : i.kind = 2 → ∃ len : Nat, P.underlying t = some (.array len i.el) ∧ len * P.cellsOf i.el = i.size
  slice : i.kind = 3 → P.underlying t = some (.slice i.el)
  map : i.kind = 4 → ∃ kk kt : Nat, P.underlying t = some (.map kt i.el) ∧ i.flds = [(kk, kt)] ∧ (kk = 5 → ∃ k, P.underlying kt = some (.int k)) ∧ (kk = 6 → P.underlying kt = some .bool) ∧ (kk = 7 → P.underlying kt = some .string)
  int : i.kind = 5 → P.underlying t = some (.int i.ik)
  string : i.kind = 7 → P.underlying t = some .string
  bool : i.kind = 6 → P.underlying t = some .bool
  ptr : i.kind = 8 → ∃ e, P.underlying t = some (.pointer e)
  other : i.kind ≠ 1 → i.kind ≠ 2 → ∃ d, P.underlying t = some d ∧ (∀ fs, d ≠ .struct fs) ∧ ∀ n e, d ≠ .array n e
  cmp : i.cmp = true → ∀ (w : World) (xs ys : Array Value) (cs ds : List AV) (c : Bool), xs.size = cs.length → ys.size = ds.length → (∀ (j : Nat) (x : AV), cs[j]? = some x → ∀ v, xs[j]? = some v → VR (fun _ => False) w [] [] x v) →
    (∀ (j : Nat) (x : AV), ds[j]? = some x → ∀ v, ys[j]? = some v → VR (fun _ => False) w [] [] x v) → sameK i.zero cs = true → sameK i.zero ds = true → cellsEq cs ds = some c →
    (Op.equal t (.agg xs) (.agg ys)).run P w = .ok c w ∧ P.eqGuardType P.depth t = false

theorem add_eq (b o j : Nat) : (⟨b, o, none⟩ : Addr).add j = ⟨b, o + j, none⟩ := by unfold Addr.add; split <;> simp_all
theorem add_eq' (ad : Addr) (j : Nat) (h : ad.spot = none) : ad.add j = ⟨ad.block, ad.off + j, none⟩ := by
  cases ad; simp only at h; subst h; exact add_eq _ _ _

section
variable {P : Program} {E : EP} (hT : ∀ t i, E.ti t = some i → TiOK P t i)
include hT

theorem run_sizeOf {t : Nat} {i : TI} (hi : E.ti t = some i) (w : World) : (sizeOf t).run P w = .ok i.size w := by
  obtain ⟨inf, z, h1, h2, _⟩ := (hT t i hi).info
  simp [sizeOf, typeInfo, h1, h2]
theorem run_typeInfo {t : Nat} {i : TI} (hi : E.ti t = some i) (w : World) : ∃ inf, (typeInfo t).run P w = .ok inf w ∧ inf.size = i.size ∧ inf.bytes = i.bytes := by
  obtain ⟨inf, z, h1, h2, h3, _⟩ := (hT t i hi).info
  exact ⟨inf, by simp [typeInfo, h1], h2, h3⟩
theorem run_zero {t : Nat} {i : TI} (hi : E.ti t = some i) (w : World) : ∃ z, (zeroValue t).run P w = .ok z w ∧ ZeroOK z i.zero ∧ ((i.kind = 1 ∨ i.kind = 2) → ∃ cs, z = .agg cs) ∧ (i.kind ≠ 1 → i.kind ≠ 2 → z.cells = #[z]) := by
  obtain ⟨inf, z, h1, h2, h3, h4, h5, h6, h7, h8⟩ := (hT t i hi).info
  exact ⟨z, by simp [zeroValue, typeInfo, h1, h4], h5, h7, fun a b => (h8 a b).1⟩
theorem zero_len {t : Nat} {i : TI} (hi : E.ti t = some i) : i.zero.length = i.size := by
  obtain ⟨inf, z, h1, h2, h3, h4, h5, h6, _⟩ := (hT t i hi).info
  exact h6
theorem cellsOf_ti {t : Nat} {i : TI} (hi : E.ti t = some i) : P.cellsOf t = i.size := by
  obtain ⟨inf, z, h1, h2, _⟩ := (hT t i hi).info
  simp [Program.cellsOf, h1, h2]

theorem run_isAgg {t : Nat} {i : TI} (hi : E.ti t = some i) (w : World) : (isAgg t).run P w = .ok (Nat.beq i.kind 1 || Nat.beq i.kind 2) w := by
  by_cases h1 : i.kind = 1
  · obtain ⟨fs, h2, _⟩ := (hT t i hi).struct h1
    simp [isAgg, run_underlying h2, h1]
  · by_cases h2 : i.kind = 2
    · obtain ⟨n, h3, _⟩ := (hT t i hi).array h2
      simp [isAgg, run_underlying h3, h2]
    · obtain ⟨d, h3, h4, h5⟩ := (hT t i hi).other h1 h2
      rw [nbF h1, nbF h2]
      unfold isAgg
      simp only [Sem.run_bind, run_underlying h3, Result.andThen_ok]
      cases d <;> first | rfl | exact absurd rfl (h4 _) | exact absurd rfl (h5 _ _)

theorem ZeroOK.cs {z : Value} {zs : List AV} (h : ZeroOK z zs) (Mu : Nat → Prop) (w : World) (H : List OB) (g : List (Option Nat)) : Cs (VR Mu w H g) zs (fun j => z.cells[j]?) := fun j x hx => by
  obtain ⟨v, n, h1, h2, h3⟩ := h.2 j x hx
  exact ⟨v, h1, ofConst_VR h2, h3⟩

theorem partA_some {t : Nat} {cs : List AV} {off : Nat} {y : AV} (h : partA E t cs off = some y) : ∃ i, E.ti t = some i ∧
    (((i.kind = 1 ∨ i.kind = 2) ∧ off + i.size ≤ cs.length ∧ y = .ag ((cs.drop off).take i.size)) ∨ (i.kind ≠ 1 ∧ i.kind ≠ 2 ∧ cs[off]? = some y)) := by
  unfold partA at h
  cases hi : E.ti t with
  | none => simp [hi] at h
  | some i =>
    refine ⟨i, rfl, ?_⟩
    simp only [hi] at h
    have hag : (bif Nat.ble (off + i.size) cs.length then some (AV.ag (takeN (dropN cs off) i.size)) else none) = some y → off + i.size ≤ cs.length ∧ y = .ag ((cs.drop off).take i.size) := by
      intro h
      cases hb : Nat.ble (off + i.size) cs.length with
      | false => rw [hb] at h; cases h
      | true =>
        rw [hb] at h
        rw [Nat.ble_eq] at hb
        refine ⟨hb, ?_⟩
        rw [← Option.some.inj h, takeN_eq, dropN_eq]
    split at h
    · rename_i hk; exact Or.inl ⟨Or.inl hk, hag h⟩
    · rename_i hk; exact Or.inl ⟨Or.inr hk, hag h⟩
    · rename_i h1 h2; rw [nth_eq] at h; exact Or.inr ⟨h1, h2, h⟩

/-- a load of what lies in known cells -/
theorem load_part {Mu : Nat → Prop} {w : World} {H : List OB} {g : List (Option Nat)} {t b base off : Nat} {cs : List AV} {y : AV} (hc : Cs (VR Mu w H g) cs (fun j => w.cell? ⟨b, base + j, none⟩)) (hp : partA E t cs off = some y) :
    ∃ v, (loadVar t ⟨b, base + off, none⟩).run P w = .ok v w ∧ VR Mu w H g y v := by
  obtain ⟨i, hi, hh⟩ := partA_some hT hp
  rcases hh with ⟨hk, hle, rfl⟩ | ⟨hk1, hk2, hy⟩
  · have hf : ∀ j, j < i.size → ∃ x v, cs[off + j]? = some x ∧ w.cell? ⟨b, base + (off + j), none⟩ = some v ∧ VR Mu w H g x v ∧ isCell x := by
      intro j hj
      have hlt : off + j < cs.length := by omega
      obtain ⟨v, h1, h2, h3⟩ := hc (off + j) cs[off + j] (List.getElem?_eq_getElem hlt)
      exact ⟨_, v, List.getElem?_eq_getElem hlt, h1, h2, h3⟩
    have hl := run_loadCells (P := P) w ⟨b, base + off, none⟩ i.size (fun j => (w.cell? ⟨b, base + (off + j), none⟩).getD undef) (fun j hj => by
      obtain ⟨x, v, h1, h2, h3⟩ := hf j hj
      rw [add_eq, Nat.add_assoc, h2]; rfl)
    refine ⟨.agg ((List.range i.size).map fun j => (w.cell? ⟨b, base + (off + j), none⟩).getD undef).toArray, ?_, ?_⟩
    · unfold loadVar
      have hb : (Nat.beq i.kind 1 || Nat.beq i.kind 2) = true := by rcases hk with hk | hk <;> rw [hk] <;> rfl
      simp [run_isAgg hT hi, hb, run_sizeOf hT hi, hl]
    · refine .ag _ _ ?_ ?_ ?_
      · simp; omega
      · intro j x hx
        have hj : j < i.size := by
          rcases Nat.lt_or_ge j i.size with h | h
          · exact h
          · rw [List.getElem?_take, if_neg (by omega)] at hx; cases hx
        rw [List.getElem?_take, if_pos hj, List.getElem?_drop] at hx
        obtain ⟨x', v, h1, h2, h3, h4⟩ := hf j hj
        rw [hx] at h1; cases h1; exact h4
      · intro j x v hx hv
        have hj : j < i.size := by
          rcases Nat.lt_or_ge j i.size with h | h
          · exact h
          · rw [List.getElem?_take, if_neg (by omega)] at hx; cases hx
        rw [List.getElem?_take, if_pos hj, List.getElem?_drop] at hx
        obtain ⟨x', u, h1, h2, h3, h4⟩ := hf j hj
        rw [hx] at h1; cases h1
        simp only [List.getElem?_map, List.getElem?_range hj, Option.map_some, Option.some.injEq] at hv
        rw [← hv, h2]; exact h3
  · obtain ⟨v, h1, h2, h3⟩ := hc off y hy
    refine ⟨v, ?_, h2⟩
    unfold loadVar
    have hb : (Nat.beq i.kind 1 || Nat.beq i.kind 2) = false := by rw [nbF hk1, nbF hk2]; rfl
    simp only [Sem.run_bind, run_isAgg hT hi, hb, Result.andThen_ok]
    simp [h1]

omit hT in
theorem VR.lift {Mu : Nat → Prop} {w : World} {x : AV} {v : Value} (h : VR Mu w [] [] x v) (H : List OB) (g : List (Option Nat)) : VR Mu w H g x v :=
  VR.mono (fun b _ hm => ⟨hm, rfl⟩) h (fun o ob ho => by simp at ho)

omit hT in
theorem cell_of_heap {w : World} {b o : Nat} {c : Array Value} {e : TypeId} {fr : Nat × Nat} (h : w.heap[b]? = some (.cells c e fr)) : w.cell? ⟨b, o, none⟩ = c[o]? := by simp [World.cell?, h]

variable {Out : Nat → Prop} {N : Nat} {w0 : World} {g0 : List (Option Nat)} {H0 : List OB} {lam : Nat → Nat} {g : List (Option Nat)} {st : St} {a : Act} {w : World}

/-- a load -/
theorem load_ok (h : FR Out N w0 g0 H0 lam g st a w) {t : Nat} {p : TV} {pv : Value} (hp : TR (MuOf Out lam st.locs g) w st.heap g lam p pv) {y : AV} (hl : loadAt E t st p = some y) :
    ∃ v, (Instr.loadAt t pv).run P w = .ok v w ∧ VR (MuOf Out lam st.locs g) w st.heap g y v := by
  unfold loadAt at hl
  split at hl
  · rename_i l off
    cases hc : alook st.locs l with
    | none => simp [hc] at hl
    | some cs =>
      simp only [hc] at hl
      simp only [TR] at hp
      obtain ⟨c, e, h1, h2, h3⟩ := h.locs l cs hc
      have hcs : Cs (VR (MuOf Out lam st.locs g) w st.heap g) cs (fun j => w.cell? ⟨lam l, 0 + j, none⟩) := fun j x hx => by
        obtain ⟨v, a1, a2, a3⟩ := h3 j x hx
        exact ⟨v, by show w.cell? ⟨lam l, 0 + j, none⟩ = some v; rw [cell_of_heap h1, Nat.zero_add]; exact a1, a2, a3⟩
      obtain ⟨v, hv1, hv2⟩ := load_part hT hcs hl
      rw [Nat.zero_add] at hv1
      exact ⟨v, by rw [hp]; simp [Instr.loadAt, Instr.sureAddr, hv1], hv2⟩
  · rename_i cs off
    simp only [TR] at hp
    cases hp with
    | ep _ _ b base c hc hcell hh =>
      have hcs : Cs (VR (MuOf Out lam st.locs g) w st.heap g) cs (fun j => w.cell? ⟨b, base + j, none⟩) := fun j x hx => ⟨c j, (hcell j x hx).1, (hh j x hx).lift _ _, hc j x hx⟩
      obtain ⟨v, hv1, hv2⟩ := load_part hT hcs hl
      exact ⟨v, by simp [Instr.loadAt, Instr.sureAddr, hv1], hv2⟩
  · rename_i o n tot row off
    simp only [TR] at hp
    split at hl
    · rename_i m rows grow lvl ho
      cases hb : (Nat.beq m n && Nat.beq rows.length tot) with
      | false => rw [hb] at hl; cases hl
      | true =>
        rw [hb] at hl
        simp only [cond_true] at hl
        simp only [Bool.and_eq_true] at hb
        have e1 : m = n := Nat.eq_of_beq_eq_true hb.1
        have e2 : rows.length = tot := Nat.eq_of_beq_eq_true hb.2
        subst e1
        cases hr : rows[row]? with
        | none => simp [hr] at hl
        | some cs =>
          simp only [hr] at hl
          cases hp with
          | hp _ _ _ _ _ rows' grow' lvl' ad ho' ht' hv' =>
            rw [ho] at ho'
            simp only [Option.some.injEq, OB.arr.injEq, true_and] at ho'
            obtain ⟨rfl, rfl, rfl⟩ := ho'
            obtain ⟨b, hgb, rfl⟩ := hv' e2
            have hob := h.heap.obj o _ ho
            obtain ⟨hrow, hcells⟩ := hob
            rcases hcells with ⟨h0, _⟩ | ⟨b', c, e, hg', hbk, hsz, hn, hcs⟩
            · subst h0; simp at hr
            · rw [hgb] at hg'; cases hg'
              have hcs2 : Cs (VR (MuOf Out lam st.locs g) w st.heap g) cs (fun j => w.cell? ⟨b, row * m + j, none⟩) := fun j x hx => by
                obtain ⟨v, a1, a2, a3⟩ := hcs row cs hr j x hx
                exact ⟨v, by show w.cell? ⟨b, row * m + j, none⟩ = some v; rw [cell_of_heap hbk]; exact a1, a2, a3⟩
              obtain ⟨v, hv1, hv2⟩ := load_part hT hcs2 hl
              exact ⟨v, by simp [Instr.loadAt, Instr.sureAddr, hv1], hv2⟩
    · cases hl
  · cases hl

end
end Go.Ex
/- Writing memory. -/
set_option autoImplicit false
set_option linter.unusedVariables false
set_option linter.unusedSectionVars false
namespace Go.Ex
open Go.RowKit

theorem splice_get {α : Type} (l vs : List α) (o j : Nat) (h : o + vs.length ≤ l.length) :
    (l.take o ++ vs ++ l.drop (o + vs.length))[j]? = if o ≤ j ∧ j < o + vs.length then vs[j - o]? else l[j]? := by
  have ht : (l.take o).length = o := by simp; omega
  by_cases h1 : j < o
  · rw [if_neg (by omega), List.append_assoc, List.getElem?_append_left (by omega), List.getElem?_take, if_pos h1]
  · by_cases h2 : j < o + vs.length
    · rw [if_pos ⟨by omega, h2⟩, List.append_assoc, List.getElem?_append_right (by omega), ht, List.getElem?_append_left (by omega)]
    · rw [if_neg (by omega), List.getElem?_append_right (by simp; omega), List.getElem?_drop]
      simp only [List.length_append, ht]
      congr 1; omega

theorem oneCell_of {v : Value} (h : plainV v) : v.oneCell' = true := by cases v <;> first | rfl | exact h.elim

theorem toArray_get {α : Type} (l : List α) (j : Nat) : l.toArray[j]? = l[j]? := by simp

theorem idx_apart {i row n j off m : Nat} (hi : i ≠ row) (hj : j < n) (ho : off + m ≤ n) : ¬ (row * n + off ≤ i * n + j ∧ i * n + j < row * n + off + m) := by
  rintro ⟨h1, h2⟩
  rcases Nat.lt_or_gt_of_ne hi with h | h
  · have : (i + 1) * n ≤ row * n := Nat.mul_le_mul_right n h
    rw [Nat.succ_mul] at this; omega
  · have : (row + 1) * n ≤ i * n := Nat.mul_le_mul_right n h
    rw [Nat.succ_mul] at this; omega

section
variable {P : Program} {E : EP} (hT : ∀ t i, E.ti t = some i → TiOK P t i)
variable {Out : Nat → Prop} {N : Nat} {w0 : World} {g0 : List (Option Nat)} {H0 : List OB} {lam : Nat → Nat} {g : List (Option Nat)} {st : St} {a : Act} {w : World}

/-- a store's run: the block's cells spliced -/
theorem run_storeVar_splice {Mu : Nat → Prop} {H : List OB} (hT : ∀ t i, E.ti t = some i → TiOK P t i) {t : Nat} {y : AV} {v : Value} (hv : VR Mu w H g y v) (hn : (cellsOf y).length = sizeT E t) (hp : 0 < (cellsOf y).length)
    {b o : Nat} {c : Array Value} {e : TypeId} (hb : w.heap[b]? = some (.cells c e (0, 0))) (hle : o + (cellsOf y).length ≤ c.size) :
    (storeVar t ⟨b, o, none⟩ v).run P w = .ok () (w.setRow b (c.toList.take o ++ v.cells.toList ++ c.toList.drop (o + v.cells.toList.length)).toArray) := by
  obtain ⟨hsz, hcs⟩ := hv.cells hp
  have ⟨i, hi, hs⟩ : ∃ i, E.ti t = some i ∧ i.size = (cellsOf y).length := by
    unfold sizeT at hn
    cases hi : E.ti t with
    | none => rw [hi] at hn; simp only at hn; omega
    | some i => rw [hi] at hn; exact ⟨i, rfl, hn.symm⟩
  have hone : ∀ u ∈ v.cells.toList, u.oneCell' = true := by
    intro u hu
    obtain ⟨j, hj, rfl⟩ := List.mem_iff_getElem.1 hu
    have hj' : j < (cellsOf y).length := by rw [← hsz]; simpa using hj
    obtain ⟨u', h1, h2, h3⟩ := hcs j (cellsOf y)[j] (List.getElem?_eq_getElem hj')
    have : v.cells.toList[j] = u' := by
      have h4 : v.cells[j]? = some v.cells.toList[j] := by simp at hj; simp [hj]
      have h1' : v.cells[j]? = some u' := h1
      rw [h1'] at h4; exact (Option.some.inj h4).symm
    rw [this]; exact oneCell_of (h2.plainV h3)
  have := run_storeCells_at P b o e v.cells.toList 0 c w hb (by simp; omega) hone
  unfold storeVar
  simp only [Sem.run_bind, run_sizeOf hT hi, Result.andThen_ok]
  rw [if_neg (by rw [hsz, hs]; simp)]
  simp only [Nat.add_zero] at this
  exact this

theorem splice_cs {R : AV → Value → Prop} {cs cs' : List AV} {off base : Nat} {y : AV} {v : Value} {c : Array Value} (hc : Cs R cs (fun j => c[base + j]?)) (hl : lay cs off (cellsOf y) = some cs')
    (hsz : v.cells.size = (cellsOf y).length) (hv : Cs R (cellsOf y) (fun j => v.cells[j]?)) (hle : base + off + (cellsOf y).length ≤ c.size) :
    Cs R cs' (fun j => (c.toList.take (base + off) ++ v.cells.toList ++ c.toList.drop (base + off + v.cells.toList.length)).toArray[base + j]?) := by
  obtain ⟨hl1, hl2, hl3⟩ := lay_spec hl
  intro j x hx
  rw [hl3 j] at hx
  have hs : v.cells.toList.length = (cellsOf y).length := by simpa using hsz
  show ∃ u, (c.toList.take (base + off) ++ v.cells.toList ++ c.toList.drop (base + off + v.cells.toList.length)).toArray[base + j]? = some u ∧ _
  rw [toArray_get, splice_get _ _ _ _ (by rw [hs]; simpa using hle), hs]
  by_cases hj : off ≤ j ∧ j < off + (cellsOf y).length
  · rw [if_pos hj] at hx
    rw [if_pos (by omega)]
    obtain ⟨u, h1, h2, h3⟩ := hv _ x hx
    refine ⟨u, ?_, h2, h3⟩
    have : base + j - (base + off) = j - off := by omega
    rw [this]
    simpa using h1
  · rw [if_neg hj] at hx
    rw [if_neg (by omega)]
    obtain ⟨u, h1, h2, h3⟩ := hc j x hx
    exact ⟨u, by simpa using h1, h2, h3⟩

theorem levs_lay {l : Nat} {cs cs' ys : List AV} {off : Nat} (hl : lay cs off ys = some cs') (h1 : lev.levs cs ≤ l) (h2 : lev.levs ys ≤ l) : lev.levs cs' ≤ l := by
  obtain ⟨a1, a2, a3⟩ := lay_spec hl
  refine le_levs fun x hx => ?_
  obtain ⟨j, hj⟩ := List.mem_iff_getElem?.1 hx
  rw [a3 j] at hj
  split at hj
  · exact levs_le h2 x (List.mem_of_getElem? hj)
  · exact levs_le h1 x (List.mem_of_getElem? hj)

theorem levs_cellsOf (y : AV) : lev.levs (cellsOf y) ≤ lev y := by
  cases y <;> simp [cellsOf, lev, lev.levs]

/-- a store -/
theorem store_ok (hT : ∀ t i, E.ti t = some i → TiOK P t i) (h : FR Out N w0 g0 H0 lam g st a w) {t : Nat} {p : TV} {pv : Value} (hp : TR (MuOf Out lam st.locs g) w st.heap g lam p pv) {y : AV} {v : Value}
    (hv : VR (MuOf Out lam st.locs g) w st.heap g y v) {st' : St} (hs : storeAt E t st y p = some st') :
    ∃ w', (Instr.storeAt t pv v).run P w = .ok () w' ∧ FR Out N w0 g0 H0 lam g st' a w' ∧ st'.vals = st.vals ∧ st'.tl = st.tl := by
  unfold storeAt at hs
  split at hs
  · rename_i l off
    cases hc : alook st.locs l with
    | none => simp [hc] at hs
    | some cs =>
      simp only [hc] at hs
      cases hb : (Nat.beq (cellsOf y).length (sizeT E t) && Nat.blt 0 (sizeT E t)) with
      | false => rw [hb] at hs; cases hs
      | true =>
        rw [hb] at hs
        simp only [cond_true] at hs
        simp only [Bool.and_eq_true] at hb
        have hn : (cellsOf y).length = sizeT E t := Nat.eq_of_beq_eq_true hb.1
        have hpos : 0 < (cellsOf y).length := by rw [hn]; have := hb.2; unfold Nat.blt at this; rw [Nat.ble_eq] at this; omega
        cases hl : lay cs off (cellsOf y) with
        | none => simp [hl] at hs
        | some cs' =>
          simp only [hl, Option.some.injEq] at hs
          subst hs
          obtain ⟨hl1, hl2, hl3⟩ := lay_spec hl
          simp only [TR] at hp
          obtain ⟨c, e, h1, h2, h3⟩ := h.locs l cs hc
          have hle : off + (cellsOf y).length ≤ c.size := by
            rw [h2]
            have : cellsOf y ≠ [] := fun e => by rw [e] at hpos; simp at hpos
            rw [if_neg this] at hl2; omega
          have hrun := run_storeVar_splice hT hv hn hpos h1 hle
          obtain ⟨hsz, hcv⟩ := hv.cells hpos
          refine ⟨_, ?_, h.setLoc (cs' := cs') (c' := (c.toList.take off ++ v.cells.toList ++ c.toList.drop (off + v.cells.toList.length)).toArray) hc ?_ hl1 ?_, rfl, rfl⟩
          · rw [hp]; simp only [Instr.storeAt, Instr.sureAddr, Sem.run_bind, Sem.run_pure, Result.andThen_ok]; exact hrun
          · simp; omega
          · have := splice_cs (base := 0) (R := VR (MuOf Out lam st.locs g) w st.heap g) (c := c) (cs := cs) (off := off) (y := y) (v := v) (by simpa using h3) hl hsz hcv (by omega)
            simpa using this
  · rename_i o n tot row off
    simp only [TR] at hp
    split at hs
    · rename_i m rows grow lvl ho
      cases hb : (Nat.beq m n && Nat.beq rows.length tot && Nat.beq (cellsOf y).length (sizeT E t) && Nat.blt 0 (sizeT E t)) with
      | false => rw [hb] at hs; cases hs
      | true =>
        rw [hb] at hs
        simp only [cond_true] at hs
        simp only [Bool.and_eq_true] at hb
        obtain ⟨⟨⟨b1, b2⟩, b3⟩, b4⟩ := hb
        have e1 : m = n := Nat.eq_of_beq_eq_true b1
        have e2 : rows.length = tot := Nat.eq_of_beq_eq_true b2
        have hn : (cellsOf y).length = sizeT E t := Nat.eq_of_beq_eq_true b3
        have hpos : 0 < (cellsOf y).length := by rw [hn]; unfold Nat.blt at b4; rw [Nat.ble_eq] at b4; omega
        subst e1
        cases hr : rows[row]? with
        | none => simp [hr] at hs
        | some cs =>
          simp only [hr] at hs
          cases hl : lay cs off (cellsOf y) with
          | none => simp [hl] at hs
          | some cs' =>
            simp only [hl, Option.some.injEq] at hs
            subst hs
            obtain ⟨hl1, hl2, hl3⟩ := lay_spec hl
            cases hp with
            | hp _ _ _ _ _ rows' grow' lvl' ad ho' ht' hv' =>
              rw [ho] at ho'
              simp only [Option.some.injEq, OB.arr.injEq, true_and] at ho'
              obtain ⟨rfl, rfl, rfl⟩ := ho'
              obtain ⟨b, hgb, rfl⟩ := hv' e2
              obtain ⟨hrow, hcells⟩ := h.heap.obj o _ ho
              rcases hcells with ⟨h0, _⟩ | ⟨b', c, e, hg', hbk, hsz, hn0, hcs⟩
              · subst h0; simp at hr
              · rw [hgb] at hg'; cases hg'
                have hrl : cs.length = m := (hrow row cs hr).1
                have hro : row < rows.length := (List.getElem?_eq_some_iff.1 hr).1
                have hoff : off + (cellsOf y).length ≤ m := by
                  have : cellsOf y ≠ [] := fun e => by rw [e] at hpos; simp at hpos
                  rw [if_neg this] at hl2; omega
                have hmul : (row + 1) * m ≤ rows.length * m := Nat.mul_le_mul_right m hro
                rw [Nat.succ_mul] at hmul
                have hle : row * m + off + (cellsOf y).length ≤ c.size := by omega
                have hrun := run_storeVar_splice hT hv hn hpos hbk hle
                obtain ⟨hsz', hcv⟩ := hv.cells hpos
                have hvl : v.cells.toList.length = (cellsOf y).length := by simpa using hsz'
                obtain ⟨hf, _⟩ := h.setOb (w' := w.setRow b (c.toList.take (row * m + off) ++ v.cells.toList ++ c.toList.drop (row * m + off + v.cells.toList.length)).toArray) (ob' := .arr m (rows.set row cs') grow (Nat.max lvl (lev y))) ho hgb
                  rfl rfl rfl setRow_size (fun b' hb' => setRow_block hb')
                  ⟨rfl, rfl, by simp, fun _ => ⟨rfl, fun b2 hb2 => by
                    rw [hgb] at hb2; cases hb2
                    have hx := Go.setRow_heap w b c (c.toList.take (row * m + off) ++ v.cells.toList ++ c.toList.drop (row * m + off + v.cells.toList.length)).toArray e _ hbk
                    unfold bsize
                    rw [hx, hbk]
                    simp; omega⟩⟩
                  (fun hr' => ⟨fun i r hi => by
                      rcases getElem?_set_cases hi with ⟨_, rfl, _⟩ | ⟨_, h2⟩
                      · exact ⟨by rw [hl1]; exact hrl, levs_lay hl (Nat.le_trans (hrow row cs hr).2 (Nat.le_max_left _ _)) (Nat.le_trans (levs_cellsOf y) (Nat.le_max_right _ _))⟩
                      · exact ⟨(hrow i r h2).1, Nat.le_trans (hrow i r h2).2 (Nat.le_max_left _ _)⟩,
                    Or.inr ⟨b, (c.toList.take (row * m + off) ++ v.cells.toList ++ c.toList.drop (row * m + off + v.cells.toList.length)).toArray, e, hgb, Go.setRow_heap w b c _ e _ hbk, by simp; omega, hn0, fun i r hi => by
                      rcases getElem?_set_cases hi with ⟨e1, rfl, _⟩ | ⟨hne, h2⟩
                      · subst e1
                        exact (splice_cs (R := VR (MuOf Out lam st.locs g) w st.heap g) (hcs row cs hr) hl hsz' hcv hle).mono hr'
                      · intro j x hx
                        obtain ⟨u, q1, q2, q3⟩ := hcs i r h2 j x hx
                        refine ⟨u, ?_, hr' _ _ q2, q3⟩
                        have hjm : j < m := by rw [← (hrow i r h2).1]; exact (List.getElem?_eq_some_iff.1 hx).1
                        show (c.toList.take (row * m + off) ++ v.cells.toList ++ c.toList.drop (row * m + off + v.cells.toList.length)).toArray[i * m + j]? = some u
                        rw [toArray_get, splice_get _ _ _ _ (by rw [hvl]; simpa using hle), hvl, if_neg (idx_apart (fun e => hne e.symm) hjm hoff)]
                        simpa using q1⟩⟩)
                exact ⟨_, by simp only [Instr.storeAt, Instr.sureAddr, Sem.run_bind, Sem.run_pure, Result.andThen_ok]; exact hrun, hf, rfl, rfl⟩
    · cases hs
  · cases hs
end
end Go.Ex
/- The operations that only compute. -/
set_option autoImplicit false
set_option linter.unusedVariables false
set_option linter.unusedSectionVars false
namespace Go.Ex
open Go.RowKit

section
variable (P : Program) (Out : Nat → Prop) (N : Nat) (w0 : World) (g0 : List (Option Nat)) (H0 : List OB) (st : St) (a : Act) (w : World)

/-- what an operation comes to -/
def OpRes (o : Oper) (x : TV) (st' : St) : Prop :=
  ∃ (n : Next) (v : Value) (w' : World) (lam' : Nat → Nat) (g' : List (Option Nat)), (execOp a.eval o).run P w = .ok n w' ∧ (n = .value v ∨ (n = .skip ∧ v = undef)) ∧
    TR (MuOf Out lam' st'.locs g') w' st'.heap g' lam' x v ∧ FR Out N w0 g0 H0 lam' g' st' a w' ∧ (∀ e, e ∈ st'.tl → e ∈ st.tl) ∧ (∀ e, e ∈ st'.vals → e ∈ st.vals)
end

section
variable {P : Program} {E : EP} (hT : ∀ t i, E.ti t = some i → TiOK P t i)
variable {Out : Nat → Prop} {N : Nat} {w0 : World} {g0 : List (Option Nat)} {H0 : List OB} {lam : Nat → Nat} {g : List (Option Nat)} {st : St} {a : Act} {w : World} {o : Oper}

theorem OpRes.same (h : FR Out N w0 g0 H0 lam g st a w) {x : TV} {v : Value} (hr : (execOp a.eval o).run P w = .ok (.value v) w) (hx : TR (MuOf Out lam st.locs g) w st.heap g lam x v) : OpRes P Out N w0 g0 H0 st a w o x st :=
  ⟨_, v, w, lam, g, hr, Or.inl rfl, hx, h, fun _ h => h, fun _ h => h⟩

/-- memory of its own was made that nobody else is told of -/
theorem OpRes.grown (h : FR Out N w0 g0 H0 lam g st a w) {x : AV} {v : Value} {w' : World} (hg : Grow w w') (hr : (execOp a.eval o).run P w = .ok (.value v) w') (hx : VR (MuOf Out lam st.locs g) w' st.heap g x v) : OpRes P Out N w0 g0 H0 st a w o (.v x) st :=
  ⟨_, v, w', lam, g, hr, Or.inl rfl, hx, h.grow hg, fun _ h => h, fun _ h => h⟩

theorem eval_const (a : Act) (v : Value) : a.eval (.const v) = v := rfl

theorem op_move (h : FR Out N w0 g0 H0 lam g st a w) {gd : Gd} (hm : Met a gd) {x : Operand} (ho : o.op = .move x ∨ o.op = .assign x) {ty : Nat} {v : TV} (hx : getP E ty gd st x = some v) : OpRes P Out N w0 g0 H0 st a w o v st := by
  refine OpRes.same h (v := a.eval x) ?_ (h.getP hm hx)
  rcases ho with ho | ho <;> (unfold execOp; rw [ho]; rfl)

theorem op_nilCheck (h : FR Out N w0 g0 H0 lam g st a w) {x : Operand} (ho : o.op = .nilCheck x) {p : TV} (hx : TR (MuOf Out lam st.locs g) w st.heap g lam p (a.eval x))
    (hp : (∃ l off, p = .p l off) ∨ (∃ o n tot row off, p = .v (.hp o n tot row off)) ∨ (∃ cs off, p = .v (.ep cs off)) ∨ ∃ f cs, p = .v (.fn f cs)) : OpRes P Out N w0 g0 H0 st a w o p st := by
  refine OpRes.same h (v := a.eval x) ?_ hx
  unfold execOp
  simp only [ho]
  generalize a.eval x = v at hx
  rcases hp with ⟨l, off, rfl⟩ | ⟨o', n, tot, row, off, rfl⟩ | ⟨cs, off, rfl⟩ | ⟨f, cs, rfl⟩
  · simp only [TR] at hx; subst hx; rfl
  · simp only [TR] at hx; cases hx; rfl
  · simp only [TR] at hx; cases hx; rfl
  · simp only [TR] at hx; cases hx; rfl

theorem intBin_run {op : BinOp} {k : IntKind} {x y : Int} {z : AV} (h : intBin op k x y = some z) (hs : op ≠ .shl) (hs2 : op ≠ .shr) (t : TypeId) {Mu : Nat → Prop} {H : List OB} : ∃ v, (Go.binOp op t (.int k x) (.int k y)).run P w = .ok v w ∧ VR Mu w H g z v := by
  cases op <;> simp only [intBin, Option.some.injEq] at h <;> try (first | exact (hs rfl).elim | exact (hs2 rfl).elim | (cases h; done))
  case quo =>
    split at h
    · cases h
    · rename_i hy; simp only [Option.some.injEq] at h; subst h
      exact ⟨_, by simp [Go.binOp, Op.intDiv, hy], .i _ _⟩
  case rem =>
    split at h
    · cases h
    · rename_i hy; simp only [Option.some.injEq] at h; subst h
      exact ⟨_, by simp [Go.binOp, Op.intDiv, hy], .i _ _⟩
  all_goals (subst h; first
    | (refine ⟨.int k _, ?_, .i _ _⟩; simp only [Go.binOp, ne_eq, not_true_eq_false, if_false]; rfl)
    | (refine ⟨.bool _, ?_, .b _⟩; simp only [Go.binOp, ne_eq, not_true_eq_false, if_false]; rfl))

theorem ltBytes_eq : ∀ x y, ltBytes x y = Op.bytesLess x y
  | x, [] => by cases x <;> rfl
  | [], _ :: _ => rfl
  | a :: x, b :: y => by simp [ltBytes, Op.bytesLess, ltBytes_eq x y]

theorem strBin_run {op : BinOp} {x y : ByteArray} {z : AV} (h : strBin op x y = some z) (t : TypeId) {Mu : Nat → Prop} {H : List OB} : ∃ v, (Go.binOp op t (.string x) (.string y)).run P w = .ok v w ∧ VR Mu w H g z v := by
  cases op <;> simp only [strBin, Option.some.injEq] at h <;> try (cases h; done)
  case add =>
    cases hb : Nat.ble (x.size + y.size) 140737488355328 with
    | false => rw [hb] at h; cases h
    | true =>
      rw [hb] at h
      simp only [cond_true, Option.some.injEq] at h
      subst h
      rw [Nat.ble_eq] at hb
      refine ⟨.string (x ++ y), ?_, .s _⟩
      simp only [Go.binOp, Op.stringOp]
      rw [if_neg (by simp [IntKind.max, IntKind.signed, IntKind.bits]; omega)]
      rfl
  all_goals (subst h; refine ⟨.bool _, ?_, .b _⟩; simp only [Go.binOp, ltBytes_eq]; rfl)

theorem cellsEq_scal : ∀ {cs ds : List AV} {c : Bool}, cellsEq cs ds = some c → (∀ x ∈ cs, lev x = 0) ∧ ∀ x ∈ ds, lev x = 0
  | [], [], c, h => ⟨fun x hx => by simp at hx, fun x hx => by simp at hx⟩
  | [], y :: ys, c, h => by simp [cellsEq] at h
  | x :: xs, [], c, h => by simp [cellsEq] at h
  | x :: xs, y :: ys, c, h => by
    simp only [cellsEq] at h
    cases h1 : cellEq x y with
    | none => simp [h1] at h
    | some b =>
      simp only [h1] at h
      cases h2 : cellsEq xs ys with
      | none => simp [h2] at h
      | some d =>
        have ih := cellsEq_scal h2
        have hxy : lev x = 0 ∧ lev y = 0 := by
          cases x <;> cases y <;> simp only [cellEq] at h1 <;> first | exact ⟨rfl, rfl⟩ | cases h1
        exact ⟨fun z hz => by rcases List.mem_cons.1 hz with rfl | hz; exact hxy.1; exact ih.1 z hz, fun z hz => by rcases List.mem_cons.1 hz with rfl | hz; exact hxy.2; exact ih.2 z hz⟩

theorem isNil_ptr {x : AV} {c : Bool} {Mu : Nat → Prop} {H : List OB} {v : Value} (h : isNil x = some c) (hv : VR Mu w H g x v) : ∃ p, v = .pointer p ∧ p.isNone = c := by
  cases x <;> simp only [isNil, Option.some.injEq] at h <;> try (cases h; done)
  · subst h; cases hv; exact ⟨none, rfl, rfl⟩
  · subst h; cases hv; exact ⟨_, rfl, rfl⟩
  · subst h; cases hv; exact ⟨_, rfl, rfl⟩

end
end Go.Ex
/- The operations that only compute, more. -/
set_option autoImplicit false
set_option linter.unusedVariables false
set_option linter.unusedSectionVars false
namespace Go.Ex
open Go.RowKit
section
variable {P : Program} {E : EP}
variable {Out : Nat → Prop} {N : Nat} {w0 : World} {g0 : List (Option Nat)} {H0 : List OB} {lam : Nat → Nat} {g : List (Option Nat)} {st : St} {a : Act} {w : World} {o : Oper}

theorem VR.scal0 {Mu : Nat → Prop} {H : List OB} {x : AV} {v : Value} (h : VR Mu w H g x v) (hl : lev x = 0) : VR (fun _ => False) w [] [] x v := h.scal hl

theorem shift_run {op : BinOp} {k l : IntKind} {x y : Int} (hop : op = .shl ∨ op = .shr) (hy : ¬ y < 0) (t : TypeId) :
    (Go.binOp op t (.int k x) (.int l y)).run P w = .ok (.int k (if op = .shl then k.wrap (x * 2 ^ (Nat.min y.toNat k.bits)) else x.fdiv (2 ^ (Nat.min y.toNat k.bits)))) w := by
  rcases hop with rfl | rfl
  · simp only [Go.binOp, Op.shift, if_neg hy, if_true]; rfl
  · simp only [Go.binOp, Op.shift, if_neg hy]; rfl

theorem eqGuard_run {op : BinOp} {t : Nat} {p q : Operand} {u v : Value} (h1 : ∀ xs ys, ¬ (u = .agg xs ∧ v = .agg ys)) (h2 : ¬ (u = .nilIface ∧ v = .nilIface)) : (eqGuard op t p q u v).run P w = .ok () w := by
  unfold eqGuard
  cases op <;> try rfl
  all_goals (cases u <;> cases v <;> first | rfl | exact (h1 _ _ ⟨rfl, rfl⟩).elim | exact (h2 ⟨rfl, rfl⟩).elim)

theorem eqRes_run {op : BinOp} {t : Nat} {c : Bool} {u v : Value} {z : AV} {Mu : Nat → Prop} {H : List OB} (hz : eqRes op c = some z) (he : (Op.equal t u v).run P w = .ok c w)
    (hb : ∀ op, op = .eql ∨ op = .neq → Go.binOp op t u v = if op = .eql then (do pure (.bool (← Op.equal t u v)) : Sem Value) else do pure (.bool (!(← Op.equal t u v)))) :
    ∃ r, (Go.binOp op t u v).run P w = .ok r w ∧ VR Mu w H g z r := by
  cases op <;> simp only [eqRes, Option.some.injEq] at hz <;> try (cases hz; done)
  · subst hz
    refine ⟨.bool c, ?_, .b _⟩
    rw [hb _ (Or.inl rfl), if_pos rfl]
    simp [he]
  · subst hz
    refine ⟨.bool (!c), ?_, .b _⟩
    rw [hb _ (Or.inr rfl), if_neg (by simp)]
    simp [he]

theorem binAV_run (hT : ∀ t i, E.ti t = some i → TiOK P t i) {op : BinOp} {t : Nat} {x y z : AV} {u v : Value} {Mu : Nat → Prop} {H : List OB} (hz : binAV E op t x y = some z) (hx : VR Mu w H g x u) (hy : VR Mu w H g y v) (p q : Operand) :
    ∃ r, (do eqGuard op t p q u v; Go.binOp op t u v : Sem Value).run P w = .ok r w ∧ VR Mu w H g z r := by
  have nil : ∀ (x : AV) (pu pv : Option Addr), nilOp E op t x = some z → (∀ c, isNil x = some c → (pv = none ∧ pu.isNone = c) ∨ (pu = none ∧ pv.isNone = c)) → u = .pointer pu → v = .pointer pv →
      ∃ r, (do eqGuard op t p q u v; Go.binOp op t u v : Sem Value).run P w = .ok r w ∧ VR Mu w H g z r := by
    intro x pu pv hz hn hu hv
    subst hu; subst hv
    unfold nilOp at hz
    cases hc : isNil x with
    | none => simp [hc] at hz
    | some c =>
      simp only [hc] at hz
      cases hk : kindIs E t 8 with
      | false => rw [hk] at hz; cases hz
      | true =>
        rw [hk] at hz
        simp only [cond_true] at hz
        unfold kindIs at hk
        cases hi : E.ti t with
        | none => simp [hi] at hk
        | some i =>
          simp only [hi] at hk
          obtain ⟨e, hu⟩ := (hT t i hi).ptr (Nat.eq_of_beq_eq_true hk)
          simp only [Sem.run_bind, eqGuard_run (P := P) (w := w) (op := op) (t := t) (p := p) (q := q) (u := .pointer pu) (v := .pointer pv) (fun _ _ h => by cases h.1) (fun h => by cases h.1), Result.andThen_ok]
          refine eqRes_run hz ?_ (fun op ho => by rcases ho with rfl | rfl <;> rfl)
          unfold Op.equal Op.maxDepth Op.equalIn
          simp only [Sem.run_bind, run_underlying hu, Result.andThen_ok]
          rcases hn c hc with ⟨rfl, h2⟩ | ⟨rfl, h2⟩
          · cases pu with
            | none => simpa using h2
            | some ad => simpa using h2
          · simpa using h2
  cases x <;> cases y <;> simp only [binAV] at hz <;> try (cases hz; done)
  case i.i k a l b =>
    cases hx; cases hy
    simp only [Sem.run_bind, eqGuard_run (P := P) (w := w) (op := op) (t := t) (p := p) (q := q) (u := .int k a) (v := .int l b) (fun _ _ h => by cases h.1) (fun h => by cases h.1), Result.andThen_ok]
    by_cases h1 : op = .shl
    · subst h1
      simp only [intOp] at hz
      by_cases hb : b < 0
      · rw [if_pos hb] at hz; cases hz
      · rw [if_neg hb] at hz; simp only [Option.some.injEq] at hz; subst hz
        exact ⟨_, shift_run (Or.inl rfl) hb t, by simp only [if_true]; exact .i _ _⟩
    · by_cases h2 : op = .shr
      · subst h2
        simp only [intOp] at hz
        by_cases hb : b < 0
        · rw [if_pos hb] at hz; cases hz
        · rw [if_neg hb] at hz; simp only [Option.some.injEq] at hz; subst hz
          exact ⟨_, shift_run (Or.inr rfl) hb t, .i _ _⟩
      · have hz' : (if k = l then intBin op k a b else none) = some z := by
          cases op <;> first | exact hz | exact (h1 rfl).elim | exact (h2 rfl).elim
        by_cases hk : k = l
        · subst hk; rw [if_pos rfl] at hz'; exact intBin_run hz' h1 h2 t
        · rw [if_neg hk] at hz'; cases hz'
  case s.s a b =>
    cases hx; cases hy
    simp only [Sem.run_bind, eqGuard_run (P := P) (w := w) (op := op) (t := t) (p := p) (q := q) (u := .string a) (v := .string b) (fun _ _ h => by cases h.1) (fun h => by cases h.1), Result.andThen_ok]
    exact strBin_run hz t
  case b.b a b =>
    cases hx; cases hy
    cases hk : kindIs E t 6 with
    | false => rw [hk] at hz; cases hz
    | true =>
      rw [hk] at hz
      simp only [cond_true] at hz
      unfold kindIs at hk
      cases hi : E.ti t with
      | none => simp [hi] at hk
      | some i =>
        simp only [hi] at hk
        have hu := (hT t i hi).bool (Nat.eq_of_beq_eq_true hk)
        simp only [Sem.run_bind, eqGuard_run (P := P) (w := w) (op := op) (t := t) (p := p) (q := q) (u := .bool a) (v := .bool b) (fun _ _ h => by cases h.1) (fun h => by cases h.1), Result.andThen_ok]
        refine eqRes_run hz ?_ (fun op ho => by rcases ho with rfl | rfl <;> rfl)
        unfold Op.equal Op.maxDepth Op.equalIn
        simp only [Sem.run_bind, run_underlying hu, Result.andThen_ok]
        rfl
  case ag.ag xs ys =>
    unfold agOp at hz
    cases hi : E.ti t with
    | none => simp [hi] at hz
    | some i =>
      simp only [hi] at hz
      cases hc : (i.cmp && sameK i.zero xs && sameK i.zero ys) with
      | false => rw [hc] at hz; cases hz
      | true =>
        rw [hc] at hz
        simp only [cond_true] at hz
        simp only [Bool.and_eq_true] at hc
        cases he : cellsEq xs ys with
        | none => simp [he] at hz
        | some c =>
          simp only [he] at hz
          obtain ⟨sx, sy⟩ := cellsEq_scal he
          cases hx with
          | ag _ us hl1 _ h1 =>
            cases hy with
            | ag _ vs hl2 _ h2 =>
              have hcm := (hT t i hi).cmp hc.1.1 w us.toArray vs.toArray xs ys c (by simpa using hl1.symm) (by simpa using hl2.symm)
                (fun j x hx v hv => (h1 j x v hx (by simpa using hv)).scal (sx x (List.mem_of_getElem? hx)))
                (fun j x hx v hv => (h2 j x v hx (by simpa using hv)).scal (sy x (List.mem_of_getElem? hx))) hc.1.2 hc.2 he
              have hg : (eqGuard op t p q (.agg us.toArray) (.agg vs.toArray)).run P w = .ok () w := by
                unfold eqGuard
                cases op <;> try rfl
                all_goals simp [hcm.2]
              simp only [Sem.run_bind, hg, Result.andThen_ok]
              exact eqRes_run hz hcm.1 (fun op ho => by rcases ho with rfl | rfl <;> rfl)
  all_goals first
    | (obtain ⟨pu, hpu, hq⟩ : ∃ pu, u = Value.pointer pu ∧ True := by (cases hx <;> first | exact ⟨_, rfl, trivial⟩ | (exfalso; simp [nilOp, isNil] at hz; done))
       obtain ⟨pv, hpv, hq'⟩ : ∃ pv, v = Value.pointer pv ∧ True := by (cases hy <;> first | exact ⟨_, rfl, trivial⟩ | (exfalso; simp [nilOp, isNil] at hz; done))
       refine nil _ pu pv hz (fun c hc => ?_) hpu hpv
       first
         | (obtain ⟨p1, e1, e2⟩ := isNil_ptr hc hx; rw [hpu] at e1; cases e1; cases hy; cases hpv; exact Or.inl ⟨rfl, e2⟩)
         | (obtain ⟨p1, e1, e2⟩ := isNil_ptr hc hy; rw [hpv] at e1; cases e1; cases hx; cases hpu; exact Or.inr ⟨rfl, e2⟩))
    | (exfalso; simp [nilOp, isNil] at hz; done)

theorem op_binOp (hT : ∀ t i, E.ti t = some i → TiOK P t i) (h : FR Out N w0 g0 H0 lam g st a w) {op : BinOp} {t ty : Nat} {x y : Operand} (ho : o.op = .binOp op t x y ty) {u v z : AV} (hx : VR (MuOf Out lam st.locs g) w st.heap g u (a.eval x)) (hy : VR (MuOf Out lam st.locs g) w st.heap g v (a.eval y))
    (hz : binAV E op t u v = some z) : OpRes P Out N w0 g0 H0 st a w o (.v z) st := by
  obtain ⟨r, h1, h2⟩ := binAV_run (P := P) hT hz hx hy x y
  refine OpRes.same h (v := r) ?_ h2
  unfold execOp
  simp only [ho, Sem.run_bind, Result.andThen_ok] at h1 ⊢
  rw [h1]; rfl

theorem op_unOp (h : FR Out N w0 g0 H0 lam g st a w) {op : UnOp} {t : Nat} {x : Operand} (ho : o.op = .unOp op t x) {u z : AV} (hx : VR (MuOf Out lam st.locs g) w st.heap g u (a.eval x)) (hz : unAV op u = some z) : OpRes P Out N w0 g0 H0 st a w o (.v z) st := by
  generalize hv : a.eval x = v at hx
  have hr : (execOp a.eval o) = (do pure (.value (← Op.unary op v)) : Sem Next) := by unfold execOp; simp only [ho, hv]
  cases u <;> simp only [unAV] at hz <;> try (cases hz; done)
  case i k n =>
    cases hx
    cases op <;> simp only [Option.some.injEq] at hz <;> try (cases hz; done)
    all_goals (subst hz; exact OpRes.same h (by rw [hr]; rfl) (VR.i _ _))
  case b c =>
    cases hx
    cases op <;> simp only [Option.some.injEq] at hz <;> try (cases hz; done)
    all_goals (subst hz; exact OpRes.same h (by rw [hr]; rfl) (VR.b _))

end
end Go.Ex
