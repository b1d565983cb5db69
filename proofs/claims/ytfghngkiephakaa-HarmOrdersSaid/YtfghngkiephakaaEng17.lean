/- The evaluator of this proof, part 17. -/
import Derived.Test.YtfghngkiephakaaEng16
import Derived.WalkKit
import Derived.ProofKit
import Derived.OpenShut
set_option linter.unnecessarySimpa false
set_option linter.unusedVariables false
set_option linter.unusedSimpArgs false
set_option linter.unusedSectionVars false
set_option linter.deprecated false
/- What a law's arguments are: from the reading of a value to the evaluator's value. -/
set_option autoImplicit false
set_option linter.unusedVariables false
set_option linter.unusedSectionVars false
namespace Go.Ex
open Go.ChangeShapes Go.WideShapes Go.ChangeAt Go.RowKit

mutual
/-- how many values and letters a reading holds -/
def blk {H : Type} : DataW H → Nat
  | .lit (.string bytes) => bytes.length + 1
  | .lit _ => 1
  | .nil => 1
  | .ptr d => blk d + 1
  | .slice elems spare => blkAll elems + blkAll spare + 1
  | .agg parts => blkAll parts + 1
  | .iface _ d => blk d + 1
  | .map entries => 1
  | .held _ => 1
def blkAll {H : Type} : List (DataW H) → Nat
  | [] => 0
  | d :: r => blk d + blkAll r
end

/-- cells that stand for abstract cells -/
def VRC (w : World) (as : List AV) (cs : List Value) : Prop :=
  as.length = cs.length ∧ ∀ (j : Nat) (x : AV) (v : Value), as[j]? = some x → cs[j]? = some v → VR (fun _ => False) w [] [] x v ∧ isCell x

theorem VRC.one {w : World} {x : AV} {v : Value} (h : VR (fun _ => False) w [] [] x v) (hc : isCell x) : VRC w [x] [v] :=
  ⟨rfl, fun j y u h1 h2 => by
    cases j with
    | zero => simp at h1 h2; subst h1; subst h2; exact ⟨h, hc⟩
    | succ j => simp at h1⟩

theorem VRC.append {w : World} {as bs : List AV} {cs ds : List Value} (h : VRC w as cs) (k : VRC w bs ds) : VRC w (as ++ bs) (cs ++ ds) := by
  refine ⟨by simp [h.1, k.1], fun j x v h1 h2 => ?_⟩
  by_cases hj : j < as.length
  · rw [List.getElem?_append_left hj] at h1
    rw [List.getElem?_append_left (by rw [← h.1]; exact hj)] at h2
    exact h.2 j x v h1 h2
  · rw [List.getElem?_append_right (by omega)] at h1
    rw [List.getElem?_append_right (by rw [← h.1]; omega)] at h2
    rw [← h.1] at h2
    exact k.2 _ x v h1 h2

section
variable {H : Type} (enc : TypeId × Value → H) (P : Program) (w : World)

/-- whatever reads as data of type t stands for something of α -/
def Rd (t : TypeId) {α : Type} (en : α → List AV) (sz : α → Nat) (ok : α → Prop) : Prop :=
  ∀ (fuel : Nat) (cs : List Value) (x : DataW H × List MemPlace), DataW.trod enc P w 0 (fun _ => true) true fuel t cs = some x → ∃ y, ok y ∧ sz y ≤ blk x.1 ∧ VRC w (en y) cs

variable {enc P w}

theorem Rd.map {t : TypeId} {α β : Type} {en : α → List AV} {sz : α → Nat} {ok : α → Prop} {en' : β → List AV} {sz' : β → Nat} {ok' : β → Prop} (f : α → β) (h : Rd enc P w t en sz ok)
    (h1 : ∀ x, en' (f x) = en x) (h2 : ∀ x, sz' (f x) ≤ sz x) (h3 : ∀ x, ok x → ok' (f x)) : Rd enc P w t en' sz' ok' := fun fuel cs x hx => by
  obtain ⟨y, k1, k2, k3⟩ := h fuel cs x hx
  exact ⟨f y, h3 y k1, Nat.le_trans (h2 y) k2, by rw [h1]; exact k3⟩

theorem rd_bool {t : TypeId} (ht : P.underlying t = some .bool) : Rd enc P w t (fun b : Bool => [.b b]) (fun _ => 1) (fun _ => True) := fun fuel cs x hx => by
  obtain ⟨b, rfl, rfl⟩ := DataW.trod_bool ht hx
  exact ⟨b, trivial, by simp [blk], VRC.one (.b b) trivial⟩
theorem rd_int {t : TypeId} {k : IntKind} (ht : P.underlying t = some (.int k)) : Rd enc P w t (fun n : Int => [.i k n]) (fun _ => 1) (fun n => (Lit.int k n).wf = true) := fun fuel cs x hx => by
  obtain ⟨n, rfl, rfl, hw⟩ := DataW.trod_int ht hx
  exact ⟨n, hw, by simp [blk], VRC.one (.i k n) trivial⟩
theorem rd_string {t : TypeId} (ht : P.underlying t = some .string) : Rd enc P w t (fun s : ByteArray => [.s s]) (fun s => s.size + 1) (fun s => s.size ≤ maxLen) := fun fuel cs x hx => by
  obtain ⟨s, rfl, rfl, hs⟩ := DataW.trod_string ht hx
  exact ⟨s, hs, by simp [blk], VRC.one (.s s) trivial⟩

theorem blkAll_sum {α : Type} (sz : α → Nat) : ∀ {l : List α} {ds : List (DataW H)}, l.length = ds.length → (∀ (i : Nat) (x : α) (d : DataW H), l[i]? = some x → ds[i]? = some d → sz x ≤ blk d) → (l.map sz).sum ≤ blkAll ds
  | [], ds, hl, _ => by simp
  | x :: l, [], hl, _ => by simp at hl
  | x :: l, d :: ds, hl, h => by
    have h0 := h 0 x d rfl rfl
    have ih := blkAll_sum sz (l := l) (ds := ds) (by simpa using hl) fun i y e h1 h2 => h (i + 1) y e (by simpa using h1) (by simpa using h2)
    simp only [List.map_cons, List.sum_cons, blkAll]
    omega

theorem mapM_cells {n : Nat} {a : Addr} {cs : List Value} (h : w.cells? 0 a n = some cs) : cs.length = n ∧ ∀ i, i < n → w.cell? (a.add i) = cs[i]? := by
  unfold World.cells? at h
  rw [if_pos (Nat.zero_le _)] at h
  have h1 := mapM_some_length h
  refine ⟨by simpa using h1, fun i hi => ?_⟩
  exact mapM_some_get h i i (by simp [hi])

theorem list_choice {α : Type} {Q : Nat → α → Prop} : ∀ (n : Nat), (∀ i, i < n → ∃ x, Q i x) → ∃ l : List α, l.length = n ∧ ∀ i x, l[i]? = some x → Q i x
  | 0, _ => ⟨[], rfl, fun i x h => by simp at h⟩
  | n + 1, h => by
    obtain ⟨l, h1, h2⟩ := list_choice n fun i hi => h i (by omega)
    obtain ⟨x, hx⟩ := h n (by omega)
    refine ⟨l ++ [x], by simp [h1], fun i y hy => ?_⟩
    by_cases hi : i < n
    · rw [List.getElem?_append_left (by omega)] at hy; exact h2 i y hy
    · have : i = n := by have := (List.getElem?_eq_some_iff.1 hy).1; simp at this; omega
      subst this
      rw [List.getElem?_append_right (by omega), h1, Nat.sub_self] at hy
      simp at hy; subst hy; exact hx

theorem addr_spot {a : Addr} {i : Nat} {v : Value} (h : w.cell? (a.add i) = some v) (hi : i = 0) : a.spot = none := by
  subst hi
  simp only [Addr.add, if_true] at h
  unfold World.cell? at h
  split at h
  · split at h
    · cases h
    · rename_i hs; simpa using hs
  · cases h

theorem rd_slice {t e : TypeId} {n : Nat} (ht : P.underlying t = some (.slice e)) (hc : P.cellsOf e = n) (hn : 0 < n) {α : Type} {en : α → List AV} {sz : α → Nat} {ok : α → Prop} (he : Rd enc P w e en sz ok) :
    Rd enc P w t (fun l : List α => [.sl n (l.map en) false]) (fun l => (l.map sz).sum + 1) (fun l => l.length ≤ maxLen ∧ ∀ x ∈ l, ok x) := fun fuel cs x hx => by
  rcases DataW.trod_slice ht hx with ⟨rfl, rfl⟩ | ⟨a, len, cap, elems, rest, m, rfl, rfl, rfl, hb, hlc, hcm, hel, hget, _, _⟩
  · refine ⟨[], ⟨by simp, by simp⟩, by simp [blk], VRC.one ?_ trivial⟩
    exact .sl n [] false none 0 (fun _ _ => undef) (by simp) (by simp) (by simp) (by simp) (by simp) (by simp) (by simp)
  · -- element by element
    have each : ∀ i, i < len → ∃ (p : α × List Value), ok p.1 ∧ (∃ d, elems[i]? = some d ∧ sz p.1 ≤ blk d.1) ∧ VRC w (en p.1) p.2 ∧ w.cells? 0 (a.add (i * n)) n = some p.2 := by
      intro i hi
      have h1 := hget i hi
      rw [hc] at h1
      have h2 : ∃ d, elems[i]? = some d := ⟨_, List.getElem?_eq_getElem (by omega)⟩
      obtain ⟨d, hd⟩ := h2
      rw [hd, Option.bind_eq_some_iff] at h1
      obtain ⟨cs', h3, h4⟩ := h1
      obtain ⟨y, k1, k2, k3⟩ := he m cs' d h4
      exact ⟨(y, cs'), k1, ⟨d, hd, k2⟩, k3, h3⟩
    obtain ⟨l, hl, hall⟩ := list_choice len each
    have hrow : ∀ (i : Nat) (row : List AV), ((l.map (·.1)).map en)[i]? = some row → ∃ p, l[i]? = some p ∧ row = en p.1 := by
      intro i row h
      rw [List.getElem?_map, List.getElem?_map] at h
      cases hp : l[i]? with
      | none => rw [hp] at h; cases h
      | some p => rw [hp] at h; simp at h; exact ⟨p, rfl, h.symm⟩
    have hlt : ∀ {i : Nat} {p}, l[i]? = some p → i < len := fun h => by rw [← hl]; exact (List.getElem?_eq_some_iff.1 h).1
    refine ⟨l.map (·.1), ⟨by simp [hl]; omega, fun x hx => ?_⟩, ?_, VRC.one ?_ trivial⟩
    · obtain ⟨p, hp, rfl⟩ := List.mem_map.1 hx
      obtain ⟨i, hi⟩ := List.getElem?_of_mem hp
      exact (hall i p hi).1
    · have := blkAll_sum (H := H) sz (l := l.map (·.1)) (ds := elems.map (·.1)) (by simp [hl, hel]) fun i x d h1 h2 => by
        rw [List.getElem?_map] at h1 h2
        cases hp : l[i]? with
        | none => rw [hp] at h1; cases h1
        | some p =>
          rw [hp] at h1
          simp at h1
          subst h1
          obtain ⟨_, ⟨d', hd', hs⟩, _⟩ := hall i p hp
          rw [hd'] at h2
          simp at h2
          subst h2
          exact hs
      simp only [blk]
      omega
    · have hlen : ((l.map (·.1)).map en).length = len := by simp [hl]
      have hv : VR (fun _ => False) w [] [] (.sl n ((l.map (·.1)).map en) false) (.slice (some a) ((l.map (·.1)).map en).length cap) := by
        refine .sl n ((l.map (·.1)).map en) false (some a) cap (fun i j => ((l[i]?).bind fun p => p.2[j]?).getD undef) (by rw [hlen]; exact hlc) (by simp) (by simp) ?_ ?_ ?_ ?_
        · intro i row h
          obtain ⟨p, hp, rfl⟩ := hrow i row h
          obtain ⟨_, _, h3, h4⟩ := hall i p hp
          rw [h3.1, (mapM_cells h4).1]
        · intro i row j x h h'
          obtain ⟨p, hp, rfl⟩ := hrow i row h
          obtain ⟨_, _, h3, h4⟩ := hall i p hp
          have hj : j < p.2.length := by rw [← h3.1]; exact (List.getElem?_eq_some_iff.1 h').1
          exact (h3.2 j x _ h' (List.getElem?_eq_getElem hj)).2
        · intro i row j x h h'
          obtain ⟨p, hp, rfl⟩ := hrow i row h
          obtain ⟨_, _, h3, h4⟩ := hall i p hp
          have hj : j < p.2.length := by rw [← h3.1]; exact (List.getElem?_eq_some_iff.1 h').1
          obtain ⟨c1, c2⟩ := mapM_cells h4
          have hcell := c2 j (by omega)
          rw [List.getElem?_eq_getElem hj] at hcell
          have hspot : a.spot = none := by
            -- the first place of all
            have h0 := hall 0 (l[0]'(by have := hlt hp; omega)) (List.getElem?_eq_getElem _)
            obtain ⟨_, _, g3, g4⟩ := h0
            obtain ⟨d1, d2⟩ := mapM_cells g4
            have hcell0 := d2 0 hn
            rw [Nat.zero_mul] at hcell0
            rw [List.getElem?_eq_getElem (by omega)] at hcell0
            have ha0 : a.add 0 = a := by simp [Addr.add]
            rw [ha0] at hcell0
            exact addr_spot hcell0 rfl
          refine ⟨a, rfl, hspot, ?_, fun f => f⟩
          rw [add_eq' _ _ hspot, add_eq] at hcell
          rw [show a.off + (i * n + j) = a.off + i * n + j by omega, hcell, hp]
          simp [hj]
        · intro i row j x h h'
          obtain ⟨p, hp, rfl⟩ := hrow i row h
          obtain ⟨_, _, h3, h4⟩ := hall i p hp
          have hj : j < p.2.length := by rw [← h3.1]; exact (List.getElem?_eq_some_iff.1 h').1
          have := (h3.2 j x _ h' (List.getElem?_eq_getElem hj)).1
          rw [hp]
          simpa [hj] using this
      rwa [hlen] at hv

/-- a struct's fields, one behind the other from off on -/
def RdF (fs : List Field) (off tot : Nat) {α : Type} (en : α → List AV) (sz : α → Nat) (ok : α → Prop) : Prop :=
  ∀ (fuel : Nat) (cs : List Value) (xs : List (DataW H × List MemPlace)), off + tot ≤ cs.length → xs.length = fs.length → (∀ (i : Nat) (f : Field), fs[i]? = some f → DataW.trod enc P w 0 (fun _ => true) true fuel f.type ((cs.drop f.offset).take (P.cellsOf f.type)) = xs[i]?) →
    ∃ y, ok y ∧ sz y ≤ blkAll (xs.map (·.1)) ∧ VRC w (en y) ((cs.drop off).take tot)

theorem rdf_nil {off : Nat} : RdF (enc := enc) (P := P) (w := w) [] off 0 (fun _ : Unit => []) (fun _ => 0) (fun _ => True) := fun fuel cs xs _ h1 h2 => by
  have : xs = [] := List.eq_nil_of_length_eq_zero (by simpa using h1)
  subst this
  exact ⟨(), trivial, by simp [blkAll], ⟨by simp, fun j x v h => by simp at h⟩⟩

theorem rdf_cons {f : Field} {fs : List Field} {off n tot : Nat} {α β : Type} {ea : α → List AV} {sa : α → Nat} {oa : α → Prop} {eb : β → List AV} {sb : β → Nat} {ob : β → Prop} (ho : f.offset = off) (hc : P.cellsOf f.type = n)
    (ha : Rd enc P w f.type ea sa oa) (hb : RdF (enc := enc) (P := P) (w := w) fs (off + n) tot eb sb ob) : RdF (enc := enc) (P := P) (w := w) (f :: fs) off (n + tot) (fun x : α × β => ea x.1 ++ eb x.2) (fun x => sa x.1 + sb x.2) (fun x => oa x.1 ∧ ob x.2) := fun fuel cs xs hlen h1 h2 => by
  cases xs with
  | nil => simp at h1
  | cons x xs =>
    have hx := h2 0 f rfl
    rw [ho, hc] at hx
    simp only [List.getElem?_cons_zero] at hx
    obtain ⟨y, k1, k2, k3⟩ := ha _ _ _ hx
    obtain ⟨z, m1, m2, m3⟩ := hb fuel cs xs (by omega) (by simpa using h1) fun i g hg => by
      have := h2 (i + 1) g (by simpa using hg)
      simpa using this
    refine ⟨(y, z), ⟨k1, m1⟩, by simp only [List.map_cons, blkAll]; omega, ?_⟩
    have := k3.append m3
    rw [← List.drop_drop] at this
    rw [List.take_add]
    exact this

theorem rd_struct {t : TypeId} {fs : Array Field} {tot : Nat} {α : Type} {en : α → List AV} {sz : α → Nat} {ok : α → Prop} (ht : P.underlying t = some (.struct fs)) (hc : P.cellsOf t = tot) (h : RdF (enc := enc) (P := P) (w := w) fs.toList 0 tot en sz ok) :
    Rd enc P w t en (fun x => sz x + 1) ok := fun fuel cs x hx => by
  obtain ⟨xs, n, rfl, rfl, h1, h2, h3⟩ := DataW.trod_struct ht hx
  obtain ⟨y, k1, k2, k3⟩ := h n cs xs (by omega) (by simpa using h2) fun i f hf => h3 i f (by simpa using hf)
  refine ⟨y, k1, by simp only [blk]; omega, ?_⟩
  rw [List.drop_zero, List.take_of_length_le (by omega)] at k3
  exact k3

/-- a whole argument -/
theorem rdv_cell {t : TypeId} {α : Type} {v : Value} {d : DataW H} {ps : List MemPlace} {en : α → AV} {sz : α → Nat} {ok : α → Prop} (h : Rd enc P w t (fun x => [en x]) sz ok) (hv : v.cells = #[v]) (hd : DataW.Trod enc P w 0 (fun _ => true) true t v d ps) :
    ∃ x, ok x ∧ sz x ≤ blk d ∧ VR (fun _ => False) w [] [] (en x) v := by
  obtain ⟨fuel, hf⟩ := hd
  rw [hv] at hf
  obtain ⟨y, k1, k2, k3⟩ := h _ _ _ hf
  exact ⟨y, k1, k2, (k3.2 0 _ _ rfl rfl).1⟩
theorem rdv_agg {t : TypeId} {α : Type} {v : Value} {d : DataW H} {ps : List MemPlace} {en : α → List AV} {sz : α → Nat} {ok : α → Prop} (h : Rd enc P w t en sz ok) (hv : ∃ cs, v = .agg cs) (hd : DataW.Trod enc P w 0 (fun _ => true) true t v d ps) :
    ∃ x, ok x ∧ sz x ≤ blk d ∧ VR (fun _ => False) w [] [] (.ag (en x)) v := by
  obtain ⟨fuel, hf⟩ := hd
  obtain ⟨cs, rfl⟩ := hv
  obtain ⟨y, k1, k2, k3⟩ := h _ _ _ hf
  simp only [Value.cells] at k3
  have : VR (fun _ => False) w [] [] (.ag (en y)) (.agg cs.toList.toArray) := .ag _ _ k3.1 (fun j x hx => by
      have hj : j < cs.toList.length := by rw [← k3.1]; exact (List.getElem?_eq_some_iff.1 hx).1
      exact (k3.2 j x _ hx (List.getElem?_eq_getElem hj)).2) (fun j x v h1 h2 => (k3.2 j x v h1 h2).1)
  exact ⟨y, k1, k2, by simpa using this⟩
theorem rdv_int {t : TypeId} {k : IntKind} {v : Value} {d : DataW H} {ps : List MemPlace} {r : Reach} {b0 : Nat} (ht : P.underlying t = some (.int k)) (hval : Value.okWide P w r b0 t v) (hd : DataW.Trod enc P w 0 (fun _ => true) true t v d ps) :
    ∃ n : Int, (Lit.int k n).wf = true ∧ 1 ≤ blk d ∧ VR (fun _ => False) w [] [] (.i k n) v := by
  obtain ⟨n, rfl⟩ := okWide_int ht hval
  exact rdv_cell (rd_int ht) rfl hd
theorem rdv_bool {t : TypeId} {v : Value} {d : DataW H} {ps : List MemPlace} {r : Reach} {b0 : Nat} (ht : P.underlying t = some .bool) (hval : Value.okWide P w r b0 t v) (hd : DataW.Trod enc P w 0 (fun _ => true) true t v d ps) :
    ∃ b : Bool, True ∧ 1 ≤ blk d ∧ VR (fun _ => False) w [] [] (.b b) v := by
  obtain ⟨b, rfl⟩ := okWide_bool ht hval
  exact rdv_cell (rd_bool ht) rfl hd
theorem rdv_string {t : TypeId} {v : Value} {d : DataW H} {ps : List MemPlace} {r : Reach} {b0 : Nat} (ht : P.underlying t = some .string) (hval : Value.okWide P w r b0 t v) (hd : DataW.Trod enc P w 0 (fun _ => true) true t v d ps) :
    ∃ s : ByteArray, s.size ≤ maxLen ∧ s.size + 1 ≤ blk d ∧ VR (fun _ => False) w [] [] (.s s) v := by
  obtain ⟨s, rfl⟩ := okWide_string ht hval
  exact rdv_cell (rd_string ht) rfl hd
theorem rdv_slice {t e : TypeId} {v : Value} {d : DataW H} {ps : List MemPlace} {r : Reach} {b0 : Nat} (ht : P.underlying t = some (.slice e)) (hval : Value.okWide P w r b0 t v) (hd : DataW.Trod enc P w 0 (fun _ => true) true t v d ps) {α : Type} {en : α → AV} {sz : α → Nat} {ok : α → Prop} (h : Rd enc P w t (fun x => [en x]) sz ok) :
    ∃ x, ok x ∧ sz x ≤ blk d ∧ VR (fun _ => False) w [] [] (en x) v := by
  obtain ⟨a, l, c, rfl⟩ := okWide_slice ht hval
  exact rdv_cell h rfl hd
theorem rdv_struct {t : TypeId} {fs : Array Field} {v : Value} {d : DataW H} {ps : List MemPlace} {r : Reach} {b0 : Nat} (ht : P.underlying t = some (.struct fs)) (hval : Value.okWide P w r b0 t v) (hd : DataW.Trod enc P w 0 (fun _ => true) true t v d ps) {α : Type} {en : α → List AV} {sz : α → Nat} {ok : α → Prop} (h : Rd enc P w t en sz ok) :
    ∃ x, ok x ∧ sz x ≤ blk d ∧ VR (fun _ => False) w [] [] (.ag (en x)) v := by
  simp only [Value.okWide, ht] at hval
  obtain ⟨cs, hv, _⟩ := hval
  exact rdv_agg h ⟨cs, hv⟩ hd

end
end Go.Ex
/- From the evaluator to a law's row. -/
set_option autoImplicit false
set_option linter.unusedVariables false
set_option linter.unusedSectionVars false
namespace Go.Ex
open Go.ChangeShapes Go.WideShapes Go.ChangeAt Go.RowKit

theorem soundD {P : Program} {E : EP} (hm : P.follows .mixedOrders = true) (hT : ∀ t i, E.ti t = some i → TiOK P t i) (hX : ExtOK P E) (hF : FnOK P E (fun cfg _ ops => drChk E cfg ops)) (k : Nat) : RunOK P E k :=
  sound hT hX hF (fun n cfg Out N w0 g0 H0 hR => drawOK hT hX hF.enter hm hR cfg) k

theorem law_calls {P : Program} {E : EP} (hR : ∀ k, RunOK P E k) {W : World} {f : FuncId} {avs : List AV} {args : Array Value} (hv : VRs (fun _ => False) W [] [] avs args.toList) {b : Bool} {h' : List OB} (hr : runFV E f avs [] = some (.b b, h')) :
    Calls P f args W fun e W' => e = .returned (.bool b) ∧ Below W.heap.size W W' := by
  obtain ⟨k, hk⟩ := (runFV_some E).1 hr
  have hv' : VRs (MuC (fun _ => False) []) W [] [] avs args.toList := by rw [muC_nil]; exact hv
  have hh : HR (MuC (fun _ => False) []) [] [] W := ⟨rfl, fun o ob h => by simp at h, fun o o' b h => by simp at h, fun o b h => by simp at h⟩
  have := hR k f avs [] _ h' hk (fun _ => False) W [] args.toList hh hv' (fun b h => h.elim) (fun o b h => by simp at h)
  rw [Array.toArray_toList] at this
  refine this.mono fun e W' hc => ?_
  obtain ⟨v, g', rfl, _, hvr, _, hkb, _, _⟩ := hc
  have hg := hkb.grow
  refine ⟨?_, ⟨hg.os, hg.tape, hg.output, hg.size, hg.block⟩⟩
  cases hvr; rfl

theorem trodAll_stays {H : Type} {enc : TypeId × Value → H} {P : Program} {W W' : World} (hl : laidOutB P = true) {sp : Nat → Bool} (hb : Below W.heap.size W W') : ∀ {ts : List TypeId} {vs : List Value} {ds : List (DataW H)} {ps : List MemPlace},
    (∀ t ∈ ts, P.readableRec t = true ∧ t < P.types.size) → DataW.TrodAll enc P W 0 (fun _ => true) true ts vs ds ps → (∀ x ∈ ps, x.block < W.heap.size) → (∀ x ∈ ps, sp x.block = true) → DataW.TrodAll enc P W' 0 sp true ts vs ds ps
  | [], vs, ds, ps, _, h, _, _ => by
    obtain ⟨rfl, rfl, rfl⟩ := trodAll_nil h
    exact trodAll_mk0
  | t :: ts, vs, ds, ps, ht, h, hlt, hsp => by
    obtain ⟨v, vs', d, ds', p, q, rfl, rfl, rfl, h0, h1⟩ := trodAll_cons h
    refine trodAll_cons_mk ?_ (trodAll_stays hl hb (fun t' h' => ht t' (by simp [h'])) h1 (fun x hx => hlt x (by simp [hx])) (fun x hx => hsp x (by simp [hx])))
    exact WideElems.Trod_stays hl (ht t (by simp)).1 (ht t (by simp)).2 h0 (fun x hx => hb.same (hlt x (by simp [hx]))) (fun x hx => hsp x (by simp [hx]))

theorem law_post {P : Program} {H : Type} {enc : TypeId × Value → H} {f : FuncId} {fn : Func} {s : ChangeSpec} {W : World} {args : Array Value} {ds gs : List (DataW H)} {before : List MemPlace} {tb : TypeId} (hl : laidOutB P = true)
    (hrd : ∀ t ∈ fn.params.toList, P.readableRec t = true ∧ t < P.types.size) (hvars : s.vars = []) (hb : P.underlying tb = some .bool) (hres : fn.resultTypes = #[tb])
    (hs : ∀ (ds : List (DataW H)), ds.length = fn.params.size → s.fn H ds = { results := [.lit (.bool true)], args := ds })
    (hW : DataW.Whole enc P fn.params.toList s.vars false W args.toList ds gs before)
    (hc : Calls P f args W fun e W' => e = .returned (.bool true) ∧ Below W.heap.size W W') :
    Calls P f args W fun e W' => ∃ v, e = .returned v ∧ s.post enc P fn false true false false W args v W' := by
  have hW' := hW
  obtain ⟨p, q, hA, hV, rfl, hfz, hnd⟩ := hW
  rw [hvars] at hV
  obtain ⟨rfl, rfl⟩ := trodVars_none hV
  have hlen : ds.length = fn.params.size := by
    have : ∀ {ts : List TypeId} {vs : List Value} {ds : List (DataW H)} {ps : List MemPlace}, DataW.TrodAll enc P W 0 (fun _ => true) true ts vs ds ps → ds.length = ts.length := by
      intro ts
      induction ts with
      | nil => intro vs ds ps h; obtain ⟨_, rfl, _⟩ := trodAll_nil h; rfl
      | cons t ts ih =>
        intro vs ds ps h
        obtain ⟨v, vs', d, ds', p, q, rfl, rfl, rfl, h0, h1⟩ := trodAll_cons h
        simp [ih h1]
    have := this hA
    simpa using this
  rw [List.append_nil] at hW'
  refine hc.mono fun e W' ⟨he, hg⟩ => ⟨_, he, ?_⟩
  have hsf := hs ds hlen
  have hW2 := hW'
  have hold : ∀ x ∈ p, (fun b => decide (b < W.heap.size)) x.block = true := fun x hx => by simpa using hW'.lt x (by simpa using hx)
  have hlt : ∀ x ∈ p, x.block < W.heap.size := fun x hx => by simpa using hold x hx
  have hargs : ∀ sp : Nat → Bool, (∀ x ∈ p, sp x.block = true) → DataW.TrodAll enc P W' 0 sp true fn.params.toList args.toList (s.fn H (ds ++ [])).args p := fun sp hsp => by
    rw [List.append_nil, hsf]
    exact trodAll_stays hl hg hrd hA hlt hsp
  have hresv : ∀ (b : Nat) (sp : Nat → Bool) (hd : Bool), DataW.TrodAll enc P W' b sp hd fn.resultTypes.toList ((Value.bool true).resultList fn.resultTypes.size) (s.fn H (ds ++ [])).results [] := fun b sp hd => by
    rw [List.append_nil, hsf, hres]
    exact trodAll_cons_mk (shut_bool hb _) trodAll_mk0
  have hvs : ∀ sp : Nat → Bool, DataW.TrodVars enc P W' sp s.vars (s.fn H (ds ++ [])).vars [] := fun sp => by
    rw [List.append_nil, hsf, hvars]; rfl
  have hok : ∀ (j : Nat) (t : TypeId) (r : Value), fn.resultTypes[j]? = some t → ((Value.bool true).resultList fn.resultTypes.size)[j]? = some r → Value.okWide P W' .any 0 t r := ok_one hres rfl (okWide_bool_mk hb _)
  refine ⟨ds, [], p, [], p, [], by simpa using hW', hresv _ _ _, hargs _ hold, hvs _, World.keptBut_mono (fun x hx => ⟨hx, ?_⟩) (hg.frame _), fun _ => ?_⟩
  · exact Or.inr (by simpa using hx)
  · refine ⟨hok, _, _, ([] ++ p) ++ [], ⟨[] ++ p, [], trodAll_append (hargs _ (fun _ _ => rfl)) (hresv _ _ _), hvs _, rfl, ?_, fun h => by cases h⟩, ?_⟩
    · intro b off hp
      have hp' : MemPlace.cell b off ∈ p := by simpa using hp
      rw [hg.frozen (p := ⟨b, off, none⟩) (hlt _ hp')]
      exact hfz b off (by simpa using hp')
    · intro x hx _
      simpa using hx

end Go.Ex
