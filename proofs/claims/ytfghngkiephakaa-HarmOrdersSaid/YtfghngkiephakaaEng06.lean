/- The evaluator of this proof, part 06. -/
import Derived.Test.YtfghngkiephakaaEng05
import Derived.Attr
import Derived.Calls
import Derived.Below
import Derived.LoopN
import Derived.Laws.Sem
import Derived.Laws.Cells
import Derived.Laws.CopyRow
set_option linter.unnecessarySimpa false
set_option linter.unusedVariables false
set_option linter.unusedSimpArgs false
set_option linter.unusedSectionVars false
set_option linter.deprecated false
/- The equations as rules for 'simp only [go_sem]'. -/
set_option autoImplicit false
namespace Go.Ex
theorem nb_refl (n : Nat) : Nat.beq n n = true := Nat.beq_refl n
theorem ble_refl (n : Nat) : Nat.ble n n = true := by simp
theorem nb_eq (a b : Nat) : Nat.beq a b = (a == b) := by
  by_cases h : a = b
  · subst h; simp
  · have h1 : (a == b) = false := by simpa using h
    rw [h1]
    cases hb : Nat.beq a b with
    | false => rfl
    | true => exact absurd (Nat.eq_of_beq_eq_true hb) h
theorem ble_dec (a b : Nat) : Nat.ble a b = decide (a ≤ b) := by
  rw [Bool.eq_iff_iff]; simp
theorem cond_and (x y : Bool) : (bif x then y else false) = (x && y) := by cases x <;> rfl
theorem cond_or (x y : Bool) : (bif x then true else y) = (x || y) := by cases x <;> rfl
theorem cond_not (x : Bool) : (bif x then false else true) = !x := by cases x <;> rfl
attribute [go_sem] execV_seq execV_region execV_cond execV_ret execV_skip execV_exit execV_block execV_scope opsV_nil nth setN dropN takeN cellsOf lev lev.levs ofConst intBin cellEq sameK cellsEq strBin isNil eqRes intOp agOp nilOp binAV unAV fillAV fldTy rowsOf levRows newObj fieldAt indexAt elems lenAV maxAV minAV foldAV keyEq mfind mset entries keyIs lookAV copyAV zeroV sortedB allocD freshAll drawChk clean clean.cleans appendAV bytesRows boundA sliceAV loadOk rtsOk storeOk pickAV plainOp guardOf result kpOf resultsOf resA argVals cond_and cond_or cond_not Option.map_some Option.map_none Option.getD_some nb_eq ble_dec Nat.blt decide_true decide_false beq_self_eq_true cond_true cond_false List.length_cons List.length_nil Bool.true_and Bool.and_true Bool.false_and Bool.and_false Bool.true_or Bool.or_true Bool.false_or Bool.or_false Bool.not_true Bool.not_false beq_self_eq_true Bool.true_beq Bool.false_beq ite_true ite_false List.getElem?_cons_zero List.getElem?_cons_succ List.set_cons_zero List.set_cons_succ List.cons_append List.nil_append List.append_nil Option.isSome_some Option.isSome_none List.foldr_cons List.foldr_nil
end Go.Ex
/- What the evaluator's values stand for in memory: the relation, and what keeps it. -/
set_option autoImplicit false
namespace Go.Ex
open Go.RowKit

/-- the number of cells of a block -/
def bsize (w : World) (b : Nat) : Option Nat :=
  match w.heap[b]? with
  | some (.cells c _ _) => some c.size
  | _ => none

/-- one cell's worth -/
def isCell : AV → Prop
  | .ag _ => False
  | .tp _ => False
  | _ => True

/-- a slice of the abstract heap's object whose block is known -/
def SliceAt (w : World) (g : List (Option Nat)) (o n off len tot : Nat) (v : Value) : Prop :=
  (tot = 0 ∧ len = 0 ∧ off = 0 ∧ ∃ a, v = .slice a 0 0) ∨
  (∃ b cap, g[o]? = some (some b) ∧ v = .slice (some ⟨b, off * n, none⟩) len cap ∧ bsize w b = some ((off + cap) * n) ∧ len ≤ cap ∧ off + len ≤ tot ∧ 0 < n) ∨
  (len = 0 ∧ off ≠ 0 ∧ ∃ a cap, v = .slice a 0 cap ∧ (a = none → cap = 0))

/-- the concrete value v stands for x; Mu: the blocks that may be written -/
inductive VR (Mu : Nat → Prop) (w : World) : List OB → List (Option Nat) → AV → Value → Prop
  | b {H g} (x : Bool) : VR Mu w H g (.b x) (.bool x)
  | i {H g} (k : IntKind) (n : Int) : VR Mu w H g (.i k n) (.int k n)
  | s {H g} (x : ByteArray) : VR Mu w H g (.s x) (.string x)
  | np {H g} : VR Mu w H g .np (.pointer none)
  | nf {H g} : VR Mu w H g .nf .nilFunc
  | ag {H g} (cs : List AV) (vs : List Value) (hl : cs.length = vs.length) (hc : ∀ (j : Nat) (x : AV), cs[j]? = some x → isCell x)
      (h : ∀ (j : Nat) (x : AV) (v : Value), cs[j]? = some x → vs[j]? = some v → VR Mu w H g x v) : VR Mu w H g (.ag cs) (.agg vs.toArray)
  | tp {H g} (cs : List AV) (vs : List Value) (hl : cs.length = vs.length)
      (h : ∀ (j : Nat) (x : AV) (v : Value), cs[j]? = some x → vs[j]? = some v → VR Mu w H g x v) : VR Mu w H g (.tp cs) (.tuple vs.toArray)
  | fn {H g} (f : FuncId) (cs : List AV) (vs : List Value) (hl : cs.length = vs.length)
      (h : ∀ (j : Nat) (x : AV) (v : Value), cs[j]? = some x → vs[j]? = some v → VR Mu w H g x v) : VR Mu w H g (.fn f cs) (.func (.func f) #[] vs.toArray)
  | sl {H g} (n : Nat) (es : List (List AV)) (clip : Bool) (a : Option Addr) (cap : Nat) (c : Nat → Nat → Value) (hcap : es.length ≤ cap) (hclip : clip = true → cap = es.length)
      (hnil : a = none → cap = 0) (hrow : ∀ (i : Nat) (row : List AV), es[i]? = some row → row.length = n) (hc : ∀ (i : Nat) (row : List AV) (j : Nat) (x : AV), es[i]? = some row → row[j]? = some x → isCell x)
      (hcell : ∀ (i : Nat) (row : List AV) (j : Nat) (x : AV), es[i]? = some row → row[j]? = some x → ∃ ad, a = some ad ∧ ad.spot = none ∧ w.cell? ⟨ad.block, ad.off + (i * n + j), none⟩ = some (c i j) ∧ ¬ Mu ad.block)
      (h : ∀ (i : Nat) (row : List AV) (j : Nat) (x : AV), es[i]? = some row → row[j]? = some x → VR Mu w [] [] x (c i j)) : VR Mu w H g (.sl n es clip) (.slice a es.length cap)
  | ep {H g} (cs : List AV) (off b base : Nat) (c : Nat → Value) (hc : ∀ (j : Nat) (x : AV), cs[j]? = some x → isCell x)
      (hcell : ∀ (j : Nat) (x : AV), cs[j]? = some x → w.cell? ⟨b, base + j, none⟩ = some (c j) ∧ ¬ Mu b)
      (h : ∀ (j : Nat) (x : AV), cs[j]? = some x → VR Mu w [] [] x (c j)) : VR Mu w H g (.ep cs off) (.pointer (some ⟨b, base + off, none⟩))
  | im0 {H g} : VR Mu w H g (.im []) (.map none)
  | im {H g} (es : List (AV × AV)) (b : Nat) (en : Array MapEntry) (clock : Nat) (k v : Nat → Value) (hb : w.heap[b]? = some (.map en clock)) (hm : ¬ Mu b) (hl : en.size = es.length)
      (he : ∀ (i : Nat) (e : AV × AV) (m : MapEntry), es[i]? = some e → en[i]? = some m → m.key = k i ∧ m.val = v i)
      (hk : ∀ (i : Nat) (e : AV × AV), es[i]? = some e → VR Mu w [] [] e.1 (k i)) (hv : ∀ (i : Nat) (e : AV × AV), es[i]? = some e → VR Mu w [] [] e.2 (v i)) : VR Mu w H g (.im es) (.map (some b))
  | hp {H g} (o n tot row off : Nat) (rows : List (List AV)) (grow : Bool) (lvl : Nat) (ad : Addr) (ho : H[o]? = some (.arr n rows grow lvl)) (ht : tot ≤ rows.length)
      (hv : rows.length = tot → ∃ b, g[o]? = some (some b) ∧ ad = ⟨b, row * n + off, none⟩) : VR Mu w H g (.hp o n tot row off) (.pointer (some ad))
  | hs {H g} (o n off len tot : Nat) (rows : List (List AV)) (grow : Bool) (lvl : Nat) (a : Option Addr) (cap : Nat) (ho : H[o]? = some (.arr n rows grow lvl)) (ht : tot ≤ rows.length)
      (hnn : a = none → len = 0) (hv : rows.length = tot → SliceAt w g o n off len tot (.slice a len cap)) : VR Mu w H g (.hs o n off len tot) (.slice a len cap)
  | mp {H g} (o b : Nat) (es : List (AV × AV)) (lvl : Nat) (ho : H[o]? = some (.map es lvl)) (hg : g[o]? = some (some b)) : VR Mu w H g (.mp o) (.map (some b))
  | it {H g} (o b : Nat) (s : ByteArray) (pos : Nat) (ho : H[o]? = some (.sit s pos)) (hg : g[o]? = some (some b)) : VR Mu w H g (.it o) (.pointer (some ⟨b, 0, none⟩))

/-- how an object may turn -/
def ObExt (w w' : World) (go go' : Option (Option Nat)) : OB → OB → Prop
  | .arr n rows gr _, .arr n' rows' gr' _ => n' = n ∧ gr' = gr ∧ rows.length ≤ rows'.length ∧ (rows'.length = rows.length → go' = go ∧ ∀ b, go = some (some b) → bsize w' b = bsize w b)
  | .map _ _, .map _ _ => go' = go
  | .sit _ _, .sit _ _ => go' = go
  | _, _ => False

/-- how the abstract heap and where it lies may turn -/
def Ext (w : World) (H : List OB) (g : List (Option Nat)) (w' : World) (H' : List OB) (g' : List (Option Nat)) : Prop :=
  ∀ (o : Nat) (ob : OB), H[o]? = some ob → ∃ ob', H'[o]? = some ob' ∧ ObExt w w' g[o]? g'[o]? ob ob'

theorem ObExt.refl (w : World) (go : Option (Option Nat)) (ob : OB) : ObExt w w go go ob ob := by
  cases ob <;> simp [ObExt]

theorem Ext.refl (w : World) (H : List OB) (g : List (Option Nat)) : Ext w H g w H g := fun _ ob h => ⟨ob, h, ObExt.refl _ _ _⟩

theorem ObExt.trans {w1 w2 w3 : World} {g1 g2 g3 : Option (Option Nat)} {a b c : OB} (h : ObExt w1 w2 g1 g2 a b) (k : ObExt w2 w3 g2 g3 b c) : ObExt w1 w3 g1 g3 a c := by
  cases a <;> cases b <;> simp only [ObExt] at h <;> cases c <;> simp only [ObExt] at k ⊢
  · obtain ⟨rfl, rfl, h3, h4⟩ := h
    obtain ⟨rfl, rfl, k3, k4⟩ := k
    refine ⟨rfl, rfl, Nat.le_trans h3 k3, fun e => ?_⟩
    have e1 := h4 (by omega)
    have e2 := k4 (by omega)
    exact ⟨e2.1.trans e1.1, fun b hb => (e2.2 b (e1.1.trans hb)).trans (e1.2 b hb)⟩
  · exact k.trans h
  · exact k.trans h

theorem Ext.trans {w1 w2 w3 : World} {H1 H2 H3 : List OB} {g1 g2 g3 : List (Option Nat)} (h : Ext w1 H1 g1 w2 H2 g2) (k : Ext w2 H2 g2 w3 H3 g3) : Ext w1 H1 g1 w3 H3 g3 := by
  intro o ob ho
  obtain ⟨ob', ho', he⟩ := h o ob ho
  obtain ⟨ob'', ho'', he'⟩ := k o ob' ho'
  exact ⟨ob'', ho'', he.trans he'⟩

theorem Ext.nil (w w' : World) : Ext w [] [] w' [] [] := fun o ob h => by simp at h

/-- the memory that is not to be written stays as it was -/
def Same (Mu Mu' : Nat → Prop) (w w' : World) : Prop := ∀ b, b < w.heap.size → ¬ Mu b → ¬ Mu' b ∧ w'.heap[b]? = w.heap[b]?

theorem cell_lt {w : World} {a : Addr} {v : Value} (h : w.cell? a = some v) : a.block < w.heap.size := World.block_lt_of_cell? w a h
theorem map_lt {w : World} {b : Nat} {o : Obj} (h : w.heap[b]? = some o) : b < w.heap.size := by
  rcases Nat.lt_or_ge b w.heap.size with h1 | h1
  · exact h1
  · simp [Array.getElem?_eq_none h1] at h
theorem cell_of_block {w w' : World} {a : Addr} (h : w'.heap[a.block]? = w.heap[a.block]?) : w'.cell? a = w.cell? a := by
  unfold World.cell?
  rw [h]

theorem SliceAt.mono {w w' : World} {g g' : List (Option Nat)} {o n off len tot : Nat} {v : Value} (h : SliceAt w g o n off len tot v) (hg : g'[o]? = g[o]?)
    (hb : ∀ b, g[o]? = some (some b) → bsize w' b = bsize w b) : SliceAt w' g' o n off len tot v := by
  rcases h with h | ⟨b, cap, h1, h2, h3, h4⟩ | h
  · exact Or.inl h
  · exact Or.inr (Or.inl ⟨b, cap, hg.trans h1, h2, (hb b h1).trans h3, h4⟩)
  · exact Or.inr (Or.inr h)

theorem VR.mono {Mu Mu' : Nat → Prop} {w w' : World} (hw : Same Mu Mu' w w') {H : List OB} {g : List (Option Nat)} {x : AV} {v : Value} (h : VR Mu w H g x v) :
    ∀ {H' : List OB} {g' : List (Option Nat)}, Ext w H g w' H' g' → VR Mu' w' H' g' x v := by
  induction h with
  | b => intros; exact .b _
  | i => intros; exact .i _ _
  | s => intros; exact .s _
  | np => intros; exact .np
  | nf => intros; exact .nf
  | ag cs vs hl hc h ih => intro H' g' e; exact .ag cs vs hl hc fun j x v h1 h2 => ih j x v h1 h2 e
  | tp cs vs hl h ih => intro H' g' e; exact .tp cs vs hl fun j x v h1 h2 => ih j x v h1 h2 e
  | fn f cs vs hl h ih => intro H' g' e; exact .fn f cs vs hl fun j x v h1 h2 => ih j x v h1 h2 e
  | sl n es clip a cap c hcap hclip hnil hrow hc hcell h ih =>
    intro H' g' e
    refine .sl n es clip a cap c hcap hclip hnil hrow hc (fun i row j x h1 h2 => ?_) fun i row j x h1 h2 => ih i row j x h1 h2 (Ext.nil _ _)
    obtain ⟨ad, ha, hs, hk, hm⟩ := hcell i row j x h1 h2
    have := hw ad.block (cell_lt (a := ⟨ad.block, ad.off + (i * n + j), none⟩) hk) hm
    exact ⟨ad, ha, hs, (cell_of_block (a := ⟨ad.block, ad.off + (i * n + j), none⟩) this.2).trans hk, this.1⟩
  | ep cs off b base c hc hcell h ih =>
    intro H' g' e
    refine .ep cs off b base c hc (fun j x h1 => ?_) fun j x h1 => ih j x h1 (Ext.nil _ _)
    obtain ⟨hk, hm⟩ := hcell j x h1
    have := hw b (cell_lt (a := ⟨b, base + j, none⟩) hk) hm
    exact ⟨(cell_of_block (a := ⟨b, base + j, none⟩) this.2).trans hk, this.1⟩
  | im0 => intros; exact .im0
  | im es b en clock k v hb hm hl he hk hv ihk ihv =>
    intro H' g' e
    have := hw b (map_lt hb) hm
    exact .im es b en clock k v (this.2.trans hb) this.1 hl he (fun i e1 h1 => ihk i e1 h1 (Ext.nil _ _)) fun i e1 h1 => ihv i e1 h1 (Ext.nil _ _)
  | hp o n tot row off rows grow lvl ad ho ht hv =>
    intro H' g' e
    obtain ⟨ob', ho', hx⟩ := e o _ ho
    cases ob' <;> simp only [ObExt] at hx
    obtain ⟨rfl, rfl, h3, h4⟩ := hx
    refine .hp o _ tot row off _ _ _ ad ho' (Nat.le_trans ht h3) fun hl => ?_
    obtain ⟨b, hb, hv⟩ := hv (by omega)
    exact ⟨b, (h4 (by omega)).1.trans hb, hv⟩
  | hs o n off len tot rows grow lvl a cap ho ht hnn hv =>
    intro H' g' e
    obtain ⟨ob', ho', hx⟩ := e o _ ho
    cases ob' <;> simp only [ObExt] at hx
    obtain ⟨rfl, rfl, h3, h4⟩ := hx
    refine .hs o _ off len tot _ _ _ a cap ho' (Nat.le_trans ht h3) hnn fun hl => ?_
    have h5 := h4 (by omega)
    exact (hv (by omega)).mono h5.1 h5.2
  | mp o b es lvl ho hg =>
    intro H' g' e
    obtain ⟨ob', ho', hx⟩ := e o _ ho
    cases ob' <;> simp only [ObExt] at hx
    exact .mp o b _ _ ho' (hx.trans hg)
  | it o b s pos ho hg =>
    intro H' g' e
    obtain ⟨ob', ho', hx⟩ := e o _ ho
    cases ob' <;> simp only [ObExt] at hx
    exact .it o b _ _ ho' (hx.trans hg)

theorem levs_le {l : Nat} : ∀ {cs : List AV}, lev.levs cs ≤ l → ∀ x ∈ cs, lev x ≤ l
  | [], _, x, h => by simp at h
  | c :: cs, hl, x, h => by
    simp only [lev.levs] at hl
    have h1 : lev c ≤ l := Nat.le_trans (Nat.le_max_left _ _) hl
    have h2 : lev.levs cs ≤ l := Nat.le_trans (Nat.le_max_right _ _) hl
    rcases List.mem_cons.1 h with rfl | h
    · exact h1
    · exact levs_le h2 x h
theorem le_levs {l : Nat} : ∀ {cs : List AV}, (∀ x ∈ cs, lev x ≤ l) → lev.levs cs ≤ l
  | [], _ => by simp [lev.levs]
  | c :: cs, h => by
    simp only [lev.levs]
    exact Nat.max_le.2 ⟨h c (by simp), le_levs fun x hx => h x (by simp [hx])⟩

/-- what points nowhere into the abstract heap stands without it -/
theorem VR.pure {Mu : Nat → Prop} {w : World} {H : List OB} {g : List (Option Nat)} {x : AV} {v : Value} (h : VR Mu w H g x v) (hl : lev x ≤ 1) {H' : List OB} {g' : List (Option Nat)} : VR Mu w H' g' x v := by
  induction h with
  | b => exact .b _
  | i => exact .i _ _
  | s => exact .s _
  | np => exact .np
  | nf => exact .nf
  | ag cs vs hlen hc h ih => exact .ag cs vs hlen hc fun j x v h1 h2 => ih j x v h1 h2 (levs_le (by simpa [lev] using hl) x (List.mem_of_getElem? h1))
  | tp cs vs hlen h ih => exact .tp cs vs hlen fun j x v h1 h2 => ih j x v h1 h2 (levs_le (by simpa [lev] using hl) x (List.mem_of_getElem? h1))
  | fn f cs vs hlen h ih => exact .fn f cs vs hlen fun j x v h1 h2 => ih j x v h1 h2 (levs_le (by simpa [lev] using hl) x (List.mem_of_getElem? h1))
  | sl n es clip a cap c hcap hclip hnil hrow hc hcell h ih => exact .sl n es clip a cap c hcap hclip hnil hrow hc hcell h
  | ep cs off b base c hc hcell h ih => exact .ep cs off b base c hc hcell h
  | im0 => exact .im0
  | im es b en clock k v hb hm hlen he hk hv ihk ihv => exact .im es b en clock k v hb hm hlen he hk hv
  | hp => simp [lev] at hl
  | hs => simp [lev] at hl
  | mp => simp [lev] at hl
  | it => simp [lev] at hl

/-- numbers, bools, strings stand in whatever memory -/
theorem VR.scal {Mu : Nat → Prop} {w : World} {H : List OB} {g : List (Option Nat)} {x : AV} {v : Value} (h : VR Mu w H g x v) (hl : lev x = 0) {Mu' : Nat → Prop} {w' : World} {H' : List OB} {g' : List (Option Nat)} : VR Mu' w' H' g' x v := by
  induction h with
  | b => exact .b _
  | i => exact .i _ _
  | s => exact .s _
  | np => exact .np
  | nf => exact .nf
  | ag cs vs hlen hc h ih => exact .ag cs vs hlen hc fun j x v h1 h2 => ih j x v h1 h2 (Nat.le_zero.1 (levs_le (Nat.le_of_eq (by simpa [lev] using hl)) x (List.mem_of_getElem? h1)))
  | tp cs vs hlen h ih => exact .tp cs vs hlen fun j x v h1 h2 => ih j x v h1 h2 (Nat.le_zero.1 (levs_le (Nat.le_of_eq (by simpa [lev] using hl)) x (List.mem_of_getElem? h1)))
  | fn f cs vs hlen h ih => exact .fn f cs vs hlen fun j x v h1 h2 => ih j x v h1 h2 (Nat.le_zero.1 (levs_le (Nat.le_of_eq (by simpa [lev] using hl)) x (List.mem_of_getElem? h1)))
  | sl => simp [lev] at hl
  | ep => simp [lev] at hl
  | im0 => simp [lev] at hl
  | im => simp [lev] at hl
  | hp => simp [lev] at hl
  | hs => simp [lev] at hl
  | mp => simp [lev] at hl
  | it => simp [lev] at hl

/-- a cell's value is no aggregate -/
def plainV : Value → Prop
  | .agg _ => False
  | .tuple _ => False
  | _ => True
theorem VR.plainV {Mu : Nat → Prop} {w : World} {H : List OB} {g : List (Option Nat)} {x : AV} {v : Value} (h : VR Mu w H g x v) (hc : isCell x) : Ex.plainV v := by
  cases h <;> first | trivial | exact hc.elim

/-- cells, one by one -/
def Cs (R : AV → Value → Prop) (cs : List AV) (f : Nat → Option Value) : Prop := ∀ (j : Nat) (x : AV), cs[j]? = some x → ∃ v, f j = some v ∧ R x v ∧ isCell x

theorem VR.cells {Mu : Nat → Prop} {w : World} {H : List OB} {g : List (Option Nat)} {x : AV} {v : Value} (h : VR Mu w H g x v) (hp : 0 < (cellsOf x).length) :
    v.cells.size = (cellsOf x).length ∧ Cs (VR Mu w H g) (cellsOf x) (fun j => v.cells[j]?) := by
  cases h
  case ag cs vs hl hc h =>
    refine ⟨by simp [Value.cells, cellsOf, hl], fun j x hx => ?_⟩
    simp only [cellsOf] at hx
    have hj : j < vs.length := by rw [← hl]; exact (List.getElem?_eq_some_iff.1 hx).1
    refine ⟨vs[j], by simp [Value.cells, hj], h j x vs[j] hx (by simp [hj]), hc j x hx⟩
  case tp => simp [cellsOf] at hp
  all_goals
    refine ⟨by simp [Value.cells, cellsOf], fun j x hx => ?_⟩
    simp only [cellsOf] at hx
    cases j with
    | succ j => simp at hx
    | zero => simp at hx; subst hx; exact ⟨_, by simp [Value.cells]; rfl, by constructor <;> assumption, trivial⟩

end Go.Ex
/- What an abstract state stands for: the frame, the local variables, the abstract heap; what reading gives; what keeps it. -/
set_option autoImplicit false
set_option linter.unusedVariables false
namespace Go.Ex
open Go.RowKit

theorem nbF {k t : Nat} (h : k ≠ t) : Nat.beq k t = false := by
  cases hb : Nat.beq k t with
  | false => rfl
  | true => exact absurd (Nat.eq_of_beq_eq_true hb) h

/-- the blocks that may be written, and those that the callers hold -/
def MuOf (Out : Nat → Prop) (lam : Nat → Nat) (locs : List (Nat × List AV)) (g : List (Option Nat)) : Nat → Prop :=
  fun b => Out b ∨ (∃ l cs, alook locs l = some cs ∧ lam l = b) ∨ ∃ o : Nat, g[o]? = some (some b)

def LocOK (R : AV → Value → Prop) (w : World) (b : Nat) (cs : List AV) : Prop :=
  ∃ (c : Array Value) (e : TypeId), w.heap[b]? = some (.cells c e (0, 0)) ∧ c.size = cs.length ∧ Cs R cs (fun j => c[j]?)

def ObOK (R : AV → Value → Prop) (w : World) (go : Option (Option Nat)) : OB → Prop
  | .arr n rows _ lvl => (∀ (i : Nat) (row : List AV), rows[i]? = some row → row.length = n ∧ lev.levs row ≤ lvl) ∧
      ((rows = [] ∧ go = some none) ∨ ∃ (b : Nat) (c : Array Value) (e : TypeId), go = some (some b) ∧ w.heap[b]? = some (.cells c e (0, 0)) ∧ rows.length * n ≤ c.size ∧ 0 < n ∧
        ∀ (i : Nat) (row : List AV), rows[i]? = some row → Cs R row (fun j => c[i * n + j]?))
  | .map es lvl => (∀ (i : Nat) (e : AV × AV), es[i]? = some e → lev e.1 = 0 ∧ lev e.2 ≤ lvl) ∧ ∃ (b : Nat) (en : Array MapEntry) (clock : Nat), go = some (some b) ∧ w.heap[b]? = some (.map en clock) ∧ en.size = es.length ∧
      ∀ (i : Nat) (e : AV × AV) (m : MapEntry), es[i]? = some e → en[i]? = some m → R e.1 m.key ∧ R e.2 m.val
  | .sit s pos => ∃ b : Nat, go = some (some b) ∧ w.heap[b]? = some (.stringIter s pos)

structure HR (Mu : Nat → Prop) (g : List (Option Nat)) (H : List OB) (w : World) : Prop where
  len : g.length = H.length
  obj : ∀ (o : Nat) (ob : OB), H[o]? = some ob → ObOK (VR Mu w H g) w g[o]? ob
  inj : ∀ (o o' b : Nat), g[o]? = some (some b) → g[o']? = some (some b) → o = o'
  lt : ∀ (o b : Nat), g[o]? = some (some b) → b < w.heap.size

/-- what a temporary's content stands for -/
def TR (Mu : Nat → Prop) (w : World) (H : List OB) (g : List (Option Nat)) (lam : Nat → Nat) : TV → Value → Prop
  | .v x, v => VR Mu w H g x v
  | .p l off, v => v = .pointer (some ⟨lam l, off, none⟩)

/-- the guard is met -/
def Met (a : Act) : Gd → Prop
  | none => True
  | some (t, wb) => a.tmps.getD t undef = .bool wb

/-- nothing that lay there has turned but what the callers gave -/
structure KeepB (g0 : List (Option Nat)) (w0 w : World) : Prop where
  os : w.os = w0.os
  tape : w.tape = w0.tape
  output : w.output = w0.output
  size : w0.heap.size ≤ w.heap.size
  block : ∀ b, b < w0.heap.size → (∀ o : Nat, g0[o]? ≠ some (some b)) → w.heap[b]? = w0.heap[b]?

theorem KeepB.refl (g0 : List (Option Nat)) (w : World) : KeepB g0 w w := ⟨rfl, rfl, rfl, Nat.le_refl _, fun _ _ _ => rfl⟩

structure FR (Out : Nat → Prop) (N : Nat) (w0 : World) (g0 : List (Option Nat)) (H0 : List OB) (lam : Nat → Nat) (g : List (Option Nat)) (st : St) (a : Act) (w : World) : Prop where
  size : N ≤ a.tmps.size
  defers : a.defers = []
  vals : ∀ (t : Nat) (x : TV), (t, x) ∈ st.vals → TR (MuOf Out lam st.locs g) w st.heap g lam x (a.tmps.getD t undef)
  vnd : ((st.vals.map (·.1)).Pairwise (· > ·)) ∧ ((st.tl.map (·.1)).Pairwise (· > ·))
  tl : ∀ (t : Nat) (gd : Gd) (x : TV), (t, gd, x) ∈ st.tl → Met a gd → TR (MuOf Out lam st.locs g) w st.heap g lam x (a.tmps.getD t undef)
  locs : ∀ (l : Nat) (cs : List AV), alook st.locs l = some cs → LocOK (VR (MuOf Out lam st.locs g) w st.heap g) w (lam l) cs
  locInj : ∀ (l l' : Nat) (cs cs' : List AV), alook st.locs l = some cs → alook st.locs l' = some cs' → lam l = lam l' → l = l'
  locNew : ∀ (l : Nat) (cs : List AV), alook st.locs l = some cs → w0.heap.size ≤ lam l ∧ ∀ o : Nat, g[o]? ≠ some (some (lam l))
  heap : HR (MuOf Out lam st.locs g) g st.heap w
  gOut : ∀ (o b : Nat), g[o]? = some (some b) → ¬ Out b
  outLt : ∀ b, Out b → b < w0.heap.size
  gNew : ∀ (o b : Nat), g[o]? = some (some b) → g0[o]? = some (some b) ∨ w0.heap.size ≤ b
  ext : Ext w0 H0 g0 w st.heap g
  keep : KeepB g0 w0 w

theorem TR.mono {Mu Mu' : Nat → Prop} {w w' : World} {H H' : List OB} {g g' : List (Option Nat)} {lam lam' : Nat → Nat} (hw : Same Mu Mu' w w') (he : Ext w H g w' H' g') {x : TV} {v : Value} (h : TR Mu w H g lam x v)
    (hp : ∀ l off, x = .p l off → lam' l = lam l) : TR Mu' w' H' g' lam' x v := by
  cases x with
  | v x => exact VR.mono hw h he
  | p l off => simp only [TR] at h ⊢; rw [hp l off rfl]; exact h

theorem mem_of_alook {α : Type} : ∀ {L : List (Nat × α)} {u : Nat} {x : α}, alook L u = some x → (u, x) ∈ L
  | [], u, x, h => by simp [alook] at h
  | (k, y) :: r, u, x, h => by
    simp only [alook] at h
    by_cases hk : k = u
    · subst hk; simp only [Nat.beq_refl, cond_true, Option.some.injEq] at h; subst h; simp
    · have hb : Nat.beq k u = false := nbF hk
      rw [hb] at h
      exact List.mem_cons_of_mem _ (mem_of_alook h)

theorem alook_none {α : Type} : ∀ {L : List (Nat × α)} {u : Nat}, alook L u = none → ∀ x, (u, x) ∉ L
  | [], u, _, x => by simp
  | (k, y) :: r, u, h, x => by
    simp only [alook] at h
    by_cases hk : k = u
    · subst hk; simp only [Nat.beq_refl, cond_true] at h; cases h
    · have hb : Nat.beq k u = false := nbF hk
      rw [hb] at h
      intro hm
      rcases List.mem_cons.1 hm with e | hm
      · cases e; exact hk rfl
      · exact alook_none h x hm

section read
variable {Out : Nat → Prop} {N : Nat} {w0 : World} {g0 : List (Option Nat)} {H0 : List OB} {lam : Nat → Nat} {g : List (Option Nat)} {st : St} {a : Act} {w : World}

theorem FR.getG (h : FR Out N w0 g0 H0 lam g st a w) {gd : Gd} (hm : Met a gd) {t : Nat} {x : TV} (hx : getG gd st t = some x) : TR (MuOf Out lam st.locs g) w st.heap g lam x (a.tmps.getD t undef) := by
  unfold Ex.getG Ex.getTV at hx
  cases ht : alook st.tl t with
  | some y =>
    obtain ⟨gy, y⟩ := y
    simp only [ht] at hx
    cases gy with
    | none => simp only [under] at hx; have e := Option.some.inj hx; subst e; exact h.tl t none y (mem_of_alook ht) trivial
    | some tw =>
      obtain ⟨u, z⟩ := tw
      cases gd with
      | none => simp [under] at hx
      | some tw' =>
        obtain ⟨u', z'⟩ := tw'
        simp only [under] at hx
        cases hb : (Nat.beq u u' && z == z') with
        | false => rw [hb] at hx; cases hx
        | true =>
          rw [hb] at hx
          have e := Option.some.inj hx
          subst e
          simp only [Bool.and_eq_true, beq_iff_eq] at hb
          have hu : u = u' := Nat.eq_of_beq_eq_true hb.1
          obtain rfl := hb.2
          subst hu
          exact h.tl t _ y (mem_of_alook ht) hm
  | none =>
    simp only [ht] at hx
    cases hv : alook st.vals t with
    | none => simp [hv] at hx
    | some y => simp only [hv, under] at hx; have e := Option.some.inj hx; subst e; exact h.vals t y (mem_of_alook hv)

theorem ofConst_VR {Mu : Nat → Prop} {H : List OB} {n : Nat} {v : Value} {x : AV} (h : ofConst n v = some x) : VR Mu w H g x v := by
  cases v <;> simp only [ofConst] at h <;> try (first | (cases h; done) | (cases h; first | exact .b _ | exact .i _ _ | exact .s _ | exact .nf))
  case pointer p => cases p <;> simp only [ofConst] at h <;> cases h; exact .np
  case map r => cases r <;> simp only [ofConst] at h <;> cases h; exact .im0
  case slice p l c =>
    cases p with
    | some p => simp [ofConst] at h
    | none =>
      cases l with
      | succ l => simp [ofConst] at h
      | zero =>
        cases c with
        | succ c => simp [ofConst] at h
        | zero =>
          simp only [ofConst] at h
          cases h
          exact .sl n [] true none 0 (fun _ _ => undef) (Nat.le_refl _) (fun _ => rfl) (fun _ => rfl) (fun i row hh => by simp at hh) (fun i row j x hh => by simp at hh) (fun i row j x hh => by simp at hh) (fun i row j x hh => by simp at hh)

theorem FR.getA (h : FR Out N w0 g0 H0 lam g st a w) {E : EP} {ty : Nat} {gd : Gd} (hm : Met a gd) {op : Operand} {x : AV} (hx : getA E ty gd st op = some x) : VR (MuOf Out lam st.locs g) w st.heap g x (a.eval op) := by
  cases op with
  | tmp t =>
    simp only [Ex.getA] at hx
    cases ht : Ex.getG gd st t with
    | none => simp [ht] at hx
    | some y =>
      cases y with
      | v y => simp only [ht] at hx; cases hx; exact h.getG hm ht
      | p l off => simp [ht] at hx
  | const v => exact ofConst_VR hx
  | func f =>
    simp only [Ex.getA] at hx
    cases hx
    exact .fn f [] [] rfl (fun j x v hh => by simp at hh)
  | global k => simp [Ex.getA] at hx

theorem FR.getP (h : FR Out N w0 g0 H0 lam g st a w) {E : EP} {ty : Nat} {gd : Gd} (hm : Met a gd) {op : Operand} {x : TV} (hx : getP E ty gd st op = some x) : TR (MuOf Out lam st.locs g) w st.heap g lam x (a.eval op) := by
  cases op with
  | tmp t => exact h.getG hm hx
  | const v =>
    simp only [Ex.getP] at hx
    cases hv : Ex.getA E ty gd st (.const v) with
    | none => simp [hv] at hx
    | some y => simp only [hv] at hx; cases hx; exact h.getA hm hv
  | func v =>
    simp only [Ex.getP] at hx
    cases hv : Ex.getA E ty gd st (.func v) with
    | none => simp [hv] at hx
    | some y => simp only [hv] at hx; cases hx; exact h.getA hm hv
  | global v =>
    simp only [Ex.getP] at hx
    cases hv : Ex.getA E ty gd st (.global v) with
    | none => simp [hv] at hx
    | some y => simp only [hv] at hx; cases hx; exact h.getA hm hv

/-- lists of operands -/
def VRs (Mu : Nat → Prop) (w : World) (H : List OB) (g : List (Option Nat)) (xs : List AV) (vs : List Value) : Prop :=
  xs.length = vs.length ∧ ∀ (j : Nat) (x : AV) (v : Value), xs[j]? = some x → vs[j]? = some v → VR Mu w H g x v

theorem VRs.nil {Mu : Nat → Prop} {H : List OB} : VRs Mu w H g [] [] := ⟨rfl, fun j x v h => by simp at h⟩
theorem VRs.cons {Mu : Nat → Prop} {H : List OB} {x : AV} {xs : List AV} {v : Value} {vs : List Value} (h : VR Mu w H g x v) (hs : VRs Mu w H g xs vs) : VRs Mu w H g (x :: xs) (v :: vs) :=
  ⟨by simp [hs.1], fun j y u h1 h2 => by
    cases j with
    | zero => simp at h1 h2; subst h1; subst h2; exact h
    | succ j => exact hs.2 j y u (by simpa using h1) (by simpa using h2)⟩
theorem VRs.uncons {Mu : Nat → Prop} {H : List OB} {x : AV} {xs : List AV} {v : Value} {vs : List Value} (h : VRs Mu w H g (x :: xs) (v :: vs)) : VR Mu w H g x v ∧ VRs Mu w H g xs vs :=
  ⟨h.2 0 x v rfl rfl, by have := h.1; simpa using this, fun j y u h1 h2 => h.2 (j + 1) y u (by simpa using h1) (by simpa using h2)⟩
theorem VRs.append {Mu : Nat → Prop} {H : List OB} {xs ys : List AV} {vs us : List Value} (h : VRs Mu w H g xs vs) (k : VRs Mu w H g ys us) : VRs Mu w H g (xs ++ ys) (vs ++ us) := by
  induction xs generalizing vs with
  | nil => cases vs with
    | nil => exact k
    | cons v vs => exact absurd h.1 (by simp)
  | cons x xs ih => cases vs with
    | nil => exact absurd h.1 (by simp)
    | cons v vs => exact VRs.cons h.uncons.1 (ih h.uncons.2)

theorem FR.getAs (h : FR Out N w0 g0 H0 lam g st a w) {E : EP} {gd : Gd} (hm : Met a gd) : ∀ {ops : List Operand} {ts : List Nat} {xs : List AV}, getAs E gd st ops ts = some xs → VRs (MuOf Out lam st.locs g) w st.heap g xs (ops.map a.eval)
  | [], ts, xs, hx => by simp only [Ex.getAs] at hx; cases hx; exact VRs.nil
  | op :: ops, ts, xs, hx => by
    simp only [Ex.getAs] at hx
    split at hx
    · rename_i x hv
      split at hx
      · rename_i ys hr
        have e := Option.some.inj hx
        subst e
        exact VRs.cons (h.getA hm hv) (FR.getAs h hm hr)
      · cases hx
    · cases hx

end read

theorem alook_aset {α : Type} (v : α) : ∀ (l : List (Nat × α)) (t u : Nat), alook (aset v l t) u = if t = u then some v else alook l u
  | [], t, u => by
    simp only [aset, alook]
    by_cases h : t = u
    · subst h; simp only [Nat.beq_refl, cond_true, if_true]
    · rw [nbF h, if_neg h]; rfl
  | (k, y) :: r, t, u => by
    simp only [aset]
    by_cases hk : k = t
    · subst hk
      simp only [Nat.beq_refl, cond_true, alook]
      by_cases h : k = u
      · subst h; simp only [Nat.beq_refl, cond_true, if_true]
      · rw [nbF h, if_neg h]; rfl
    · rw [nbF hk]
      simp only [cond_false]
      cases Nat.blt k t with
      | true =>
        simp only [cond_true, alook]
        by_cases h : t = u
        · subst h; simp only [Nat.beq_refl, cond_true, if_true]
        · rw [nbF h, if_neg h]; rfl
      | false =>
        simp only [cond_false, alook]
        rw [alook_aset v r t u]
        by_cases h : k = u
        · subst h
          have h3 : ¬ t = k := fun e => hk e.symm
          simp only [Nat.beq_refl, cond_true, if_neg h3]
        · rw [nbF h]; rfl

theorem mem_dropK {α : Type} {t u : Nat} {x : α} : ∀ {L : List (Nat × α)}, (u, x) ∈ dropK t L → (u, x) ∈ L ∧ u ≠ t
  | [], h => by simp [dropK] at h
  | (k, y) :: r, h => by
    simp only [dropK] at h
    by_cases hk : k = t
    · subst hk
      simp only [Nat.beq_refl, cond_true] at h
      exact ⟨List.mem_cons_of_mem _ (mem_dropK h).1, (mem_dropK h).2⟩
    · have hb : Nat.beq k t = false := nbF hk
      simp only [hb, cond_false] at h
      rcases List.mem_cons.1 h with e | h
      · cases e; exact ⟨by simp, hk⟩
      · exact ⟨List.mem_cons_of_mem _ (mem_dropK h).1, (mem_dropK h).2⟩

theorem mem_dropP {l u : Nat} {x : TV} : ∀ {L : List (Nat × TV)}, (u, x) ∈ dropP l L → (u, x) ∈ L ∧ ∀ off, x ≠ .p l off
  | [], h => by simp [dropP] at h
  | (k, .v y) :: r, h => by
    simp only [dropP] at h
    rcases List.mem_cons.1 h with e | h
    · cases e; exact ⟨by simp, fun off => by simp⟩
    · exact ⟨List.mem_cons_of_mem _ (mem_dropP h).1, (mem_dropP h).2⟩
  | (k, .p m o) :: r, h => by
    simp only [dropP] at h
    by_cases hk : m = l
    · subst hk
      simp only [Nat.beq_refl, cond_true] at h
      exact ⟨List.mem_cons_of_mem _ (mem_dropP h).1, (mem_dropP h).2⟩
    · have hb : Nat.beq m l = false := nbF hk
      simp only [hb, cond_false] at h
      rcases List.mem_cons.1 h with e | h
      · cases e; exact ⟨by simp, fun off h2 => by cases h2; exact hk rfl⟩
      · exact ⟨List.mem_cons_of_mem _ (mem_dropP h).1, (mem_dropP h).2⟩

theorem mem_dropG {l u : Nat} {gd : Gd} {x : TV} : ∀ {L : List (Nat × (Gd × TV))}, (u, gd, x) ∈ dropG l L → (u, gd, x) ∈ L ∧ ∀ off, x ≠ .p l off
  | [], h => by simp [dropG] at h
  | (k, gk, .v y) :: r, h => by
    simp only [dropG] at h
    rcases List.mem_cons.1 h with e | h
    · cases e; exact ⟨by simp, fun off => by simp⟩
    · exact ⟨List.mem_cons_of_mem _ (mem_dropG h).1, (mem_dropG h).2⟩
  | (k, gk, .p m o) :: r, h => by
    simp only [dropG] at h
    by_cases hk : m = l
    · subst hk
      simp only [Nat.beq_refl, cond_true] at h
      exact ⟨List.mem_cons_of_mem _ (mem_dropG h).1, (mem_dropG h).2⟩
    · have hb : Nat.beq m l = false := nbF hk
      simp only [hb, cond_false] at h
      rcases List.mem_cons.1 h with e | h
      · cases e; exact ⟨by simp, fun off h2 => by cases h2; exact hk rfl⟩
      · exact ⟨List.mem_cons_of_mem _ (mem_dropG h).1, (mem_dropG h).2⟩

theorem dropP_sub {l : Nat} : ∀ {L : List (Nat × TV)}, (dropP l L).Sublist L
  | [] => by simp [dropP]
  | (k, .v y) :: r => by simp only [dropP]; exact dropP_sub.cons_cons _
  | (k, .p m o) :: r => by
    simp only [dropP]
    cases Nat.beq m l
    · exact dropP_sub.cons_cons _
    · exact dropP_sub.cons _

theorem dropG_sub {l : Nat} : ∀ {L : List (Nat × (Gd × TV))}, (dropG l L).Sublist L
  | [] => by simp [dropG]
  | (k, gd, .v y) :: r => by simp only [dropG]; exact dropG_sub.cons_cons _
  | (k, gd, .p m o) :: r => by
    simp only [dropG]
    cases Nat.beq m l
    · exact dropG_sub.cons_cons _
    · exact dropG_sub.cons _
theorem dropK_sub {α : Type} {t : Nat} : ∀ {L : List (Nat × α)}, (dropK t L).Sublist L
  | [] => by simp [dropK]
  | (k, y) :: r => by
    simp only [dropK]
    cases Nat.beq k t
    · exact dropK_sub.cons_cons _
    · exact dropK_sub.cons _
theorem dropP_none {l : Nat} : ∀ {L : List (Nat × TV)}, hasP l L = false → dropP l L = L
  | [], _ => rfl
  | (k, .v y) :: r, h => by simp only [hasP] at h; simp only [dropP, dropP_none h]
  | (k, .p m o) :: r, h => by
    simp only [hasP] at h
    simp only [dropP]
    cases hb : Nat.beq m l with
    | true => rw [hb] at h; cases h
    | false => rw [hb] at h; simp only [cond_false, dropP_none h]
theorem dropG_none {l : Nat} : ∀ {L : List (Nat × (Gd × TV))}, hasG l L = false → dropG l L = L
  | [], _ => rfl
  | (k, gd, .v y) :: r, h => by simp only [hasG] at h; simp only [dropG, dropG_none h]
  | (k, gd, .p m o) :: r, h => by
    simp only [hasG] at h
    simp only [dropG]
    cases hb : Nat.beq m l with
    | true => rw [hb] at h; cases h
    | false => rw [hb] at h; simp only [cond_false, dropG_none h]

def Sorted {α : Type} (L : List (Nat × α)) : Prop := (L.map (·.1)).Pairwise (· > ·)
theorem Sorted.nil {α : Type} : Sorted ([] : List (Nat × α)) := List.Pairwise.nil
theorem Sorted.cons_iff {α : Type} {k : Nat} {y : α} {r : List (Nat × α)} : Sorted ((k, y) :: r) ↔ (∀ e ∈ r, e.1 < k) ∧ Sorted r := by
  unfold Sorted
  simp only [List.map_cons, List.pairwise_cons, List.mem_map, forall_exists_index, and_imp, forall_apply_eq_imp_iff₂, gt_iff_lt]
theorem Sorted.sub {α : Type} {L L' : List (Nat × α)} (h : Sorted L) (hs : L'.Sublist L) : Sorted L' := h.sublist (hs.map _)

theorem ltN {a b : Nat} : Nat.blt a b = true ↔ a < b := by unfold Nat.blt; rw [Nat.ble_eq]; exact Iff.rfl
theorem ltF {a b : Nat} (h : ¬ a < b) : Nat.blt a b = false := by
  cases hb : Nat.blt a b with
  | false => rfl
  | true => exact absurd (ltN.1 hb) h

theorem mem_aset {α : Type} {v : α} {t u : Nat} {x : α} : ∀ {L : List (Nat × α)}, Sorted L → (u, x) ∈ aset v L t → (u = t ∧ x = v) ∨ ((u, x) ∈ L ∧ u ≠ t)
  | [], _, h => by simp [aset] at h; exact Or.inl h
  | (k, y) :: r, hn, h => by
    simp only [aset] at h
    obtain ⟨h1, h2⟩ := Sorted.cons_iff.1 hn
    by_cases hk : k = t
    · subst hk
      simp only [Nat.beq_refl, cond_true] at h
      rcases List.mem_cons.1 h with e | hr
      · cases e; exact Or.inl ⟨rfl, rfl⟩
      · exact Or.inr ⟨List.mem_cons_of_mem _ hr, by have := h1 _ hr; simp only at this; omega⟩
    · rw [nbF hk] at h
      simp only [cond_false] at h
      by_cases hl : k < t
      · rw [ltN.2 hl] at h
        simp only [cond_true] at h
        rcases List.mem_cons.1 h with e | hr
        · cases e; exact Or.inl ⟨rfl, rfl⟩
        · refine Or.inr ⟨hr, ?_⟩
          rcases List.mem_cons.1 hr with e | hr2
          · cases e; exact hk
          · have := h1 _ hr2; simp only at this; omega
      · rw [ltF hl] at h
        simp only [cond_false] at h
        rcases List.mem_cons.1 h with e | h
        · cases e; exact Or.inr ⟨by simp, hk⟩
        · rcases mem_aset h2 h with h | h
          · exact Or.inl h
          · exact Or.inr ⟨List.mem_cons_of_mem _ h.1, h.2⟩

theorem key_aset {α : Type} {v : α} {t : Nat} {e : Nat × α} : ∀ {L : List (Nat × α)}, e ∈ aset v L t → e.1 = t ∨ e ∈ L
  | [], h => by simp [aset] at h; exact Or.inl (by rw [h])
  | (k, y) :: r, h => by
    simp only [aset] at h
    by_cases hk : k = t
    · subst hk
      simp only [Nat.beq_refl, cond_true] at h
      rcases List.mem_cons.1 h with e | hr
      · exact Or.inl (by rw [e])
      · exact Or.inr (List.mem_cons_of_mem _ hr)
    · rw [nbF hk] at h
      simp only [cond_false] at h
      by_cases hl : k < t
      · rw [ltN.2 hl] at h
        simp only [cond_true] at h
        rcases List.mem_cons.1 h with e | hr
        · exact Or.inl (by rw [e])
        · exact Or.inr hr
      · rw [ltF hl] at h
        simp only [cond_false] at h
        rcases List.mem_cons.1 h with e | h
        · exact Or.inr (by rw [e]; simp)
        · rcases key_aset h with h | h
          · exact Or.inl h
          · exact Or.inr (List.mem_cons_of_mem _ h)

theorem sorted_aset {α : Type} {v : α} {t : Nat} : ∀ {L : List (Nat × α)}, Sorted L → Sorted (aset v L t)
  | [], _ => by simp [aset, Sorted]
  | (k, y) :: r, h => by
    obtain ⟨h1, h2⟩ := Sorted.cons_iff.1 h
    simp only [aset]
    by_cases hk : k = t
    · subst hk
      simp only [Nat.beq_refl, cond_true]
      exact Sorted.cons_iff.2 ⟨h1, h2⟩
    · rw [nbF hk]
      simp only [cond_false]
      by_cases hl : k < t
      · rw [ltN.2 hl]
        simp only [cond_true]
        refine Sorted.cons_iff.2 ⟨fun e he => ?_, h⟩
        rcases List.mem_cons.1 he with rfl | he
        · exact hl
        · have := h1 e he; omega
      · rw [ltF hl]
        simp only [cond_false]
        refine Sorted.cons_iff.2 ⟨fun e he => ?_, sorted_aset h2⟩
        rcases key_aset he with h3 | h3
        · omega
        · exact h1 e h3

theorem hasK_none {α : Type} : ∀ {L : List (Nat × α)} {t : Nat}, hasK L t = false → alook L t = none
  | [], _, _ => rfl
  | (k, y) :: r, t, h => by
    simp only [hasK] at h
    by_cases hk : k = t
    · subst hk; simp at h
    · rw [nbF hk] at h
      simp only [alook, nbF hk, cond_false]
      exact hasK_none h

theorem keepK_sub {α β : Type} {old : List (Nat × α)} : ∀ {L : List (Nat × β)}, (keepK old L).Sublist L
  | [] => by simp [keepK]
  | (k, y) :: r => by
    simp only [keepK]
    cases hasK old k
    · exact keepK_sub.cons _
    · exact keepK_sub.cons_cons _

theorem alook_keepK {α β : Type} {old : List (Nat × α)} {t : Nat} {x : β} : ∀ {L : List (Nat × β)}, Sorted L → alook (keepK old L) t = some x → alook L t = some x
  | [], _, h => h
  | (k, y) :: r, hs, h => by
    obtain ⟨h1, h2⟩ := Sorted.cons_iff.1 hs
    simp only [keepK] at h
    by_cases hk : k = t
    · subst hk
      simp only [alook, Nat.beq_refl, cond_true]
      cases ho : hasK old k with
      | true => rw [ho] at h; simpa [alook] using h
      | false =>
        rw [ho] at h
        simp only [cond_false] at h
        have := h1 _ (keepK_sub.subset (mem_of_alook h))
        simp only at this; omega
    · simp only [alook, nbF hk, cond_false]
      cases ho : hasK old k with
      | true => rw [ho] at h; simp only [cond_true, alook, nbF hk, cond_false] at h; exact alook_keepK h2 h
      | false => rw [ho] at h; exact alook_keepK h2 h

theorem takeN_eq {α : Type} : ∀ (l : List α) (n : Nat), takeN l n = l.take n
  | _, 0 => by simp [takeN]
  | [], n + 1 => by simp [takeN]
  | x :: r, n + 1 => by simp [takeN, takeN_eq r n]
theorem dropN_eq {α : Type} : ∀ (l : List α) (n : Nat), dropN l n = l.drop n
  | _, 0 => by simp [dropN]
  | [], n + 1 => by simp [dropN]
  | x :: r, n + 1 => by simp [dropN, dropN_eq r n]
theorem nth_eq {α : Type} : ∀ (l : List α) (n : Nat), nth l n = l[n]?
  | [], n => by simp [nth]
  | x :: r, 0 => by simp [nth]
  | x :: r, n + 1 => by simp [nth, nth_eq r n]
theorem setN_eq {α : Type} : ∀ (l : List α) (n : Nat) (v : α), setN l n v = l.set n v
  | [], n, v => by simp [setN]
  | x :: r, 0, v => by simp [setN]
  | x :: r, n + 1, v => by simp [setN, setN_eq r n v]
theorem elemN_eq : ∀ (l : List Nat) (t : Nat), elemN l t = true ↔ t ∈ l
  | [], t => by simp [elemN]
  | k :: r, t => by
    simp only [elemN]
    by_cases hk : k = t
    · subst hk; simp
    · have hb : Nat.beq k t = false := nbF hk
      simp only [hb, cond_false, elemN_eq r t, List.mem_cons]
      exact ⟨Or.inr, fun h => h.resolve_left fun e => hk e.symm⟩

/-- laid cells, one by one -/
theorem lay_spec : ∀ {vs cs cs' : List AV} {off : Nat}, lay cs off vs = some cs' → cs'.length = cs.length ∧ off + vs.length ≤ cs.length + (if vs = [] then off else 0) ∧
    ∀ (j : Nat), cs'[j]? = if off ≤ j ∧ j < off + vs.length then vs[j - off]? else cs[j]?
  | [], cs, cs', off, h => by
    simp only [lay] at h; cases h
    exact ⟨rfl, by simp, fun j => by rw [if_neg (fun hh => by simp at hh; omega)]⟩
  | v :: vs, cs, cs', off, h => by
    simp only [lay] at h
    by_cases ho : off < cs.length
    · have hb : Nat.blt off cs.length = true := by unfold Nat.blt; rw [Nat.ble_eq]; exact ho
      rw [hb] at h
      simp only [cond_true] at h
      obtain ⟨h1, h2, h3⟩ := lay_spec h
      rw [setN_eq, List.length_set] at h1 h2
      refine ⟨h1, ?_, fun j => ?_⟩
      · simp only [List.length_cons]
        cases vs with
        | nil => simp; omega
        | cons a b => simp only [List.length_cons] at h2 ⊢; simp at h2 ⊢; omega
      · rw [h3 j, setN_eq]
        simp only [List.length_cons]
        by_cases hj : off ≤ j ∧ j < off + (vs.length + 1)
        · rw [if_pos hj]
          by_cases he : j = off
          · subst he
            rw [if_neg (by omega), List.getElem?_set_self ho]; simp
          · rw [if_pos (by omega)]
            have : j - off = (j - (off + 1)) + 1 := by omega
            rw [this, List.getElem?_cons_succ]
        · rw [if_neg hj, if_neg (by omega), List.getElem?_set_ne (by omega)]
    · have hb : Nat.blt off cs.length = false := by
        cases hc : Nat.blt off cs.length with
        | false => rfl
        | true => unfold Nat.blt at hc; rw [Nat.ble_eq] at hc; omega
      rw [hb] at h; cases h

end Go.Ex
/- How the frame's relation is kept: by new blocks, by writes to local variables, to the abstract heap's objects, by what is put into a temporary. -/
set_option autoImplicit false
set_option linter.unusedVariables false
namespace Go.Ex
open Go.RowKit

theorem Cs.mono {R R' : AV → Value → Prop} (hr : ∀ x v, R x v → R' x v) {cs : List AV} {f : Nat → Option Value} (h : Cs R cs f) : Cs R' cs f := fun j x hx => by
  obtain ⟨v, h1, h2, h3⟩ := h j x hx
  exact ⟨v, h1, hr _ _ h2, h3⟩

theorem LocOK.mono {R R' : AV → Value → Prop} {w w' : World} {b : Nat} {cs : List AV} (hb : w'.heap[b]? = w.heap[b]?) (hr : ∀ x v, R x v → R' x v) (h : LocOK R w b cs) : LocOK R' w' b cs := by
  obtain ⟨c, e, h1, h2, h3⟩ := h
  exact ⟨c, e, hb.trans h1, h2, h3.mono hr⟩

theorem ObOK.mono {R R' : AV → Value → Prop} {w w' : World} {go : Option (Option Nat)} {ob : OB} (hb : ∀ b, go = some (some b) → w'.heap[b]? = w.heap[b]?) (hr : ∀ x v, R x v → R' x v) (h : ObOK R w go ob) : ObOK R' w' go ob := by
  cases ob with
  | arr n rows grow lvl =>
    obtain ⟨h1, h2⟩ := h
    refine ⟨h1, ?_⟩
    rcases h2 with h2 | ⟨b, c, e, h2, h3, h4, h5, h6⟩
    · exact Or.inl h2
    · exact Or.inr ⟨b, c, e, h2, (hb b h2).trans h3, h4, h5, fun i row hi => (h6 i row hi).mono hr⟩
  | map es lvl =>
    obtain ⟨h0, b, en, cl, h1, h2, h3, h4⟩ := h
    exact ⟨h0, b, en, cl, h1, (hb b h1).trans h2, h3, fun i e m he hm => ⟨hr _ _ (h4 i e m he hm).1, hr _ _ (h4 i e m he hm).2⟩⟩
  | sit s pos =>
    obtain ⟨b, h1, h2⟩ := h
    exact ⟨b, h1, (hb b h1).trans h2⟩

/-- old blocks as they were -/
structure Grow (w w' : World) : Prop where
  os : w'.os = w.os
  tape : w'.tape = w.tape
  output : w'.output = w.output
  size : w.heap.size ≤ w'.heap.size
  block : ∀ b, b < w.heap.size → w'.heap[b]? = w.heap[b]?

theorem Grow.refl (w : World) : Grow w w := ⟨rfl, rfl, rfl, Nat.le_refl _, fun _ _ => rfl⟩
theorem Grow.trans {a b c : World} (h : Grow a b) (k : Grow b c) : Grow a c :=
  ⟨k.os.trans h.os, k.tape.trans h.tape, k.output.trans h.output, Nat.le_trans h.size k.size, fun i hi => (k.block i (Nat.lt_of_lt_of_le hi h.size)).trans (h.block i hi)⟩
theorem Grow.push (w : World) (o : Obj) : Grow w { w with heap := w.heap.push o } :=
  ⟨rfl, rfl, rfl, by simp, fun b hb => by simp [Array.getElem?_push, Nat.ne_of_lt hb]⟩
theorem Grow.drew (w : World) : Grow w { w with drawn := w.drawn + 1 } := ⟨rfl, rfl, rfl, Nat.le_refl _, fun _ _ => rfl⟩
theorem KeepB.of_grow {w w' : World} (h : Grow w w') (g0 : List (Option Nat)) : KeepB g0 w w' := ⟨h.os, h.tape, h.output, h.size, fun b hb _ => h.block b hb⟩
theorem KeepB.grow {w w' : World} (h : KeepB [] w w') : Grow w w' := ⟨h.os, h.tape, h.output, h.size, fun b hb => h.block b hb (fun o => by simp)⟩

theorem bsize_eq {w w' : World} {b : Nat} (h : w'.heap[b]? = w.heap[b]?) : bsize w' b = bsize w b := by unfold bsize; rw [h]

theorem Ext.grow {w w' : World} {Mu : Nat → Prop} {g : List (Option Nat)} {H : List OB} (hh : HR Mu g H w) (hg : Grow w w') : Ext w H g w' H g := by
  intro o ob ho
  refine ⟨ob, ho, ?_⟩
  cases ob with
  | arr n rows gr l => exact ⟨rfl, rfl, Nat.le_refl _, fun _ => ⟨rfl, fun b hb => bsize_eq (hg.block b (hh.lt o b hb))⟩⟩
  | map es l => rfl
  | sit s p => rfl

section
variable {Out : Nat → Prop} {N : Nat} {w0 : World} {g0 : List (Option Nat)} {H0 : List OB} {lam : Nat → Nat} {g : List (Option Nat)} {st : St} {a : Act} {w : World}

theorem FR.locLt (h : FR Out N w0 g0 H0 lam g st a w) {l : Nat} {cs : List AV} (hl : alook st.locs l = some cs) : lam l < w.heap.size := by
  obtain ⟨c, e, h1, _⟩ := h.locs l cs hl
  exact map_lt h1

theorem FR.muLt (h : FR Out N w0 g0 H0 lam g st a w) {b : Nat} (hb : MuOf Out lam st.locs g b) : b < w.heap.size := by
  rcases hb with hb | ⟨l, cs, hl, rfl⟩ | ⟨o, ho⟩
  · exact Nat.lt_of_lt_of_le (h.outLt b hb) h.keep.size
  · exact h.locLt hl
  · exact h.heap.lt o b ho

/-- any change that tells what it keeps -/
theorem FR.change (h : FR Out N w0 g0 H0 lam g st a w) {lam' : Nat → Nat} {g' : List (Option Nat)} {st' : St} {w' : World}
    (hs : Same (MuOf Out lam st.locs g) (MuOf Out lam' st'.locs g') w w') (he : Ext w st.heap g w' st'.heap g')
    (hv : ∀ t x, (t, x) ∈ st'.vals → (t, x) ∈ st.vals ∧ ∀ l off, x = .p l off → lam' l = lam l) (hvn : Sorted st'.vals ∧ Sorted st'.tl)
    (ht : ∀ t gd x, (t, gd, x) ∈ st'.tl → (t, gd, x) ∈ st.tl ∧ ∀ l off, x = .p l off → lam' l = lam l)
    (hl : ∀ l cs, alook st'.locs l = some cs → LocOK (VR (MuOf Out lam' st'.locs g') w' st'.heap g') w' (lam' l) cs)
    (hli : ∀ l l' cs cs', alook st'.locs l = some cs → alook st'.locs l' = some cs' → lam' l = lam' l' → l = l')
    (hln : ∀ l cs, alook st'.locs l = some cs → w0.heap.size ≤ lam' l ∧ ∀ o : Nat, g'[o]? ≠ some (some (lam' l)))
    (hh : HR (MuOf Out lam' st'.locs g') g' st'.heap w') (hgo : ∀ (o b : Nat), g'[o]? = some (some b) → ¬ Out b)
    (hgn : ∀ (o b : Nat), g'[o]? = some (some b) → g0[o]? = some (some b) ∨ w0.heap.size ≤ b) (hk : KeepB g0 w0 w') : FR Out N w0 g0 H0 lam' g' st' a w' where
  size := h.size
  defers := h.defers
  vals := fun t x hx => TR.mono hs he (h.vals t x (hv t x hx).1) (hv t x hx).2
  vnd := hvn
  tl := fun t gd x hx hm => TR.mono hs he (h.tl t gd x (ht t gd x hx).1 hm) (ht t gd x hx).2
  locs := hl
  locInj := hli
  locNew := hln
  heap := hh
  gOut := hgo
  outLt := h.outLt
  gNew := hgn
  ext := h.ext.trans he
  keep := hk

theorem Same.grow {Mu : Nat → Prop} {w w' : World} (hg : Grow w w') : Same Mu Mu w w' := fun b hb hm => ⟨hm, hg.block b hb⟩

theorem KeepB.then {g0 : List (Option Nat)} {w0 w w' : World} (h : KeepB g0 w0 w) (hos : w'.os = w.os) (htp : w'.tape = w.tape) (hou : w'.output = w.output) (hsz : w.heap.size ≤ w'.heap.size)
    (hb : ∀ b, b < w0.heap.size → (∀ o : Nat, g0[o]? ≠ some (some b)) → w'.heap[b]? = w.heap[b]?) : KeepB g0 w0 w' :=
  ⟨hos.trans h.os, htp.trans h.tape, hou.trans h.output, Nat.le_trans h.size hsz, fun b h1 h2 => (hb b h1 h2).trans (h.block b h1 h2)⟩

/-- (A) new blocks that nobody is told of -/
theorem FR.grow (h : FR Out N w0 g0 H0 lam g st a w) {w' : World} (hg : Grow w w') : FR Out N w0 g0 H0 lam g st a w' := by
  have hs : Same (MuOf Out lam st.locs g) (MuOf Out lam st.locs g) w w' := Same.grow hg
  have he := Ext.grow h.heap hg
  refine h.change hs he (fun t x hx => ⟨hx, fun _ _ _ => rfl⟩) h.vnd (fun t gd x hx => ⟨hx, fun _ _ _ => rfl⟩) (fun l cs hl => (h.locs l cs hl).mono (hg.block _ (h.locLt hl)) fun x v hv => VR.mono hs hv he)
    h.locInj h.locNew ⟨h.heap.len, fun o ob ho => (h.heap.obj o ob ho).mono (fun b hb => hg.block b (h.heap.lt o b hb)) fun x v hv => VR.mono hs hv he, h.heap.inj, fun o b hb => Nat.lt_of_lt_of_le (h.heap.lt o b hb) hg.size⟩
    h.gOut h.gNew (h.keep.then hg.os hg.tape hg.output hg.size fun b hb _ => hg.block b (Nat.lt_of_lt_of_le hb h.keep.size))

theorem setRow_block {w : World} {b b' : Nat} {c : Array Value} (h : b' ≠ b) : (w.setRow b c).heap[b']? = w.heap[b']? := by
  unfold World.setRow
  simp only [Array.getElem?_modify]
  rw [if_neg (fun e => h e.symm)]

theorem setRow_size {w : World} {b : Nat} {c : Array Value} : (w.setRow b c).heap.size = w.heap.size := by
  unfold World.setRow; simp

/-- (B) a write to a local variable -/
theorem FR.setLoc (h : FR Out N w0 g0 H0 lam g st a w) {l : Nat} {cs cs' : List AV} {c' : Array Value} (hl : alook st.locs l = some cs) (hn : c'.size = cs'.length) (hlen : cs'.length = cs.length)
    (hc : Cs (VR (MuOf Out lam st.locs g) w st.heap g) cs' (fun j => c'[j]?)) : FR Out N w0 g0 H0 lam g { st with locs := aset cs' st.locs l } a (w.setRow (lam l) c') := by
  obtain ⟨c0, e0, hb0, hsz0, hcs0⟩ := h.locs l cs hl
  have hmu : MuOf Out lam (aset cs' st.locs l) g = MuOf Out lam st.locs g := by
    funext b
    apply propext
    unfold MuOf
    constructor
    · rintro (h1 | ⟨m, d, h1, h2⟩ | h1)
      · exact Or.inl h1
      · rw [alook_aset] at h1
        split at h1
        · rename_i e; subst e; exact Or.inr (Or.inl ⟨l, cs, hl, h2⟩)
        · exact Or.inr (Or.inl ⟨m, d, h1, h2⟩)
      · exact Or.inr (Or.inr h1)
    · rintro (h1 | ⟨m, d, h1, h2⟩ | h1)
      · exact Or.inl h1
      · by_cases e : l = m
        · subst e; exact Or.inr (Or.inl ⟨l, cs', by rw [alook_aset]; simp, h2⟩)
        · exact Or.inr (Or.inl ⟨m, d, by rw [alook_aset, if_neg e]; exact h1, h2⟩)
      · exact Or.inr (Or.inr h1)
  have hlm : MuOf Out lam st.locs g (lam l) := Or.inr (Or.inl ⟨l, cs, hl, rfl⟩)
  have hs : Same (MuOf Out lam st.locs g) (MuOf Out lam st.locs g) w (w.setRow (lam l) c') := fun b _ hm => ⟨hm, setRow_block fun e => hm (e ▸ hlm)⟩
  have hgb : ∀ (o b : Nat), g[o]? = some (some b) → b ≠ lam l := fun o b hb e => (h.locNew l cs hl).2 o (e ▸ hb)
  have he : Ext w st.heap g (w.setRow (lam l) c') st.heap g := by
    intro o ob ho
    refine ⟨ob, ho, ?_⟩
    cases ob with
    | arr n rows gr lv => exact ⟨rfl, rfl, Nat.le_refl _, fun _ => ⟨rfl, fun b hb => bsize_eq (setRow_block (hgb o b hb))⟩⟩
    | map es lv => rfl
    | sit s p => rfl
  have hr : ∀ x v, VR (MuOf Out lam st.locs g) w st.heap g x v → VR (MuOf Out lam st.locs g) (w.setRow (lam l) c') st.heap g x v := fun x v hv => VR.mono hs hv he
  refine h.change (st' := { st with locs := aset cs' st.locs l }) (by simpa only [hmu] using hs) he (fun t x hx => ⟨hx, fun _ _ _ => rfl⟩) h.vnd (fun t gd x hx => ⟨hx, fun _ _ _ => rfl⟩) ?_ ?_ ?_ ?_ h.gOut h.gNew
    (h.keep.then rfl rfl rfl (by rw [setRow_size]; exact Nat.le_refl _) fun b hb _ => setRow_block fun e => by have := (h.locNew l cs hl).1; omega)
  · intro m d hm
    simp only [hmu]
    rw [alook_aset] at hm
    by_cases e : l = m
    · subst e
      simp only [if_true, Option.some.injEq] at hm
      subst hm
      exact ⟨c', e0, setRow_heap w (lam l) c0 c' e0 _ hb0, hn, hc.mono hr⟩
    · rw [if_neg e] at hm
      exact (h.locs m d hm).mono (setRow_block fun e2 => e (h.locInj _ _ _ _ hm hl e2).symm) hr
  · intro m m' d d' hm hm' e
    rw [alook_aset] at hm hm'
    have q : ∀ {m d}, (if l = m then some cs' else alook st.locs m) = some d → ∃ d', alook st.locs m = some d' := by
      intro m d hh
      split at hh
      · rename_i e; subst e; exact ⟨cs, hl⟩
      · exact ⟨d, hh⟩
    obtain ⟨d1, h1⟩ := q hm
    obtain ⟨d2, h2⟩ := q hm'
    exact h.locInj m m' d1 d2 h1 h2 e
  · intro m d hm
    rw [alook_aset] at hm
    split at hm
    · rename_i e; subst e; exact h.locNew l cs hl
    · exact h.locNew m d hm
  · simp only [hmu]
    exact ⟨h.heap.len, fun o ob ho => (h.heap.obj o ob ho).mono (fun b hb => setRow_block (hgb o b hb)) hr, h.heap.inj, fun o b hb => by rw [setRow_size]; exact h.heap.lt o b hb⟩

/-- what is put into a temporary: into the frame's -/
theorem FR.putV (h : FR Out N w0 g0 H0 lam g st a w) {d : Nat} {x : TV} {v : Value} (hd : d < a.tmps.size) (hx : TR (MuOf Out lam st.locs g) w st.heap g lam x v)
    (hg : ∀ t tw y, (t, some tw, y) ∈ st.tl → tw.1 ≠ d) : FR Out N w0 g0 H0 lam g { st with vals := aset x st.vals d, tl := dropK d st.tl } (a.put (some d) v) w := by
  have hget : ∀ t, (a.put (some d) v).tmps.getD t undef = if t = d then v else a.tmps.getD t undef := by
    intro t
    simp only [Act.put, Array.getD_eq_getD_getElem?, Array.getElem?_setIfInBounds]
    by_cases e : d = t
    · subst e; simp [hd]
    · rw [if_neg e, if_neg (fun e2 => e e2.symm)]
  refine ⟨by simp [Act.put, h.size], h.defers, ?_, ⟨sorted_aset h.vnd.1, Sorted.sub h.vnd.2 dropK_sub⟩, ?_, h.locs, h.locInj, h.locNew, h.heap, h.gOut, h.outLt, h.gNew, h.ext, h.keep⟩
  · intro t y hy
    rw [hget]
    rcases mem_aset h.vnd.1 hy with ⟨rfl, rfl⟩ | ⟨hy, ht⟩
    · rw [if_pos rfl]; exact hx
    · rw [if_neg ht]; exact h.vals t y hy
  · intro t gd y hy hm
    obtain ⟨hy, ht⟩ := mem_dropK hy
    rw [hget, if_neg ht]
    refine h.tl t gd y hy ?_
    cases gd with
    | none => trivial
    | some tw =>
      simp only [Met] at hm ⊢
      rw [hget, if_neg (hg t tw y hy)] at hm
      exact hm

/-- into the region's -/
theorem FR.putT (h : FR Out N w0 g0 H0 lam g st a w) {d : Nat} {gd : Gd} {x : TV} {v : Value} (hd : d < a.tmps.size) (hx : Met a gd → TR (MuOf Out lam st.locs g) w st.heap g lam x v)
    (hg : ∀ t tw y, (t, some tw, y) ∈ st.tl → tw.1 ≠ d) (hgd : ∀ tw, gd = some tw → tw.1 ≠ d) (hkv : ∀ y, (d, y) ∉ st.vals) : FR Out N w0 g0 H0 lam g { st with tl := aset (gd, x) st.tl d } (a.put (some d) v) w := by
  have hget : ∀ t, (a.put (some d) v).tmps.getD t undef = if t = d then v else a.tmps.getD t undef := by
    intro t
    simp only [Act.put, Array.getD_eq_getD_getElem?, Array.getElem?_setIfInBounds]
    by_cases e : d = t
    · subst e; simp [hd]
    · rw [if_neg e, if_neg (fun e2 => e e2.symm)]
  refine ⟨by simp [Act.put, h.size], h.defers, ?_, ⟨h.vnd.1, sorted_aset h.vnd.2⟩, ?_, h.locs, h.locInj, h.locNew, h.heap, h.gOut, h.outLt, h.gNew, h.ext, h.keep⟩
  · intro t y hy
    rw [hget, if_neg (fun (e : t = d) => hkv y (e ▸ hy))]
    exact h.vals t y hy
  · intro t gd' y hy hm
    rcases mem_aset h.vnd.2 hy with ⟨rfl, e⟩ | ⟨hy, hne⟩
    · obtain ⟨rfl, rfl⟩ : gd' = gd ∧ y = x := by simpa using e
      rw [hget, if_pos rfl]
      apply hx
      cases gd' with
      | none => trivial
      | some tw =>
        simp only [Met] at hm ⊢
        rw [hget, if_neg (hgd tw rfl)] at hm
        exact hm
    · rw [hget, if_neg hne]
      refine h.tl t gd' y hy ?_
      cases gd' with
      | none => trivial
      | some tw =>
        simp only [Met] at hm ⊢
        rw [hget, if_neg (hg t tw y hy)] at hm
        exact hm

/-- the region's temporaries let go -/
theorem FR.clear (h : FR Out N w0 g0 H0 lam g st a w) : FR Out N w0 g0 H0 lam g { st with tl := [] } a w :=
  ⟨h.size, h.defers, h.vals, ⟨h.vnd.1, List.Pairwise.nil⟩, fun t gd x hx => by simp at hx, h.locs, h.locInj, h.locNew, h.heap, h.gOut, h.outLt, h.gNew, h.ext, h.keep⟩

end
end Go.Ex
/- How the frame's relation is kept, more: a new local variable, a new object, an object's new content, an object that moves. -/
set_option autoImplicit false
set_option linter.unusedVariables false
namespace Go.Ex
open Go.RowKit
section
variable {Out : Nat → Prop} {N : Nat} {w0 : World} {g0 : List (Option Nat)} {H0 : List OB} {lam : Nat → Nat} {g : List (Option Nat)} {st : St} {a : Act} {w : World}

theorem push_get {w : World} {o : Obj} : ({ w with heap := w.heap.push o } : World).heap[w.heap.size]? = some o := by simp

/-- (D) a new local variable -/
theorem FR.newLoc (h : FR Out N w0 g0 H0 lam g st a w) (d : Nat) {cs : List AV} {c : Array Value} (e : TypeId) (hn : c.size = cs.length)
    (hc : Cs (VR (MuOf Out lam st.locs g) w st.heap g) cs (fun j => c[j]?)) :
    FR Out N w0 g0 H0 (fun l => if l = d then w.heap.size else lam l) g { st with locs := aset cs st.locs d, vals := dropP d st.vals, tl := dropG d st.tl } a { w with heap := w.heap.push (.cells c e) } ∧
      Same (MuOf Out lam st.locs g) (MuOf Out (fun l => if l = d then w.heap.size else lam l) (aset cs st.locs d) g) w { w with heap := w.heap.push (.cells c e) } := by
  have hg := Grow.push w (.cells c e)
  have hs : Same (MuOf Out lam st.locs g) (MuOf Out (fun l => if l = d then w.heap.size else lam l) (aset cs st.locs d) g) w { w with heap := w.heap.push (.cells c e) } := by
    intro b hb hm
    refine ⟨?_, hg.block b hb⟩
    rintro (h1 | ⟨l, cs', h1, h2⟩ | h1)
    · exact hm (Or.inl h1)
    · simp only at h2
      by_cases hl : l = d
      · rw [if_pos hl] at h2; omega
      · rw [if_neg hl] at h2
        rw [alook_aset, if_neg (fun e => hl e.symm)] at h1
        exact hm (Or.inr (Or.inl ⟨l, cs', h1, h2⟩))
    · exact hm (Or.inr (Or.inr h1))
  have he := Ext.grow h.heap hg
  have hr : ∀ x v, VR (MuOf Out lam st.locs g) w st.heap g x v → VR (MuOf Out (fun l => if l = d then w.heap.size else lam l) (aset cs st.locs d) g) { w with heap := w.heap.push (.cells c e) } st.heap g x v := fun x v hv => VR.mono hs hv he
  refine ⟨h.change (st' := { st with locs := aset cs st.locs d, vals := dropP d st.vals, tl := dropG d st.tl }) hs he ?_ ⟨Sorted.sub h.vnd.1 dropP_sub, Sorted.sub h.vnd.2 dropG_sub⟩ ?_ ?_ ?_ ?_ ?_ h.gOut h.gNew (h.keep.then rfl rfl rfl hg.size fun b hb _ => hg.block b (Nat.lt_of_lt_of_le hb h.keep.size)), hs⟩
  · intro t x hx
    obtain ⟨h1, h2⟩ := mem_dropP hx
    refine ⟨h1, fun l off hxe => ?_⟩
    have : l ≠ d := fun e => h2 off (by rw [hxe, e])
    simp [this]
  · intro t gd x hx
    obtain ⟨h1, h2⟩ := mem_dropG hx
    refine ⟨h1, fun l off hxe => ?_⟩
    have : l ≠ d := fun e => h2 off (by rw [hxe, e])
    simp [this]
  · intro l cs' hl
    simp only at hl ⊢
    rw [alook_aset] at hl
    by_cases e1 : d = l
    · subst e1
      simp only [if_true, Option.some.injEq] at hl
      subst hl
      simp only [if_true]
      exact ⟨c, e, push_get, hn, hc.mono hr⟩
    · rw [if_neg e1] at hl
      rw [if_neg (fun e2 => e1 e2.symm)]
      exact (h.locs l cs' hl).mono (hg.block _ (h.locLt hl)) hr
  · intro l l' c1 c2 h1 h2 e1
    simp only at h1 h2 e1
    rw [alook_aset] at h1 h2
    by_cases a1 : l = d <;> by_cases a2 : l' = d
    · rw [a1, a2]
    · rw [if_pos a1, if_neg a2] at e1
      rw [if_neg (fun e => a2 e.symm)] at h2
      have := h.locLt h2; omega
    · rw [if_neg a1, if_pos a2] at e1
      rw [if_neg (fun e => a1 e.symm)] at h1
      have := h.locLt h1; omega
    · rw [if_neg a1, if_neg a2] at e1
      rw [if_neg (fun e => a2 e.symm)] at h2
      rw [if_neg (fun e => a1 e.symm)] at h1
      exact h.locInj _ _ _ _ h1 h2 e1
  · intro l cs' hl
    simp only at hl ⊢
    by_cases a1 : l = d
    · rw [if_pos a1]
      exact ⟨h.keep.size, fun o ho => by have := h.heap.lt o _ ho; omega⟩
    · rw [if_neg a1]
      rw [alook_aset, if_neg (fun e => a1 e.symm)] at hl
      exact h.locNew l cs' hl
  · exact ⟨h.heap.len, fun o ob ho => (h.heap.obj o ob ho).mono (fun b hb => hg.block b (h.heap.lt o b hb)) hr, h.heap.inj, fun o b hb => Nat.lt_of_lt_of_le (h.heap.lt o b hb) hg.size⟩

theorem getElem?_append_one {α : Type} {l : List α} {x y : α} {o : Nat} (h : (l ++ [x])[o]? = some y) : (o < l.length ∧ l[o]? = some y) ∨ (o = l.length ∧ y = x) := by
  rcases Nat.lt_trichotomy o l.length with h1 | h1 | h1
  · rw [List.getElem?_append_left h1] at h; exact Or.inl ⟨h1, h⟩
  · subst h1; simp at h; exact Or.inr ⟨rfl, h.symm⟩
  · rw [List.getElem?_append_right (by omega)] at h
    have : o - l.length ≠ 0 := by omega
    obtain ⟨k, hk⟩ := Nat.exists_eq_succ_of_ne_zero this
    rw [hk] at h; simp at h

/-- (E) a new object -/
theorem FR.newOb (h : FR Out N w0 g0 H0 lam g st a w) {w' : World} (hg : Grow w w') (go : Option Nat) (ob : OB) (hgo : ∀ b, go = some b → w.heap.size ≤ b ∧ b < w'.heap.size)
    (hob : (∀ x v, VR (MuOf Out lam st.locs g) w st.heap g x v → VR (MuOf Out lam st.locs (g ++ [go])) w' (st.heap ++ [ob]) (g ++ [go]) x v) →
      ObOK (VR (MuOf Out lam st.locs (g ++ [go])) w' (st.heap ++ [ob]) (g ++ [go])) w' (some go) ob) :
    FR Out N w0 g0 H0 lam (g ++ [go]) { st with heap := st.heap ++ [ob] } a w' ∧ (∀ x v, VR (MuOf Out lam st.locs g) w st.heap g x v → VR (MuOf Out lam st.locs (g ++ [go])) w' (st.heap ++ [ob]) (g ++ [go]) x v) := by
  have hs : Same (MuOf Out lam st.locs g) (MuOf Out lam st.locs (g ++ [go])) w w' := by
    intro b hb hm
    refine ⟨?_, hg.block b hb⟩
    rintro (h1 | h1 | ⟨o, h1⟩)
    · exact hm (Or.inl h1)
    · exact hm (Or.inr (Or.inl h1))
    · rcases getElem?_append_one h1 with ⟨_, h2⟩ | ⟨_, h2⟩
      · exact hm (Or.inr (Or.inr ⟨o, h2⟩))
      · have := (hgo b h2.symm).1; omega
  have he : Ext w st.heap g w' (st.heap ++ [ob]) (g ++ [go]) := by
    intro o ob1 ho
    have hlt : o < st.heap.length := (List.getElem?_eq_some_iff.1 ho).1
    refine ⟨ob1, by rw [List.getElem?_append_left hlt]; exact ho, ?_⟩
    have hge : (g ++ [go])[o]? = g[o]? := List.getElem?_append_left (by rw [h.heap.len]; exact hlt)
    cases ob1 with
    | arr n rows gr l => exact ⟨rfl, rfl, Nat.le_refl _, fun _ => ⟨hge, fun b hb => bsize_eq (hg.block b (h.heap.lt o b hb))⟩⟩
    | map es l => exact hge
    | sit s p => exact hge
  have hr : ∀ x v, VR (MuOf Out lam st.locs g) w st.heap g x v → VR (MuOf Out lam st.locs (g ++ [go])) w' (st.heap ++ [ob]) (g ++ [go]) x v := fun x v hv => VR.mono hs hv he
  refine ⟨h.change (st' := { st with heap := st.heap ++ [ob] }) hs he (fun t x hx => ⟨hx, fun _ _ _ => rfl⟩) h.vnd (fun t gd x hx => ⟨hx, fun _ _ _ => rfl⟩)
    (fun l cs hl => (h.locs l cs hl).mono (hg.block _ (h.locLt hl)) hr) h.locInj ?_ ?_ ?_ ?_ (h.keep.then hg.os hg.tape hg.output hg.size fun b hb _ => hg.block b (Nat.lt_of_lt_of_le hb h.keep.size)), hr⟩
  · intro l cs hl
    refine ⟨(h.locNew l cs hl).1, fun o ho => ?_⟩
    rcases getElem?_append_one ho with ⟨_, h2⟩ | ⟨_, h2⟩
    · exact (h.locNew l cs hl).2 o h2
    · have := (hgo _ h2.symm).1; have := h.locLt hl; omega
  · refine ⟨by simp [h.heap.len], fun o ob1 ho => ?_, fun o o' b h1 h2 => ?_, fun o b h1 => ?_⟩
    · rcases getElem?_append_one ho with ⟨hlt, h2⟩ | ⟨e1, e2⟩
      · have hge : (g ++ [go])[o]? = g[o]? := List.getElem?_append_left (by rw [h.heap.len]; exact hlt)
        rw [hge]
        exact (h.heap.obj o ob1 h2).mono (fun b hb => hg.block b (h.heap.lt o b hb)) hr
      · subst e2
        have hge : (g ++ [go])[o]? = some go := by rw [e1, ← h.heap.len]; simp
        rw [hge]
        exact hob hr
    · rcases getElem?_append_one h1 with ⟨_, k1⟩ | ⟨e1, k1⟩ <;> rcases getElem?_append_one h2 with ⟨_, k2⟩ | ⟨e2, k2⟩
      · exact h.heap.inj o o' b k1 k2
      · have := h.heap.lt o b k1; have := (hgo b k2.symm).1; omega
      · have := h.heap.lt o' b k2; have := (hgo b k1.symm).1; omega
      · omega
    · rcases getElem?_append_one h1 with ⟨_, k1⟩ | ⟨_, k1⟩
      · exact Nat.lt_of_lt_of_le (h.heap.lt o b k1) hg.size
      · exact (hgo b k1.symm).2
  · intro o b h1
    rcases getElem?_append_one h1 with ⟨_, k1⟩ | ⟨_, k1⟩
    · exact h.gOut o b k1
    · intro hb; have := h.outLt b hb; have := (hgo b k1.symm).1; have := h.keep.size; omega
  · intro o b h1
    rcases getElem?_append_one h1 with ⟨_, k1⟩ | ⟨_, k1⟩
    · exact h.gNew o b k1
    · exact Or.inr (Nat.le_trans h.keep.size (hgo b k1.symm).1)

theorem getElem?_set_cases {α : Type} {l : List α} {o o' : Nat} {x y : α} (h : (l.set o x)[o']? = some y) : (o = o' ∧ y = x ∧ o < l.length) ∨ (o ≠ o' ∧ l[o']? = some y) := by
  by_cases e : o = o'
  · subst e
    rw [List.getElem?_set] at h
    simp only [if_true] at h
    split at h
    · rename_i hl; exact Or.inl ⟨rfl, (Option.some.inj h).symm, hl⟩
    · cases h
  · rw [List.getElem?_set_ne e] at h; exact Or.inr ⟨e, h⟩

/-- (C) an object's new content, in its own block b -/
theorem FR.setOb (h : FR Out N w0 g0 H0 lam g st a w) {w' : World} {o b : Nat} {ob ob' : OB} (ho : st.heap[o]? = some ob) (hb : g[o]? = some (some b))
    (hos : w'.os = w.os) (htp : w'.tape = w.tape) (hou : w'.output = w.output) (hsz : w'.heap.size = w.heap.size) (hbl : ∀ b', b' ≠ b → w'.heap[b']? = w.heap[b']?)
    (hx : ObExt w w' g[o]? g[o]? ob ob')
    (hob : (∀ x v, VR (MuOf Out lam st.locs g) w st.heap g x v → VR (MuOf Out lam st.locs g) w' (st.heap.set o ob') g x v) → ObOK (VR (MuOf Out lam st.locs g) w' (st.heap.set o ob') g) w' g[o]? ob') :
    FR Out N w0 g0 H0 lam g { st with heap := st.heap.set o ob' } a w' ∧ (∀ x v, VR (MuOf Out lam st.locs g) w st.heap g x v → VR (MuOf Out lam st.locs g) w' (st.heap.set o ob') g x v) := by
  have hmb : MuOf Out lam st.locs g b := Or.inr (Or.inr ⟨o, hb⟩)
  have hs : Same (MuOf Out lam st.locs g) (MuOf Out lam st.locs g) w w' := fun b' _ hm => ⟨hm, hbl b' fun e => hm (e ▸ hmb)⟩
  have hne : ∀ (o' b' : Nat), o' ≠ o → g[o']? = some (some b') → b' ≠ b := fun o' b' h1 h2 e => h1 (h.heap.inj o' o b (e ▸ h2) hb)
  have he : Ext w st.heap g w' (st.heap.set o ob') g := by
    intro o' ob1 h1
    by_cases e : o' = o
    · subst e
      rw [ho] at h1; cases h1
      exact ⟨ob', by rw [List.getElem?_set_self (List.getElem?_eq_some_iff.1 ho).1], hx⟩
    · refine ⟨ob1, by rw [List.getElem?_set_ne (fun e2 => e e2.symm)]; exact h1, ?_⟩
      cases ob1 with
      | arr n rows gr l => exact ⟨rfl, rfl, Nat.le_refl _, fun _ => ⟨rfl, fun b' hb' => bsize_eq (hbl b' (hne o' b' e hb'))⟩⟩
      | map es l => rfl
      | sit s p => rfl
  have hr : ∀ x v, VR (MuOf Out lam st.locs g) w st.heap g x v → VR (MuOf Out lam st.locs g) w' (st.heap.set o ob') g x v := fun x v hv => VR.mono hs hv he
  refine ⟨h.change (st' := { st with heap := st.heap.set o ob' }) hs he (fun t x hx => ⟨hx, fun _ _ _ => rfl⟩) h.vnd (fun t gd x hx => ⟨hx, fun _ _ _ => rfl⟩)
    (fun l cs hl => (h.locs l cs hl).mono (hbl _ fun e => (h.locNew l cs hl).2 o (e ▸ hb)) hr) h.locInj h.locNew ?_ h.gOut h.gNew
    (h.keep.then hos htp hou (Nat.le_of_eq hsz.symm) fun b' hb' hn => hbl b' fun e => ?_), hr⟩
  · refine ⟨by simp [h.heap.len], fun o' ob1 h1 => ?_, h.heap.inj, fun o' b' h1 => by rw [hsz]; exact h.heap.lt o' b' h1⟩
    rcases getElem?_set_cases h1 with ⟨rfl, rfl, _⟩ | ⟨e, h2⟩
    · exact hob hr
    · exact (h.heap.obj o' ob1 h2).mono (fun b' hb' => hbl b' (hne o' b' (fun e2 => e e2.symm) hb')) hr
  · subst e
    rcases h.gNew o b' hb with h1 | h1
    · exact hn o h1
    · omega

/-- (F) an object that moves to a new block, longer than it was -/
theorem FR.moveOb (h : FR Out N w0 g0 H0 lam g st a w) {w' : World} (hg : Grow w w') {o b n : Nat} {rows rows' : List (List AV)} {grow : Bool} {lvl lvl' : Nat} (ho : st.heap[o]? = some (.arr n rows grow lvl))
    (hbn : w.heap.size ≤ b ∧ b < w'.heap.size) (hlen : rows.length < rows'.length)
    (hob : (∀ x v, VR (MuOf Out lam st.locs g) w st.heap g x v → VR (MuOf Out lam st.locs (g.set o (some b))) w' (st.heap.set o (.arr n rows' grow lvl')) (g.set o (some b)) x v) →
      ObOK (VR (MuOf Out lam st.locs (g.set o (some b))) w' (st.heap.set o (.arr n rows' grow lvl')) (g.set o (some b))) w' (some (some b)) (.arr n rows' grow lvl')) :
    FR Out N w0 g0 H0 lam (g.set o (some b)) { st with heap := st.heap.set o (.arr n rows' grow lvl') } a w' ∧
      (∀ x v, VR (MuOf Out lam st.locs g) w st.heap g x v → VR (MuOf Out lam st.locs (g.set o (some b))) w' (st.heap.set o (.arr n rows' grow lvl')) (g.set o (some b)) x v) := by
  have hol : o < st.heap.length := (List.getElem?_eq_some_iff.1 ho).1
  have hs : Same (MuOf Out lam st.locs g) (MuOf Out lam st.locs (g.set o (some b))) w w' := by
    intro b' hb' hm
    refine ⟨?_, hg.block b' hb'⟩
    rintro (h1 | h1 | ⟨o', h1⟩)
    · exact hm (Or.inl h1)
    · exact hm (Or.inr (Or.inl h1))
    · rcases getElem?_set_cases h1 with ⟨_, h2, _⟩ | ⟨_, h2⟩
      · have := Option.some.inj h2; omega
      · exact hm (Or.inr (Or.inr ⟨o', h2⟩))
  have he : Ext w st.heap g w' (st.heap.set o (.arr n rows' grow lvl')) (g.set o (some b)) := by
    intro o' ob1 h1
    by_cases e : o = o'
    · subst e
      rw [ho] at h1; cases h1
      exact ⟨.arr n rows' grow lvl', by rw [List.getElem?_set_self hol], rfl, rfl, by omega, fun e => by omega⟩
    · refine ⟨ob1, by rw [List.getElem?_set_ne e]; exact h1, ?_⟩
      have hge : (g.set o (some b))[o']? = g[o']? := List.getElem?_set_ne e
      cases ob1 with
      | arr n rows gr l => exact ⟨rfl, rfl, Nat.le_refl _, fun _ => ⟨hge, fun b' hb' => bsize_eq (hg.block b' (h.heap.lt o' b' hb'))⟩⟩
      | map es l => exact hge
      | sit s p => exact hge
  have hr : ∀ x v, VR (MuOf Out lam st.locs g) w st.heap g x v → VR (MuOf Out lam st.locs (g.set o (some b))) w' (st.heap.set o (.arr n rows' grow lvl')) (g.set o (some b)) x v := fun x v hv => VR.mono hs hv he
  refine ⟨h.change (st' := { st with heap := st.heap.set o (.arr n rows' grow lvl') }) hs he (fun t x hx => ⟨hx, fun _ _ _ => rfl⟩) h.vnd (fun t gd x hx => ⟨hx, fun _ _ _ => rfl⟩)
    (fun l cs hl => (h.locs l cs hl).mono (hg.block _ (h.locLt hl)) hr) h.locInj ?_ ?_ ?_ ?_ (h.keep.then hg.os hg.tape hg.output hg.size fun b hb _ => hg.block b (Nat.lt_of_lt_of_le hb h.keep.size)), hr⟩
  · intro l cs hl
    refine ⟨(h.locNew l cs hl).1, fun o' h1 => ?_⟩
    rcases getElem?_set_cases h1 with ⟨_, h2, _⟩ | ⟨_, h2⟩
    · have := Option.some.inj h2; have := h.locLt hl; omega
    · exact (h.locNew l cs hl).2 o' h2
  · refine ⟨by simp [h.heap.len], fun o' ob1 h1 => ?_, fun o1 o2 b' h1 h2 => ?_, fun o1 b' h1 => ?_⟩
    · rcases getElem?_set_cases h1 with ⟨rfl, rfl, _⟩ | ⟨e, h2⟩
      · have : (g.set o (some b))[o]? = some (some b) := List.getElem?_set_self (by rw [h.heap.len]; exact hol)
        rw [this]; exact hob hr
      · have hge : (g.set o (some b))[o']? = g[o']? := List.getElem?_set_ne e
        rw [hge]
        exact (h.heap.obj o' ob1 h2).mono (fun b' hb' => hg.block b' (h.heap.lt o' b' hb')) hr
    · rcases getElem?_set_cases h1 with ⟨e1, k1, _⟩ | ⟨e1, k1⟩ <;> rcases getElem?_set_cases h2 with ⟨e2, k2, _⟩ | ⟨e2, k2⟩
      · omega
      · have := Option.some.inj k1; have := h.heap.lt o2 b' k2; omega
      · have := Option.some.inj k2; have := h.heap.lt o1 b' k1; omega
      · exact h.heap.inj o1 o2 b' k1 k2
    · rcases getElem?_set_cases h1 with ⟨e1, k1, _⟩ | ⟨e1, k1⟩
      · have := Option.some.inj k1; omega
      · exact Nat.lt_of_lt_of_le (h.heap.lt o1 b' k1) hg.size
  · intro o' b' h1
    rcases getElem?_set_cases h1 with ⟨e1, k1, _⟩ | ⟨e1, k1⟩
    · intro hb; have := h.outLt b' hb; have := Option.some.inj k1; have := h.keep.size; omega
    · exact h.gOut o' b' k1
  · intro o' b' h1
    rcases getElem?_set_cases h1 with ⟨e1, k1, _⟩ | ⟨e1, k1⟩
    · have := Option.some.inj k1; have := h.keep.size; exact Or.inr (by omega)
    · exact h.gNew o' b' k1

end
end Go.Ex
