/- The evaluator of this proof, part 18. -/
import Derived.Test.YtfghngkiephakaaEng17
import Derived.Laws.StructEq
set_option linter.unnecessarySimpa false
set_option linter.unusedVariables false
set_option linter.unusedSimpArgs false
set_option linter.unusedSectionVars false
set_option linter.deprecated false
/- What is asked of the types, as one check. -/
set_option autoImplicit false
set_option linter.unusedVariables false
set_option linter.unusedSectionVars false
namespace Go.Ex

/-- a scalar cell's value -/
def sval : AV → Value
  | .b x => .bool x
  | .i k n => .int k n
  | .s s => .string s
  | _ => undef

def cmpFlds (P : Program) (chk : TypeId → List AV → Bool) : List Field → Nat → List AV → Bool
  | [], _, z => z.isEmpty
  | f :: r, off, z => !(f.name == "_") && Nat.beq f.offset off && (P.info? f.type).isSome && Nat.blt 0 (P.cellsOf f.type) && Nat.ble (P.cellsOf f.type) z.length && chk f.type (z.take (P.cellsOf f.type)) && cmpFlds P chk r (off + P.cellsOf f.type) (z.drop (P.cellsOf f.type))
/-- is '==' of that type's values decided cell by cell? z: the zero value's cells -/
def cmpChk (P : Program) : Nat → TypeId → List AV → Bool
  | 0, _, _ => false
  | d + 1, t, z => match P.underlying t with
    | some .bool => (match z with | [.b _] => true | _ => false)
    | some (.int k) => (match z with | [.i l _] => decide (k = l) | _ => false)
    | some .string => (match z with | [.s _] => true | _ => false)
    | some (.struct fs) => !P.stoodInHeld t && cmpFlds P (cmpChk P d) fs.toList 0 z
    | _ => false

theorem sameK_len : ∀ {z cs : List AV}, sameK z cs = true → cs.length = z.length
  | [], [], _ => rfl
  | [], y :: ys, h => by simp [sameK] at h
  | x :: xs, [], h => by simp [sameK] at h
  | x :: xs, y :: ys, h => by
    simp only [sameK, Bool.and_eq_true] at h
    simp [sameK_len h.2]

theorem sameK_int {k : IntKind} {n : Int} {cs : List AV} (h : sameK [.i k n] cs = true) : ∃ x, cs = [.i k x] := by
  cases cs with
  | nil => simp [sameK] at h
  | cons c cs =>
    cases cs with
    | cons _ _ => simp [sameK] at h
    | nil =>
      cases c <;> simp [sameK] at h
      subst h
      exact ⟨_, rfl⟩

theorem sameK_split : ∀ {n : Nat} {z cs : List AV}, sameK z cs = true → sameK (z.take n) (cs.take n) = true ∧ sameK (z.drop n) (cs.drop n) = true
  | 0, z, cs, h => by simp [h, sameK]
  | n + 1, [], [], h => by simp [sameK]
  | n + 1, [], y :: ys, h => by simp [sameK] at h
  | n + 1, x :: xs, [], h => by simp [sameK] at h
  | n + 1, x :: xs, y :: ys, h => by
    simp only [sameK, Bool.and_eq_true] at h
    have := sameK_split (n := n) h.2
    simp only [List.take_succ_cons, List.drop_succ_cons, sameK, Bool.and_eq_true]
    exact ⟨⟨h.1, this.1⟩, this.2⟩

theorem cellsEq_split : ∀ {n : Nat} {cs ds : List AV} {c : Bool}, cellsEq cs ds = some c → ∃ a b, cellsEq (cs.take n) (ds.take n) = some a ∧ cellsEq (cs.drop n) (ds.drop n) = some b ∧ c = (a && b)
  | 0, cs, ds, c, h => ⟨true, c, by simp [cellsEq], by simpa using h, by simp⟩
  | n + 1, [], [], c, h => by simp [cellsEq] at h; subst h; exact ⟨true, true, by simp [cellsEq], by simp [cellsEq], rfl⟩
  | n + 1, [], y :: ys, c, h => by simp [cellsEq] at h
  | n + 1, x :: xs, [], c, h => by simp [cellsEq] at h
  | n + 1, x :: xs, y :: ys, c, h => by
    simp only [cellsEq] at h
    cases h1 : cellEq x y with
    | none => simp [h1] at h
    | some p =>
      simp only [h1] at h
      cases h2 : cellsEq xs ys with
      | none => simp [h2] at h
      | some q =>
        simp only [h2, Option.some.injEq] at h
        obtain ⟨a, b, k1, k2, k3⟩ := cellsEq_split (n := n) h2
        refine ⟨p && a, b, ?_, by simpa using k2, ?_⟩
        · simp only [List.take_succ_cons, cellsEq, h1, k1]
        · rw [← h, k3, Bool.and_assoc]

/-- cells as one value of type t -/
def vOf (P : Program) (t : TypeId) (cs : List AV) : Value :=
  match P.underlying t with
  | some (.struct _) => .agg (cs.map sval).toArray
  | _ => (cs.map sval).headD undef

section
variable {P : Program}

theorem part_v {w : World} {d : Nat} {t : TypeId} {z cs : List AV} {off : Nat} (hc : cmpChk P d t z = true) (hi : (P.info? t).isSome = true) (hn : 0 < P.cellsOf t) (hl : off + P.cellsOf t ≤ cs.length) :
    (part t (cs.map sval).toArray off).run P w = .ok (vOf P t ((cs.drop off).take (P.cellsOf t))) w := by
  obtain ⟨inf, hinf⟩ := Option.isSome_iff_exists.1 hi
  have hsz : P.cellsOf t = inf.size := by simp [Program.cellsOf, hinf]
  have leaf : ∀ dsc, P.underlying t = some dsc → (∀ fs, dsc ≠ .struct fs) → (∀ n e, dsc ≠ .array n e) → (part t (cs.map sval).toArray off).run P w = .ok (vOf P t ((cs.drop off).take (P.cellsOf t))) w := by
    intro dsc hd h1 h2
    have hag : (isAgg t).run P w = .ok false w := by
      unfold isAgg
      simp only [Sem.run_bind, run_underlying hd, Result.andThen_ok]
      cases dsc <;> first | rfl | exact absurd rfl (h1 _) | exact absurd rfl (h2 _ _)
    unfold part
    simp only [Sem.run_bind, hag, Result.andThen_ok]
    have hlt : off < cs.length := by omega
    have hget : (cs.map sval).toArray[off]? = some (sval cs[off]) := by simp [hlt]
    simp only [hget]
    have : vOf P t ((cs.drop off).take (P.cellsOf t)) = sval cs[off] := by
      unfold vOf
      rw [hd]
      cases dsc <;> first | exact absurd rfl (h1 _) | skip
      all_goals
        simp only
        rw [List.map_take, List.map_drop]
        cases hk : P.cellsOf t with
        | zero => omega
        | succ m => simp [List.headD_eq_head?_getD, List.head?_take, List.head?_drop, hlt]
    rw [this]; rfl
  cases d with
  | zero => simp [cmpChk] at hc
  | succ d =>
    unfold cmpChk at hc
    split at hc
    · rename_i hu; exact leaf _ hu (fun _ h => by cases h) (fun _ _ h => by cases h)
    · rename_i hu; exact leaf _ hu (fun _ h => by cases h) (fun _ _ h => by cases h)
    · rename_i hu; exact leaf _ hu (fun _ h => by cases h) (fun _ _ h => by cases h)
    · rename_i fs hu
      have hag : (isAgg t).run P w = .ok true w := by
        unfold isAgg
        simp only [Sem.run_bind, run_underlying hu, Result.andThen_ok]; rfl
      have hso : (sizeOf t).run P w = .ok (P.cellsOf t) w := by rw [hsz]; simp [sizeOf, typeInfo, hinf]
      unfold part
      simp only [Sem.run_bind, hag, hso, Result.andThen_ok, if_true]
      simp only [Sem.run_pure]
      unfold vOf
      rw [hu]
      simp only
      congr 2
      apply Array.ext'
      simp [Array.toList_extract, List.extract_eq_drop_take, List.map_take, List.map_drop]
    · cases hc

theorem eqIn_ok (w : World) : ∀ {d : Nat} {t : TypeId} {z cs ds : List AV} {c : Bool} {e : Nat}, cmpChk P d t z = true → sameK z cs = true → sameK z ds = true → cellsEq cs ds = some c →
    (Op.equalIn (d + e) t (vOf P t cs) (vOf P t ds)).run P w = .ok c w := by
  intro d
  induction d with
  | zero => intro t z cs ds c e h; simp [cmpChk] at h
  | succ d ih =>
    intro t z cs ds c e hc hs1 hs2 he
    rw [show d + 1 + e = (d + e) + 1 by omega]
    unfold cmpChk at hc
    split at hc
    · rename_i hu
      split at hc
      · match cs, ds, hs1, hs2 with
        | [.b x], [.b y], _, _ =>
          simp only [cellsEq, cellEq, Option.some.injEq] at he
          subst he
          simp only [vOf, hu, List.map_cons, List.map_nil, List.headD_cons, sval, Bool.and_true]
          exact run_equalIn_bool' w _ t x y hu
      · cases hc
    · rename_i k hu
      split at hc
      · rename_i l n
        simp only [decide_eq_true_eq] at hc
        subst hc
        obtain ⟨x, rfl⟩ := sameK_int hs1
        obtain ⟨y, rfl⟩ := sameK_int hs2
        simp only [cellsEq, cellEq, if_true, Option.some.injEq] at he
        subst he
        simp only [vOf, hu, List.map_cons, List.map_nil, List.headD_cons, sval, Bool.and_true]
        exact run_equalIn_int w _ t _ _ x y hu
      · cases hc
    · rename_i hu
      split at hc
      · match cs, ds, hs1, hs2 with
        | [.s x], [.s y], _, _ =>
          simp only [cellsEq, cellEq, Option.some.injEq] at he
          subst he
          simp only [vOf, hu, List.map_cons, List.map_nil, List.headD_cons, sval, Bool.and_true]
          exact run_equalIn_string w _ t x y hu
      · cases hc
    · rename_i fs hu
      simp only [Bool.and_eq_true, Bool.not_eq_true'] at hc
      obtain ⟨hh, hf⟩ := hc
      have hfo : P.fieldsOf t = fs := by unfold Program.fieldsOf; rw [hu]
      simp only [vOf, hu]
      rw [run_equalIn_struct w (d + e) t _ _ (by rw [hfo]; exact hu) hh, hfo]
      -- field by field
      have key : ∀ (fl : List Field) (off : Nat) (z : List AV) (c : Bool), cmpFlds P (cmpChk P d) fl off z = true → sameK z (cs.drop off) = true → sameK z (ds.drop off) = true → cellsEq (cs.drop off) (ds.drop off) = some c →
          (Op.eqFields (d + e) (cs.map sval).toArray (ds.map sval).toArray fl).run P w = .ok c w := by
        intro fl
        induction fl with
        | nil =>
          intro off z c h1 h2 h3 h4
          simp only [cmpFlds, List.isEmpty_iff] at h1
          subst h1
          have e1 : cs.drop off = [] := List.eq_nil_of_length_eq_zero (by have := sameK_len h2; simpa using this)
          have e2 : ds.drop off = [] := List.eq_nil_of_length_eq_zero (by have := sameK_len h3; simpa using this)
          rw [e1, e2] at h4
          simp only [cellsEq, Option.some.injEq] at h4
          subst h4
          simp [Op.eqFields]
        | cons f fl ihf =>
          intro off z c h1 h2 h3 h4
          simp only [cmpFlds, Bool.and_eq_true, Bool.not_eq_true', Nat.ble_eq] at h1
          obtain ⟨⟨⟨⟨⟨⟨a1, a2⟩, a3⟩, a4⟩, a5⟩, a6⟩, a7⟩ := h1
          have a2' : f.offset = off := Nat.eq_of_beq_eq_true a2
          have a4' : 0 < P.cellsOf f.type := ltN.1 a4
          have l1 := sameK_len h2
          have l2 := sameK_len h3
          rw [List.length_drop] at l1 l2
          obtain ⟨s1, s2⟩ := sameK_split (n := P.cellsOf f.type) h2
          obtain ⟨r1, r2⟩ := sameK_split (n := P.cellsOf f.type) h3
          obtain ⟨p, q, k1, k2, k3⟩ := cellsEq_split (n := P.cellsOf f.type) h4
          have hne : f.name ≠ "_" := by simpa using a1
          simp only [Op.eqFields]
          rw [if_pos hne]
          rw [a2']
          simp only [Sem.run_bind, part_v (w := w) (cs := cs) (off := off) a6 a3 a4' (by omega), part_v (w := w) (cs := ds) (off := off) a6 a3 a4' (by omega), Result.andThen_ok]
          rw [ih a6 s1 r1 k1]
          simp only [Result.andThen_ok]
          cases p with
          | false => simp [k3]
          | true =>
            simp only [Bool.not_true, Bool.false_eq_true, if_false]
            rw [List.drop_drop] at s2 r2
            rw [List.drop_drop, List.drop_drop] at k2
            rw [ihf (off + P.cellsOf f.type) _ q a7 s2 r2 k2, k3, Bool.true_and]
      exact key fs.toList 0 z c hf (by simpa using hs1) (by simpa using hs2) (by simpa using he)
    · cases hc

end
end Go.Ex
/- What is asked of the types, as one check: the rest. -/
set_option autoImplicit false
set_option linter.unusedVariables false
set_option linter.unusedSectionVars false
namespace Go.Ex

def constIs (v : Value) (x : AV) : Bool :=
  match v, x with
  | .bool b, .b c => b == c
  | .int k n, .i l m => decide (k = l) && decide (n = m)
  | .string s, .s t => Nat.beq s.size 0 && Nat.beq t.size 0
  | .slice none 0 0, .sl _ [] true => true
  | .pointer none, .np => true
  | .nilFunc, .nf => true
  | .map none, .im [] => true
  | _, _ => false

theorem bytes_empty {s : ByteArray} (h : s.size = 0) : s = ByteArray.empty := by
  obtain ⟨⟨l⟩⟩ := s
  simp only [ByteArray.size, List.size_toArray] at h
  rw [List.eq_nil_of_length_eq_zero h]; rfl

theorem constIs_spec {v : Value} {x : AV} (h : constIs v x = true) : ∃ n, ofConst n v = some x ∧ isCell x := by
  unfold constIs at h
  split at h
  · simp at h; subst h; exact ⟨0, rfl, trivial⟩
  · simp at h; obtain ⟨rfl, rfl⟩ := h; exact ⟨0, rfl, trivial⟩
  · simp only [Bool.and_eq_true] at h
    have h1 := bytes_empty (Nat.eq_of_beq_eq_true h.1)
    have h2 := bytes_empty (Nat.eq_of_beq_eq_true h.2)
    rw [h1, h2]; exact ⟨0, rfl, trivial⟩
  · rename_i n; exact ⟨n, rfl, trivial⟩
  · exact ⟨0, rfl, trivial⟩
  · exact ⟨0, rfl, trivial⟩
  · exact ⟨0, rfl, trivial⟩
  · cases h

def zeroChk : List Value → List AV → Bool
  | [], [] => true
  | v :: vs, x :: xs => constIs v x && zeroChk vs xs
  | _, _ => false

theorem zeroChk_spec : ∀ {vs : List Value} {xs : List AV}, zeroChk vs xs = true → vs.length = xs.length ∧ ∀ (j : Nat) (x : AV), xs[j]? = some x → ∃ v n, vs[j]? = some v ∧ ofConst n v = some x ∧ isCell x
  | [], [], _ => ⟨rfl, fun j x h => by simp at h⟩
  | [], x :: xs, h => by simp [zeroChk] at h
  | v :: vs, [], h => by simp [zeroChk] at h
  | v :: vs, x :: xs, h => by
    simp only [zeroChk, Bool.and_eq_true] at h
    obtain ⟨i1, i2⟩ := zeroChk_spec h.2
    obtain ⟨n, k1, k2⟩ := constIs_spec h.1
    refine ⟨by simp [i1], fun j y hy => ?_⟩
    cases j with
    | zero => simp at hy; subst hy; exact ⟨v, n, rfl, k1, k2⟩
    | succ j => simpa using i2 j y (by simpa using hy)

def fldsChk : List (Nat × Nat) → List Field → Bool
  | [], _ => true
  | (off, ft) :: r, f :: fs => Nat.beq f.offset off && Nat.beq f.type ft && fldsChk r fs
  | _ :: _, [] => false

theorem fldsChk_spec : ∀ {L : List (Nat × Nat)} {fs : List Field}, fldsChk L fs = true → ∀ (f off ft : Nat), L[f]? = some (off, ft) → ∃ fl : Field, fs[f]? = some fl ∧ fl.offset = off ∧ fl.type = ft
  | [], fs, _, f, off, ft, h => by simp at h
  | (a, b) :: r, [], h, _, _, _, _ => by simp [fldsChk] at h
  | (a, b) :: r, g :: fs, h, f, off, ft, hf => by
    simp only [fldsChk, Bool.and_eq_true] at h
    cases f with
    | zero =>
      simp at hf
      obtain ⟨rfl, rfl⟩ := hf
      exact ⟨g, rfl, Nat.eq_of_beq_eq_true h.1.1, Nat.eq_of_beq_eq_true h.1.2⟩
    | succ f => simpa using fldsChk_spec h.2 f off ft (by simpa using hf)

def infosChk (P : Program) : List Field → Bool
  | [] => true
  | f :: fs => (P.info? f.type).isSome && infosChk P fs
theorem infosChk_spec {P : Program} : ∀ {fs : List Field}, infosChk P fs = true → ∀ fl ∈ fs, ∃ inf, P.info? fl.type = some inf
  | [], _, fl, h => by simp at h
  | f :: fs, h, fl, hm => by
    simp only [infosChk, Bool.and_eq_true] at h
    rcases List.mem_cons.1 hm with rfl | hm
    · exact Option.isSome_iff_exists.1 h.1
    · exact infosChk_spec h.2 fl hm

def keyChk (P : Program) (kk kt : Nat) : Bool :=
  match P.underlying kt with
  | some (.int _) => Nat.beq kk 5
  | some .bool => Nat.beq kk 6
  | some .string => Nat.beq kk 7
  | _ => Nat.beq kk 0

def kindChk (P : Program) (i : TI) : TypeDesc → Bool
  | .struct fs => Nat.beq i.kind 1 && fldsChk i.flds fs.toList && infosChk P fs.toList
  | .array len e => Nat.beq i.kind 2 && Nat.beq e i.el && Nat.beq (len * P.cellsOf i.el) i.size
  | .slice e => Nat.beq i.kind 3 && Nat.beq e i.el
  | .map k e => Nat.beq i.kind 4 && Nat.beq e i.el && (match i.flds with | [(kk, kt)] => Nat.beq kt k && keyChk P kk kt | _ => false)
  | .int k => Nat.beq i.kind 5 && decide (k = i.ik)
  | .bool => Nat.beq i.kind 6
  | .string => Nat.beq i.kind 7
  | .pointer _ => Nat.beq i.kind 8
  | _ => Nat.beq i.kind 0 || Nat.beq i.kind 9

def zeroKind (i : TI) : Value → Bool
  | .agg _ => Nat.beq i.kind 1 || Nat.beq i.kind 2
  | _ => !(Nat.beq i.kind 1 || Nat.beq i.kind 2) && Nat.beq i.size 1

def tiChk (P : Program) (t : Nat) (i : TI) : Bool :=
  match P.info? t with
  | some inf => match P.underlying t with
    | some dsc => match inf.zero with
      | some z => Nat.beq inf.size i.size && Nat.beq inf.bytes i.bytes && Nat.beq i.zero.length i.size && zeroChk z.cells.toList i.zero && zeroKind i z && kindChk P i dsc &&
          (!i.cmp || (Nat.beq i.kind 1 && cmpChk P 20 t i.zero && !P.eqGuardType P.depth t))
      | none => false
    | none => false
  | none => false

theorem sval_of {Mu : Nat → Prop} {w : World} {H : List OB} {g : List (Option Nat)} : ∀ {z cs : List AV} {xs : List Value}, sameK z cs = true → xs.length = cs.length → (∀ (j : Nat) (x : AV), cs[j]? = some x → ∀ v, xs[j]? = some v → VR Mu w H g x v) → xs = cs.map sval
  | [], [], xs, _, hl, _ => by simpa using hl
  | [], y :: ys, _, h, _, _ => by simp [sameK] at h
  | x :: z, [], _, h, _, _ => by simp [sameK] at h
  | x :: z, c :: cs, [], _, hl, _ => by simp at hl
  | x :: z, c :: cs, v :: xs, h, hl, hv => by
    simp only [sameK, Bool.and_eq_true] at h
    have ih := sval_of h.2 (xs := xs) (by simpa using hl) fun j y h1 u h2 => hv (j + 1) y (by simpa using h1) u (by simpa using h2)
    have h0 := hv 0 c rfl v rfl
    have : v = sval c := by
      cases c <;> cases x <;> first | (simp at h; done) | (cases h0; rfl)
    rw [ih, this]; rfl

theorem tiChk_ok {P : Program} {t : Nat} {i : TI} (h : tiChk P t i = true) : TiOK P t i := by
  unfold tiChk at h
  cases hi : P.info? t with
  | none => simp [hi] at h
  | some inf =>
  simp only [hi] at h
  cases hu : P.underlying t with
  | none => simp [hu] at h
  | some dsc =>
  simp only [hu] at h
  cases hz : inf.zero with
  | none => simp [hz] at h
  | some z =>
  simp only [hz, Bool.and_eq_true] at h
  obtain ⟨⟨⟨⟨⟨⟨a1, a2⟩, a3⟩, a4⟩, a5⟩, a6⟩, a7⟩ := h
  have nb : ∀ {a b : Nat}, Nat.beq a b = true → a = b := Nat.eq_of_beq_eq_true
  obtain ⟨z1, z2⟩ := zeroChk_spec a4
  have nk : ∀ {n m : Nat}, i.kind = n → Nat.beq i.kind m = true → n = m := fun h1 h2 => h1 ▸ nb h2
  refine ⟨⟨inf, z, hi, nb a1, nb a2, hz, ⟨by simpa using z1, fun j x hx => ?_⟩, nb a3, fun hk => ?_, fun h1 h2 => ?_⟩, fun hk => ?_, fun hk => ?_, fun hk => ?_, fun hk => ?_, fun hk => ?_, fun hk => ?_, fun hk => ?_, fun hk => ?_, fun h1 h2 => ?_, fun hc => ?_⟩
  · obtain ⟨v, n, k1, k2, k3⟩ := z2 j x hx
    exact ⟨v, n, by simpa using k1, k2, k3⟩
  · unfold zeroKind at a5
    split at a5
    · exact ⟨_, rfl⟩
    · rcases hk with hk | hk <;> rw [hk] at a5 <;> simp at a5
  · unfold zeroKind at a5
    split at a5
    · simp only [Bool.or_eq_true] at a5
      rcases a5 with a | a
      · exact (h1 (nb a)).elim
      · exact (h2 (nb a)).elim
    · simp only [Bool.and_eq_true] at a5
      refine ⟨?_, nb a5.2⟩
      rename_i hz'
      cases z <;> first | rfl | exact (hz' _ rfl).elim
  · cases dsc <;> simp only [kindChk, Bool.and_eq_true, Bool.or_eq_true] at a6 <;> first
      | (exfalso; first | (have := nk hk a6; omega) | (have := nk hk a6.1; omega) | (have := nk hk a6.1.1; omega) | (rcases a6 with a | a <;> (have := nk hk a; omega)))
      | skip
    rename_i fs
    refine ⟨fs, hu, fun f off ft hf => ?_, fun fl hfl => infosChk_spec a6.2 fl (by simpa using hfl)⟩
    have := fldsChk_spec a6.1.2 f off ft hf
    simpa using this
  · cases dsc <;> simp only [kindChk, Bool.and_eq_true, Bool.or_eq_true] at a6 <;> first
      | (exfalso; first | (have := nk hk a6; omega) | (have := nk hk a6.1; omega) | (have := nk hk a6.1.1; omega) | (rcases a6 with a | a <;> (have := nk hk a; omega)))
      | skip
    rename_i len e
    exact ⟨len, by rw [hu, nb a6.1.2], nb a6.2⟩
  · cases dsc <;> simp only [kindChk, Bool.and_eq_true, Bool.or_eq_true] at a6 <;> first
      | (exfalso; first | (have := nk hk a6; omega) | (have := nk hk a6.1; omega) | (have := nk hk a6.1.1; omega) | (rcases a6 with a | a <;> (have := nk hk a; omega)))
      | skip
    rw [hu, nb a6.2]
  · cases dsc <;> simp only [kindChk, Bool.and_eq_true, Bool.or_eq_true] at a6 <;> first
      | (exfalso; first | (have := nk hk a6; omega) | (have := nk hk a6.1; omega) | (have := nk hk a6.1.1; omega) | (rcases a6 with a | a <;> (have := nk hk a; omega)))
      | skip
    obtain ⟨⟨_, b1⟩, b2⟩ := a6
    split at b2
    · rename_i kk kt hfl
      simp only [Bool.and_eq_true] at b2
      obtain ⟨c1, c2⟩ := b2
      unfold keyChk at c2
      refine ⟨kk, kt, by rw [hu, nb c1, nb b1], hfl, fun h => ?_, fun h => ?_, fun h => ?_⟩
      · subst h
        split at c2
        · rename_i k hk'; exact ⟨k, hk'⟩
        · simp at c2
        · simp at c2
        · simp at c2
      · subst h
        split at c2
        · simp at c2
        · rename_i hk'; exact hk'
        · simp at c2
        · simp at c2
      · subst h
        split at c2
        · simp at c2
        · simp at c2
        · rename_i hk'; exact hk'
        · simp at c2
    · cases b2
  · cases dsc <;> simp only [kindChk, Bool.and_eq_true, Bool.or_eq_true] at a6 <;> first
      | (exfalso; first | (have := nk hk a6; omega) | (have := nk hk a6.1; omega) | (have := nk hk a6.1.1; omega) | (rcases a6 with a | a <;> (have := nk hk a; omega)))
      | skip
    have := a6.2
    simp only [decide_eq_true_eq] at this
    rw [hu, this]
  · cases dsc <;> simp only [kindChk, Bool.and_eq_true, Bool.or_eq_true] at a6 <;> first
      | (exfalso; first | (have := nk hk a6; omega) | (have := nk hk a6.1; omega) | (have := nk hk a6.1.1; omega) | (rcases a6 with a | a <;> (have := nk hk a; omega)))
      | exact hu
  · cases dsc <;> simp only [kindChk, Bool.and_eq_true, Bool.or_eq_true] at a6 <;> first
      | (exfalso; first | (have := nk hk a6; omega) | (have := nk hk a6.1; omega) | (have := nk hk a6.1.1; omega) | (rcases a6 with a | a <;> (have := nk hk a; omega)))
      | exact hu
  · cases dsc <;> simp only [kindChk, Bool.and_eq_true, Bool.or_eq_true] at a6 <;> first
      | (exfalso; first | (have := nk hk a6; omega) | (have := nk hk a6.1; omega) | (have := nk hk a6.1.1; omega) | (rcases a6 with a | a <;> (have := nk hk a; omega)))
      | exact ⟨_, hu⟩
  · refine ⟨dsc, hu, fun fs e => ?_, fun n el e => ?_⟩
    · subst e
      simp only [kindChk, Bool.and_eq_true] at a6
      exact h1 (nb a6.1.1)
    · subst e
      simp only [kindChk, Bool.and_eq_true] at a6
      exact h2 (nb a6.1.1)
  · intro w xs ys cs ds c l1 l2 v1 v2 k1 k2 he
    rw [hc] at a7
    simp only [Bool.not_true, Bool.false_or, Bool.and_eq_true, Bool.not_eq_true'] at a7
    obtain ⟨⟨b1, b2⟩, b3⟩ := a7
    refine ⟨?_, b3⟩
    have e1 : xs = (cs.map sval).toArray := by
      have := sval_of (xs := xs.toList) k1 (by simpa using l1) (fun j x hx v hv => v1 j x hx v (by simpa using hv))
      rw [← this]
    have e2 : ys = (ds.map sval).toArray := by
      have := sval_of (xs := ys.toList) k2 (by simpa using l2) (fun j x hx v hv => v2 j x hx v (by simpa using hv))
      rw [← this]
    have hkind : i.kind = 1 := nb b1
    have hst : ∃ fs, dsc = .struct fs := by
      cases dsc <;> simp only [kindChk, Bool.and_eq_true, Bool.or_eq_true] at a6 <;> first
        | (exfalso; first | (have := nk hkind a6; omega) | (have := nk hkind a6.1; omega) | (have := nk hkind a6.1.1; omega) | (rcases a6 with a | a <;> (have := nk hkind a; omega)))
        | exact ⟨_, rfl⟩
    obtain ⟨fs, rfl⟩ := hst
    have := eqIn_ok w (e := 9980) b2 k1 k2 he
    unfold Op.equal Op.maxDepth
    rw [e1, e2]
    simpa only [vOf, hu] using this

end Go.Ex
/- A seat's tables, and what is asked of them. -/
set_option autoImplicit false
set_option linter.unusedVariables false
set_option linter.unusedSectionVars false
namespace Go.Ex

def fnAt (P : Program) (cfgs : List (Nat × (Nat × Cfg))) (f : Nat) : Option FI :=
  match alook cfgs f with
  | some (m, c) => match P.funcs[f]? with
    | some fn => match fn.body with
      | some b => some ⟨b, fn.results.toList, c, m⟩
      | none => none
    | none => none
  | none => none
def mkE (P : Program) (tab : List (Nat × TI)) (cfgs : List (Nat × (Nat × Cfg))) (ext : FuncId → List AV → Option AV) : EP := ⟨alook tab, fnAt P cfgs, ext⟩

def fnChk (P : Program) (E : EP) (f : Nat) (c : Cfg) : Bool :=
  match P.funcs[f]? with
  | some fn => match fn.body with
    | some b => !(fn.name == "runtime.NumGoroutine") && codeChk fn.ntmps (fun _ ops => drChk E c ops) b
    | none => true
  | none => true

def tabChk (P : Program) : List (Nat × TI) → Bool
  | [] => true
  | (t, i) :: r => tiChk P t i && tabChk P r
def cfgChk (P : Program) (E : EP) : List (Nat × (Nat × Cfg)) → Bool
  | [] => true
  | (f, _, c) :: r => fnChk P E f c && cfgChk P E r

theorem tabChk_spec {P : Program} : ∀ {L : List (Nat × TI)}, tabChk P L = true → ∀ t i, (t, i) ∈ L → TiOK P t i
  | [], _, t, i, h => by simp at h
  | (t', i') :: r, h, t, i, hm => by
    simp only [tabChk, Bool.and_eq_true] at h
    rcases List.mem_cons.1 hm with e | hm
    · cases e; exact tiChk_ok h.1
    · exact tabChk_spec h.2 t i hm
theorem cfgChk_spec {P : Program} {E : EP} : ∀ {L : List (Nat × (Nat × Cfg))}, cfgChk P E L = true → ∀ f m c, (f, (m, c)) ∈ L → fnChk P E f c = true
  | [], _, f, m, c, h => by simp at h
  | (f', m', c') :: r, h, f, m, c, hm => by
    simp only [cfgChk, Bool.and_eq_true] at h
    rcases List.mem_cons.1 hm with e | hm
    · cases e; exact h.1
    · exact cfgChk_spec h.2 f m c hm

theorem mkE_run {P : Program} {tab : List (Nat × TI)} {cfgs : List (Nat × (Nat × Cfg))} {ext : FuncId → List AV → Option AV} (hm : P.follows .mixedOrders = true) (ht : tabChk P tab = true) (hc : cfgChk P (mkE P tab cfgs ext) cfgs = true) (hX : ExtOK P (mkE P tab cfgs ext)) : ∀ k, RunOK P (mkE P tab cfgs ext) k := by
  refine soundD hm (fun t i h => tabChk_spec ht t i (mem_of_alook h)) hX fun f fi hf => ?_
  have hf' : fnAt P cfgs f = some fi := hf
  unfold fnAt at hf'
  split at hf'
  · rename_i m c hl
    split at hf'
    · rename_i fn hfn
      split at hf'
      · rename_i b hb
        cases hf'
        have := cfgChk_spec hc f m c (mem_of_alook hl)
        unfold fnChk at this
        simp only [hfn, hb, Bool.and_eq_true, Bool.not_eq_true'] at this
        exact ⟨fn, hfn, hb, rfl, this.1, this.2⟩
      · cases hf'
    · cases hf'
  · cases hf'

theorem noExt {P : Program} {E : EP} (h : E.ext = fun _ _ => none) : ExtOK P E := fun f args r _ hx => by rw [h] at hx; cases hx

end Go.Ex
