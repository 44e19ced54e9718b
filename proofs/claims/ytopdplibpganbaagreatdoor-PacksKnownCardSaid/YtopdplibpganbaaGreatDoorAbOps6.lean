/-
  DERIVED. Each operation of the abstract machine, held against the model's: equality, conversions, new slices.
-/
import Derived.Test.YtopdplibpganbaaGreatDoorAbOps5
set_option linter.unusedSimpArgs false
set_option linter.unusedVariables false
namespace Go.Ab
open Go.RowKit
section
variable {P : Program} {W0 : World} {base L : Nat} {K : Kr} {s s' : St} {w : World}

def eqStep (P : Program) (d : Nat) (a b : Array Value) (f : Field) (_ : Option Bool × Unit) : Sem (ForInStep (Option Bool × Unit)) :=
  if f.name ≠ "_" then do
    let x ← part f.type a f.offset
    let y ← part f.type b f.offset
    let e ← Op.equalIn d f.type x y
    if (!e) = true then pure (ForInStep.done (some false, ())) else pure (ForInStep.yield (none, ()))
  else pure (ForInStep.yield (none, ()))

theorem eqCells_sim {xs ys : List V} {a b : Array Value} (hx : VRL P K xs a.toList) (hy : VRL P K ys b.toList) (d : Nat) : ∀ (fields : List Field) (offs : List (Nat × Kd)) (r : Bool), eqOffs P fields = some offs → eqCells offs xs ys = some r →
    (forIn fields ((none : Option Bool), ()) (eqStep P (d + 1) a b)).run P w = .ok (if r then (none, ()) else (some false, ())) w := by
  intro fields
  induction fields with
  | nil =>
    intro offs r h1 h2
    simp only [eqOffs, Option.some.injEq] at h1; subst h1
    simp only [eqCells, Option.some.injEq] at h2; subst h2
    simp
  | cons f rest ih =>
    intro offs r h1 h2
    rw [List.forIn_cons]
    unfold eqOffs at h1
    by_cases hn : f.name = "_"
    · rw [if_pos hn] at h1
      have e0 : ¬ (f.name ≠ "_") := by simpa using hn
      have : eqStep P (d + 1) a b f (none, ()) = pure (ForInStep.yield (none, ())) := by unfold eqStep; rw [if_neg e0]
      rw [this]
      simp only [pure_bind]
      exact ih offs r h1 h2
    · rw [if_neg hn] at h1
      have one : ∀ (kd : Kd) (dsc : TypeDesc) (offs' : List (Nat × Kd)), P.underlying f.type = some dsc → isAggD dsc = false → kd.fits dsc = true → offs = (f.offset, kd) :: offs' →
          ∃ q : Bool, (eqStep P (d + 1) a b f (none, ())).run P w = .ok (if q then ForInStep.yield (none, ()) else ForInStep.done (some false, ())) w ∧ (q = true → eqCells offs' xs ys = some r) ∧ (q = false → r = false) := by
        intro kd dsc offs' e1 e2 e3 e5
        subst e5
        simp only [eqCells] at h2
        cases hx' : xs[f.offset]? with
        | none => rw [hx'] at h2; cases h2
        | some x =>
          cases hy' : ys[f.offset]? with
          | none => rw [hx', hy'] at h2; cases h2
          | some y =>
            rw [hx', hy'] at h2
            simp only at h2
            obtain ⟨cx, a1, a2⟩ := hx.array _ _ hx'
            obtain ⟨cy, b1, b2⟩ := hy.array _ _ hy'
            have hag : (isAgg f.type).run P w = .ok false w := by
              simp only [isAgg, Sem.run_bind, run_underlying e1, Result.andThen_ok]
              cases dsc <;> first | rfl | simp [isAggD] at e2
            have p1 : (part f.type a f.offset).run P w = .ok cx w := by simp [part, hag, a1]
            have p2 : (part f.type b f.offset).run P w = .ok cy w := by simp [part, hag, b1]
            cases hk : keq kd x y with
            | none => rw [hk] at h2; cases h2
            | some q =>
              obtain ⟨_, _, k3⟩ := keq_sim (P := P) (K := K) (w := w) a2 b2 hk e3
              have hq := k3 d f.type e1
              rw [hk] at h2
              refine ⟨q, ?_, ?_, ?_⟩
              · simp only [eqStep, ne_eq, hn, not_false_eq_true, if_true, Sem.run_bind, p1, p2, hq, Result.andThen_ok]
                cases q <;> simp
              · intro e; subst e; exact h2
              · intro e; subst e; simp only [Option.some.injEq] at h2; exact h2.symm
      cases hd : P.underlying f.type with
      | none => rw [hd] at h1; cases h1
      | some dsc =>
        rw [hd] at h1
        cases dsc <;> simp only [Option.map_eq_some_iff] at h1 <;> (try (cases h1; done))
        case int k =>
          obtain ⟨offs', e4, e5⟩ := h1
          obtain ⟨q, q1, q2, q3⟩ := one .int _ offs' hd rfl rfl e5.symm
          simp only [Sem.run_bind, q1, Result.andThen_ok]
          cases q with
          | true => exact ih offs' r e4 (q2 rfl)
          | false => rw [q3 rfl]; rfl
        case string =>
          obtain ⟨offs', e4, e5⟩ := h1
          obtain ⟨q, q1, q2, q3⟩ := one .str _ offs' hd rfl rfl e5.symm
          simp only [Sem.run_bind, q1, Result.andThen_ok]
          cases q with
          | true => exact ih offs' r e4 (q2 rfl)
          | false => rw [q3 rfl]; rfl
        case bool =>
          obtain ⟨offs', e4, e5⟩ := h1
          obtain ⟨q, q1, q2, q3⟩ := one .bool _ offs' hd rfl rfl e5.symm
          simp only [Sem.run_bind, q1, Result.andThen_ok]
          cases q with
          | true => exact ih offs' r e4 (q2 rfl)
          | false => rw [q3 rfl]; rfl

theorem isNilSl_sim {x : V} {cx : Value} (h : VR P K x cx) {r : Bool} (e : isNilSl x = some r) : ∃ a l c, cx = .slice a l c ∧ a.isNone = r := by
  cases h <;> simp only [isNilSl] at e <;> (try (cases e; done))
  case slnil sz => cases e; exact ⟨none, 0, 0, rfl, rfl⟩
  case sl sz l t b o cap g1 g2 g3 g4 =>
    refine ⟨_, _, _, rfl, ?_⟩
    cases t with
    | nil => exact g4.elim
    | lit => simp only [isNilSl, Option.some.injEq] at e; subst e; rfl
    | full => simp only [isNilSl, Option.some.injEq] at e; subst e; rfl
    | no => simp [isNilSl] at e
    | «at» n => simp only [isNilSl, Option.some.injEq] at e; subst e; rfl
  case rs => cases e; exact ⟨_, _, _, rfl, rfl⟩

/-- The model's ==, kind by kind. -/
theorem equalIn_bool {t : TypeId} (hd : P.underlying t = some .bool) (n : Nat) (a b : Bool) : (Op.equalIn (n + 1) t (.bool a) (.bool b)).run P w = .ok (a == b) w := by
  simp [Op.equalIn, run_underlying hd]
theorem equalIn_ptr {t e : TypeId} (hd : P.underlying t = some (.pointer e)) (n : Nat) (b : Option Addr) : (Op.equalIn (n + 1) t (.pointer none) (.pointer b)).run P w = .ok b.isNone w := by
  simp [Op.equalIn, run_underlying hd]
theorem equalIn_ptr' {t e : TypeId} (hd : P.underlying t = some (.pointer e)) (n : Nat) (b : Addr) : (Op.equalIn (n + 1) t (.pointer (some b)) (.pointer none)).run P w = .ok false w := by
  simp [Op.equalIn, run_underlying hd]
theorem equalIn_slice {t e : TypeId} (hd : P.underlying t = some (.slice e)) (n : Nat) (l c : Nat) (b : Option Addr) (l' c' : Nat) : (Op.equalIn (n + 1) t (.slice none l c) (.slice b l' c')).run P w = .ok b.isNone w := by
  simp [Op.equalIn, run_underlying hd]
theorem equalIn_slice' {t e : TypeId} (hd : P.underlying t = some (.slice e)) (n : Nat) (l c : Nat) (b : Option Addr) (l' c' : Nat) : (Op.equalIn (n + 1) t (.slice b l' c') (.slice none l c)).run P w = .ok b.isNone w := by
  cases b <;> simp [Op.equalIn, run_underlying hd]
theorem equalIn_map {t k e : TypeId} (hd : P.underlying t = some (.map k e)) (n : Nat) (b : Option Nat) : (Op.equalIn (n + 1) t (.map none) (.map b)).run P w = .ok b.isNone w := by
  simp [Op.equalIn, run_underlying hd]
theorem equalIn_map' {t k e : TypeId} (hd : P.underlying t = some (.map k e)) (n : Nat) (b : Nat) : (Op.equalIn (n + 1) t (.map (some b)) (.map none)).run P w = .ok false w := by
  simp [Op.equalIn, run_underlying hd]
theorem equalIn_func {t : TypeId} {a b c} (hd : P.underlying t = some (.func a b c)) (n : Nat) : (Op.equalIn (n + 1) t .nilFunc .nilFunc).run P w = .ok true w := by
  simp [Op.equalIn, run_underlying hd]
theorem equalIn_func1 {t : TypeId} {a b c} (hd : P.underlying t = some (.func a b c)) (n : Nat) (f : Fn) (x y : Array Value) : (Op.equalIn (n + 1) t .nilFunc (.func f x y)).run P w = .ok false w := by
  simp [Op.equalIn, run_underlying hd]
theorem equalIn_func2 {t : TypeId} {a b c} (hd : P.underlying t = some (.func a b c)) (n : Nat) (f : Fn) (x y : Array Value) : (Op.equalIn (n + 1) t (.func f x y) .nilFunc).run P w = .ok false w := by
  simp [Op.equalIn, run_underlying hd]
theorem equalIn_if {t : TypeId} {ms} (hd : P.underlying t = some (.interface ms)) (n : Nat) : (Op.equalIn (n + 1) t .nilIface .nilIface).run P w = .ok true w := by
  simp [Op.equalIn, run_underlying hd]
theorem equalIn_if1 {t : TypeId} {ms} (hd : P.underlying t = some (.interface ms)) (n : Nat) (u : TypeId) (v : Value) : (Op.equalIn (n + 1) t .nilIface (.iface u v)).run P w = .ok false w := by
  simp [Op.equalIn, run_underlying hd]
theorem equalIn_if2 {t : TypeId} {ms} (hd : P.underlying t = some (.interface ms)) (n : Nat) (u : TypeId) (v : Value) : (Op.equalIn (n + 1) t (.iface u v) .nilIface).run P w = .ok false w := by
  simp [Op.equalIn, run_underlying hd]
theorem equalIn_if3 {t : TypeId} {ms} (hd : P.underlying t = some (.interface ms)) (n : Nat) (u u' : TypeId) (v v' : Value) (h : u ≠ u') : (Op.equalIn (n + 1) t (.iface u v) (.iface u' v')).run P w = .ok false w := by
  simp [Op.equalIn, run_underlying hd, h]

theorem equalIn_struct {t : TypeId} {fields : Array Field} (hd : P.underlying t = some (.struct fields)) (g2 : P.stoodInHeld t = false) (n : Nat) {a b : Array Value} {r : Bool}
    (key : (forIn fields.toList ((none : Option Bool), ()) (eqStep P (n + 1) a b)).run P w = .ok (if r then (none, ()) else (some false, ())) w) : (Op.equalIn (n + 2) t (.agg a) (.agg b)).run P w = .ok r w := by
  simp only [Op.equalIn, Sem.run_bind, run_underlying hd, Result.andThen_ok, run_program, g2, Bool.false_eq_true, if_false]
  rw [← Array.forIn_toList]
  show ((Sem.run P (forIn fields.toList ((none : Option Bool), ()) (eqStep P (n + 1) a b)) w).andThen _) = _
  rw [key]
  cases r <;> rfl

/-- A value that == does not take for a number or a text. -/
def Odd (v : Value) : Prop := match v with
  | .int _ _ | .string _ | .float _ _ | .complex _ _ _ => False
  | _ => True

theorem veq_sim {t : TypeId} {ek : Ek} (hek : ekOf P t = some ek) {x y : V} {cx cy : Value} (hx : VR P K x cx) (hy : VR P K y cy) {cst : Bool} {ox oy : Operand} (hc : cst = (isConst ox || isConst oy))
    {op : BinOp} (hop : op = .eql ∨ op = .neq) {r : Bool} (h : veq ek cst x y = some r) :
    (eqGuard op t ox oy cx cy).run P w = .ok () w ∧ (Op.equal t cx cy).run P w = .ok r w ∧ Odd cx := by
  unfold ekOf at hek
  cases hd : P.underlying t with
  | none => rw [hd] at hek; cases hek
  | some d =>
    rw [hd] at hek
    cases d <;> simp only [Option.some.injEq] at hek <;> (try (cases hek; done)) <;> (try subst hek)
    case bool =>
      simp only [veq] at h
      cases x <;> cases y <;> simp only [eqBool, Option.some.injEq] at h <;> (try (cases h; done))
      subst h; cases hx; cases hy
      exact ⟨by rcases hop with rfl | rfl <;> rfl, equalIn_bool hd 9999 _ _, trivial⟩
    case int => simp only [veq] at h; cases h
    case string => simp only [veq] at h; cases h
    case pointer e =>
      simp only [veq] at h
      cases x <;> cases y <;> simp only [eqPtr, Option.some.injEq] at h <;> (try (cases h; done))
      all_goals
        subst h; cases hx; cases hy
        refine ⟨by rcases hop with rfl | rfl <;> rfl, ?_, trivial⟩
        first | exact equalIn_ptr hd 9999 _ | exact equalIn_ptr' hd 9999 _
    case slice e =>
      simp only [veq, eqSl] at h
      cases hn : isNilSl x with
      | none =>
        rw [hn] at h; simp only at h
        cases hn' : isNilSl y with
        | none => rw [hn'] at h; cases h
        | some b => rw [hn'] at h; cases b <;> simp at h
      | some b =>
        obtain ⟨a1, l1, c1, rfl, ha⟩ := isNilSl_sim hx hn
        rw [hn] at h
        cases b with
        | true =>
          simp only at h
          obtain ⟨a2, l2, c2, rfl, hb⟩ := isNilSl_sim hy h
          cases a1 with
          | some _ => cases ha
          | none => exact ⟨by rcases hop with rfl | rfl <;> rfl, by rw [← hb]; exact equalIn_slice hd 9999 _ _ _ _ _, trivial⟩
        | false =>
          simp only at h
          cases hn' : isNilSl y with
          | none => rw [hn'] at h; cases h
          | some b' =>
            obtain ⟨a2, l2, c2, rfl, hb⟩ := isNilSl_sim hy hn'
            rw [hn'] at h
            cases b' with
            | false => cases h
            | true =>
              simp only [Option.some.injEq] at h
              subst h
              cases a2 with
              | some _ => cases hb
              | none => exact ⟨by rcases hop with rfl | rfl <;> rfl, by rw [← ha]; exact equalIn_slice' hd 9999 _ _ _ _ _, trivial⟩
    case map k e =>
      simp only [veq] at h
      cases x <;> cases y <;> simp only [eqMap, Option.some.injEq] at h <;> (try (cases h; done))
      all_goals
        subst h; cases hx; cases hy
        refine ⟨by rcases hop with rfl | rfl <;> rfl, ?_, trivial⟩
        first | exact equalIn_map hd 9999 _ | exact equalIn_map' hd 9999 _
    case func ps rs v =>
      simp only [veq] at h
      cases x <;> cases y <;> simp only [eqFn, Option.some.injEq] at h <;> (try (cases h; done))
      all_goals
        subst h; cases hx; cases hy
        refine ⟨by rcases hop with rfl | rfl <;> rfl, ?_, trivial⟩
        first | exact equalIn_func hd 9999 | exact equalIn_func1 hd 9999 _ _ _ | exact equalIn_func2 hd 9999 _ _ _
    case interface ms =>
      simp only [veq] at h
      cases x <;> cases y <;> simp only [eqIf, Option.some.injEq] at h <;> (try (cases h; done))
      · split at h
        · cases h
        · rename_i hne
          cases h; cases hx; cases hy
          exact ⟨by rcases hop with rfl | rfl <;> rfl, equalIn_if3 hd 9999 _ _ _ _ hne, trivial⟩
      · subst h; cases hx; cases hy
        exact ⟨by rcases hop with rfl | rfl <;> rfl, equalIn_if2 hd 9999 _ _, trivial⟩
      · subst h; cases hx; cases hy
        exact ⟨by rcases hop with rfl | rfl <;> rfl, equalIn_if1 hd 9999 _ _, trivial⟩
      · cases hx; cases hy
        split at h
        · rename_i hcst
          cases h
          refine ⟨?_, equalIn_if hd 9999, trivial⟩
          rw [hc] at hcst
          cases ox <;> cases oy <;> simp [isConst] at hcst <;> rcases hop with rfl | rfl <;> rfl
        · cases h
    case struct fields =>
      split at hek
      · cases hek
      · rename_i hg
        simp only [Bool.or_eq_true, not_or, Bool.not_eq_true] at hg
        obtain ⟨g1, g2⟩ := hg
        simp only [Option.map_eq_some_iff] at hek
        obtain ⟨offs, ho, rfl⟩ := hek
        simp only [veq] at h
        cases x <;> cases y <;> simp only [eqAgg] at h <;> (try (cases h; done))
        cases hx with | agg xs a ax1 ax2 =>
        cases hy with | agg ys b by1 by2 =>
        have key := eqCells_sim (w := w) ax2 by2 9998 fields.toList offs r ho h
        refine ⟨?_, ?_, trivial⟩
        · rcases hop with rfl | rfl <;> simp [eqGuard, g1]
        · exact equalIn_struct hd g2 9998 key

theorem binOp_eql_odd {t : TypeId} {cx cy : Value} (h : Odd cx) : binOp .eql t cx cy = (do pure (.bool (← Op.equal t cx cy))) := by
  cases cx <;> first | exact h.elim | rfl
theorem binOp_neq_odd {t : TypeId} {cx cy : Value} (h : Odd cx) : binOp .neq t cx cy = (do pure (.bool (!(← Op.equal t cx cy)))) := by
  cases cx <;> first | exact h.elim | rfl

/-- Every binary operator. -/
theorem vbin_sim {op : BinOp} {t : TypeId} {ek : Ek} (hek : (if op matches .eql | .neq then ekOf P t else some .none) = some ek) {x y : V} {cx cy : Value} (hx : VR P K x cx) (hy : VR P K y cy) {cst : Bool} {ox oy : Operand}
    (hc : cst = (isConst ox || isConst oy)) {v : V} (h : vbin op ek cst x y = some v) :
    ∃ cv, (do eqGuard op t ox oy cx cy; binOp op t cx cy : Sem Value).run P w = .ok cv w ∧ VR P K v cv := by
  unfold vbin at h
  split at h
  · cases hx; cases hy
    obtain ⟨cv, a, b⟩ := ishift_sim (w := w) (P := P) (K := K) (t := t) h
    exact ⟨cv, by simpa [eqGuard] using a, b⟩
  · cases hx; cases hy
    obtain ⟨cv, a, b⟩ := ishift_sim (w := w) (P := P) (K := K) (t := t) h
    exact ⟨cv, by simpa [eqGuard] using a, b⟩
  · cases hx; cases hy
    split at h
    · rename_i hk; subst hk
      obtain ⟨cv, a, b⟩ := ibin_sim (w := w) (P := P) (K := K) (t := t) h
      exact ⟨cv, by rw [eqGuard_at_int]; simpa using a, b⟩
    · cases h
  · cases hx with | str sa a ha =>
    cases hy with | str sb b hb =>
    obtain ⟨cv, r1, r2⟩ := sbin_sim (w := w) (P := P) (K := K) ha hb h
    refine ⟨cv, ?_, r2⟩
    rw [eqGuard_at_string]
    cases op <;> first | exact r1 | (simp [sbin] at h)
  · simp only [Option.map_eq_some_iff] at h
    obtain ⟨r, h1, rfl⟩ := h
    obtain ⟨g1, g2, g3⟩ := veq_sim (w := w) hek hx hy hc (.inl rfl) h1
    refine ⟨.bool r, ?_, .bool _⟩
    simp only [Sem.run_bind, g1, Result.andThen_ok, binOp_eql_odd g3, g2, Sem.run_pure]
  · simp only [Option.map_eq_some_iff] at h
    obtain ⟨r, h1, rfl⟩ := h
    obtain ⟨g1, g2, g3⟩ := veq_sim (w := w) hek hx hy hc (.inr rfl) h1
    refine ⟨.bool (!r), ?_, .bool _⟩
    simp only [Sem.run_bind, g1, Result.andThen_ok, binOp_neq_odd g3, g2, Sem.run_pure]
  · cases h

theorem vun_sim {op : UnOp} {x : V} {cx : Value} (hx : VR P K x cx) {v : V} (h : vun op x = some v) : ∃ cv, (Op.unary op cx).run P w = .ok cv w ∧ VR P K v cv := by
  unfold vun at h
  split at h
  · cases hx; cases h; exact ⟨_, rfl, .int _ _⟩
  · cases hx; cases h; exact ⟨_, rfl, .int _ _⟩
  · cases hx; cases h; exact ⟨_, rfl, .bool _⟩
  · cases h
end
end Go.Ab
