/-
  DERIVED. One operation of the model against its abstract one.
-/
import Derived.Test.YtopdplibpganbaaGreatDoorAbLoc2
set_option linter.unusedSimpArgs false
set_option linter.unusedVariables false
namespace Go.Ab
open Go.RowKit
section
variable (P : Program) (W0 : World) (base L : Nat)

/-- An end, one of those that are left open. -/
def EndV (Q : V → St → Prop) (K : Kr) (s : St) (cv : Value) (w' : World) : Prop :=
  ∃ v s' K', Q v s' ∧ Kx s.next s'.next K K' ∧ VR P K' v cv ∧ Rel P W0 base L K' s'.get s'.next w'

def CallEnd (Q Qp : V → St → Prop) (K : Kr) (s : St) : Ending → World → Prop
  | .returned cv, w' => EndV P W0 base L Q K s cv w'
  | .panicked chain, w' => ∃ cv, chain = [{ v := cv, recovered := false }] ∧ EndV P W0 base L Qp K s cv w'
  | .outgrown, _ => False

def UponV (Q Qp : V → St → Prop) (K : Kr) (s : St) : Result Next → Prop
  | .ok (.value cv) w' => EndV P W0 base L Q K s cv w'
  | .ok .skip w' => EndV P W0 base L Q K s Go.undef w'
  | .ok (.enter f args) w' => Calls P f args w' (CallEnd P W0 base L Q Qp K s)
  | .ok (.row row args) w' => Rows P row args w' fun v w'' => EndV P W0 base L Q K s v w''
  | .halt (.panic cv) w' => EndV P W0 base L Qp K s cv w'
  | _ => False

/-- The globals have their own names. -/
def Globs (P : Program) (K : Kr) : Prop := ∀ g, g < P.globals.size → K.blk g = some g
/-- What calls come to. -/
def CallSound (call : FuncId → List V → M V) : Prop :=
  ∀ (f : FuncId) (args : List V) (args' : Array Value) (K : Kr) (s : St) (w : World) (Q Qp : V → St → Prop), VRL P K args args'.toList → Globs P K → Rel P W0 base L K s.get s.next w →
    (call f args s).All Q Qp → (∀ v s', Q v s' → s'.next ≤ L) → (∀ v s', Qp v s' → s'.next ≤ L) → UponV P W0 base L Q Qp K s ((callFunc f args').run P w)
end

section
variable {P : Program} {W0 : World} {base L : Nat} {K : Kr} {s : St} {w : World} {Q Qp : V → St → Prop}

theorem upon_sims {sm : Sem Value} {m : M V} (h : Sims P W0 base L sm (m s) K s w) (hd : Dt m) (hA : (m s).All Q Qp) (hL : ∀ v s', Q v s' → s'.next ≤ L) :
    UponV P W0 base L Q Qp K s ((do pure (.value (← sm)) : Sem Next).run P w) := by
  rcases hd s with ⟨a, s1, e⟩ | ⟨x, e⟩
  · rw [e] at hA
    cases hA with
    | ok _ _ hq =>
      obtain ⟨cv, w', K', h1, h2, h3, h4⟩ := h a s1 e (hL _ _ hq)
      have : (do pure (.value (← sm)) : Sem Next).run P w = .ok (.value cv) w' := by simp [h1]
      rw [this]
      exact ⟨a, s1, K', hq, h2, h3, h4⟩
  · rw [e] at hA; cases hA

theorem upon_unit {sm : Sem Unit} {m : M V} (h : ∀ v s', m s = .ok v s' → v = undef ∧ ∃ w', sm.run P w = .ok () w' ∧ Rel P W0 base L K s'.get s'.next w' ∧ s'.next = s.next) (hd : Dt m) (hA : (m s).All Q Qp) :
    UponV P W0 base L Q Qp K s ((do sm; pure .skip : Sem Next).run P w) := by
  rcases hd s with ⟨a, s1, e⟩ | ⟨x, e⟩
  · rw [e] at hA
    cases hA with
    | ok _ _ hq =>
      obtain ⟨rfl, w', h1, h2, h3⟩ := h a s1 e
      have : (do sm; pure .skip : Sem Next).run P w = .ok .skip w' := by simp [h1]
      rw [this]
      exact ⟨_, s1, K, hq, by rw [h3]; exact .refl _ _ _, .tup _ _ .nil, h2⟩
  · rw [e] at hA; cases hA

theorem upon_tup {sm : Sem Value} {m : M V} (h : ∀ v s', m s = .ok v s' → v = undef ∧ ∃ w', sm.run P w = .ok (.tuple #[]) w' ∧ Rel P W0 base L K s'.get s'.next w' ∧ s'.next = s.next) (hd : Dt m) (hA : (m s).All Q Qp) :
    UponV P W0 base L Q Qp K s ((do pure (.value (← sm)) : Sem Next).run P w) := by
  rcases hd s with ⟨a, s1, e⟩ | ⟨x, e⟩
  · rw [e] at hA
    cases hA with
    | ok _ _ hq =>
      obtain ⟨rfl, w', h1, h2, h3⟩ := h a s1 e
      have : (do pure (.value (← sm)) : Sem Next).run P w = .ok (.value (.tuple #[])) w' := by simp [h1]
      rw [this]
      exact ⟨_, s1, K, hq, by rw [h3]; exact .refl _ _ _, .tup _ _ .nil, h2⟩
  · rw [e] at hA; cases hA

theorem upon_val {v : V} {cv : Value} (R : Rel P W0 base L K s.get s.next w) (hv : VR P K v cv) (hA : (M.ret v s).All Q Qp) : UponV P W0 base L Q Qp K s (.ok (.value cv) w) :=
  ⟨v, s, K, all_ret hA, .refl _ _ _, hv, R⟩

/-- A value that needs nothing of the state. -/
theorem upon_pure {o : Option V} {why : String} {sm : Sem Value} (R : Rel P W0 base L K s.get s.next w) (h : ∀ v, o = some v → ∃ cv, sm.run P w = .ok cv w ∧ VR P K v cv) (hA : (need why o s).All Q Qp) :
    UponV P W0 base L Q Qp K s ((do pure (.value (← sm)) : Sem Next).run P w) := by
  cases o with
  | none => cases hA
  | some v =>
    obtain ⟨cv, h1, h2⟩ := h v rfl
    have : (do pure (.value (← sm)) : Sem Next).run P w = .ok (.value cv) w := by simp [h1]
    rw [this]
    exact upon_val R h2 hA

theorem Ops.opt {ρ : X → V} {ρc : Operand → Value} (h : Ops P K ρ ρc) {x : Option Operand} {X : Option X} (hx : cXo P x = some X) : VRo P K (X.map ρ) (x.map ρc) := by
  cases x with
  | none => simp only [cXo, Option.some.injEq] at hx; subst hx; simp [VRo]
  | some x =>
    simp only [cXo, Option.map_eq_some_iff] at hx
    obtain ⟨Y, h1, rfl⟩ := hx
    have := h x Y h1
    simpa [VRo] using this

theorem keyOk_fits {t : TypeId} {kd : Kd} (h : keyOk P t = some kd) : ∃ d, P.underlying t = some d ∧ kd.fits d = true := by
  unfold keyOk at h
  split at h <;> first | (cases h; done) | (cases h; exact ⟨_, by assumption, rfl⟩)

theorem lookup_methsOf {name : String} {t : TypeId} {f : FuncId} (h : (methsOf P name).lookup t = some f) : MethOk P t name f := by
  have hm : (t, f) ∈ methsOf P name := by
    revert h
    generalize methsOf P name = l
    induction l with
    | nil => intro h; cases h
    | cons p l ih =>
      intro h
      obtain ⟨a, b⟩ := p
      rw [List.lookup_cons] at h
      split at h
      · rename_i he
        simp only [beq_iff_eq] at he
        cases h; subst he; exact List.mem_cons_self
      · exact List.mem_cons_of_mem _ (ih h)
  unfold methsOf at hm
  rw [List.mem_filterMap] at hm
  obtain ⟨u, _, hu⟩ := hm
  simp only [Option.bind_eq_bind, Option.bind_eq_some_iff] at hu
  obtain ⟨i, hi, m, hm, ⟨f', ptr⟩, hf, hu⟩ := hu
  split at hu
  · cases hu
  · rename_i hp
    have hp : m.path = #[] := by simpa using hp
    split at hu
    · rename_i e hd
      split at hu
      · rename_i hptr
        cases hu
        exact ⟨i, m, ptr, hi, hm, hf, hp, _, hd, hptr⟩
      · cases hu
    · rename_i d hnp hd
      split at hu
      · cases hu
      · rename_i hptr
        cases hu
        refine ⟨i, m, ptr, hi, hm, hf, hp, d, hd, ?_⟩
        cases d <;> first | exact absurd rfl (hnp _) | simpa using hptr
    · cases hu

theorem opRun {ρc : Operand → Value} {o : Oper} {op : Op} (h : o.op = op) : execOp ρc o = execOp ρc { o with op := op } := by subst h; rfl

theorem missList {want : Array (String × TypeId)} {b : Bool} {u : TypeId} (h : u ∈ (List.range P.types.size).filter fun t => ((P.info? t).map fun i => (Instr.missingMethod want i.methods).isNone) == some b) :
    ∃ i, P.info? u = some i ∧ (Instr.missingMethod want i.methods).isNone = b := by
  rw [List.mem_filter] at h
  have := h.2
  simp only [beq_iff_eq, Option.map_eq_some_iff] at this
  exact this


theorem run_method {t : TypeId} {name : String} {f : FuncId} (h : MethOk P t name f) (v : Value) (n : Nat) (w : World) : (method (n + 1) t v name).run P w = .ok (f, v) w := by
  obtain ⟨i, m, ptr, hi, hm, hf, hp, d, hd, hptr⟩ := h
  have hinfo : (typeInfo t).run P w = .ok i w := by simp [typeInfo, hi]
  unfold method
  simp only [Sem.run_bind, hinfo, Result.andThen_ok, hm, hp, List.toList_toArray]
  show ((follow [] t (.val v)).run P w).andThen _ = _
  simp only [follow, Sem.run_pure, Result.andThen_ok, hf, Sem.run_bind]
  unfold receiverAt
  cases d <;> simp only at hptr <;> subst hptr <;> simp [run_underlying hd, Place.get]

theorem run_nilAhead {t : TypeId} {name : String} {f : FuncId} (h : MethOk P t name f) (v : Value) (n : Nat) (w : World) : (nilAhead (n + 1) t v name).run P w = .ok (some false) w := by
  obtain ⟨i, m, ptr, hi, hm, hf, hp, d, hd, hptr⟩ := h
  have hinfo : (typeInfo t).run P w = .ok i w := by simp [typeInfo, hi]
  unfold nilAhead
  simp only [Sem.run_bind, hinfo, Result.andThen_ok, hm, hp]
  show ((followBlind [] t (some v)).run P w).andThen _ = _
  simp only [followBlind, Sem.run_pure, Result.andThen_ok, hf]
  cases d <;> simp only at hptr <;> subst hptr <;> simp [run_underlying hd]

theorem pairs_rel {α β : Type} {f : Nat × Operand → Option β} {parts : Array (Nat × Operand)} {ps : List β} (h : parts.toList.mapM f = some ps) {ρc : Operand → Value} {g : β → α} (C : α → Nat × Value → Prop)
    (hf : ∀ p b, f p = some b → C (g b) (p.1, ρc p.2)) :
    (ps.map g).length = (parts.map fun (x : Nat × Operand) => (x.1, ρc x.2)).size ∧
    ∀ (j : Nat) (p : α) (q : Nat × Value), (ps.map g)[j]? = some p → (parts.map fun (x : Nat × Operand) => (x.1, ρc x.2)).toList[j]? = some q → C p q := by
  refine ⟨by have := mapM_length h; simp [this], fun j p q h1 h2 => ?_⟩
  simp only [Array.toList_map, List.getElem?_map, Option.map_eq_some_iff] at h1 h2
  obtain ⟨b, h1, rfl⟩ := h1
  obtain ⟨x, h2, rfl⟩ := h2
  obtain ⟨b', h3, h4⟩ := mapM_get h j x h2
  rw [h1] at h3; cases h3
  exact hf x b h4

theorem opEntry_sim (R : Rel P W0 base L K s.get s.next w) {x : V} {cx : Value} (hx : VR P K x cx) : Sims P W0 base L (Instr.entry cx) (opEntry x s) K s w := by
  intro v s' h hL
  unfold opEntry at h
  cases hx <;> simp only at h <;> (try (exact (fail_ok h).elim))
  rename_i n off b hb
  cases off with
  | succ off => cases h
  | zero =>
  obtain ⟨o, s1, h1, h2⟩ := bind_ok h
  obtain ⟨rfl, h3, h4⟩ := getO_ok h1
  cases hg : s.get n with
  | none => rw [hg] at h2; cases h2
  | some o =>
    rw [hg] at h2
    obtain ⟨b', p1, p2⟩ := R.obj n o hg (by cases o <;> first | rfl | cases h2)
    rw [p1] at hb; cases hb
    have R1 := R.like h3 h4
    cases o with
    | cells cs ro => cases h2
    | map es c => cases h2
    | tip => cases h2
    | sit st pos => cases h2
    | mit m since seen last =>
      cases m with
      | none => cases h2
      | some m =>
        obtain ⟨hbase, m', seen', hw, hseen, bm, rfl, hbm⟩ := p2
        simp only at h2
        obtain ⟨⟨es, clock⟩, s2, h5, h6⟩ := bind_ok h2
        rcases mapOf_ok h5 with ⟨e5, _⟩ | ⟨n', e5, h7, h8, h9⟩
        · cases e5
        cases e5
        simp only at h6 h7
        have R2 := R1.like h8 h9
        obtain ⟨hbase2, ces, hw2, he⟩ := R1.mapAt h7 hbm
        split at h6
        · cases h6
        · rename_i hcl
          have hcl : clock = last := by simpa using hcl
          subst hcl
          cases hl : seen.getLast? with
          | none => rw [hl] at h6; cases h6
          | some k =>
            rw [hl] at h6
            simp only at h6
            have hback : seen'.back? = some k := by rw [← hseen, Array.getLast?_toList] at hl; exact hl
            have hf := he.find (p := fun q => q == k)
            cases hq : es.find? (fun e => e.born == k) with
            | none => rw [hq] at h6; cases h6
            | some e =>
              rw [hq] at h6 hf
              simp only at h6 hf
              obtain ⟨ce, f1, f2⟩ := hf
              obtain ⟨rfl, rfl⟩ := ret_ok h6
              have f1' : ces.find? (fun e => e.born == k) = some ce := by rw [← Array.find?_toList]; exact f1
              refine ⟨.tuple #[ce.key, ce.val], w, K, ?_, by rw [h9, h4]; exact .refl _ _ _, tup2 f2.1 f2.2.1, R2⟩
              unfold Instr.entry
              simp only [Sem.run_bind, run_get hw rfl, Result.andThen_ok, hback, run_get hw2 rfl, bne_self_eq_false, Bool.false_eq_true, if_false, f1', Sem.run_pure, pure_bind]

theorem cXs_nil {args : Array Operand} (h : cXs P args = some []) : args = #[] := by
  have := mapM_length h
  exact Array.eq_empty_of_size_eq_zero (by simpa using this.symm)
theorem cXs_cons {args : Array Operand} {x : X} {r : List X} (h : cXs P args = some (x :: r)) : ∃ o l, args = (o :: l).toArray ∧ cX P o = some x ∧ l.mapM (cX P) = some r := by
  unfold cXs at h
  cases args with
  | mk l =>
    cases l with
    | nil => cases h
    | cons o l =>
      simp only [List.mapM_cons, Option.bind_eq_bind, Option.bind_eq_some_iff, Option.pure_def, Option.some.injEq, List.cons.injEq] at h
      obtain ⟨X, h1, r', h2, rfl, rfl⟩ := h
      exact ⟨o, l, rfl, h1, h2⟩
theorem mapM_nil' {l : List Operand} (h : l.mapM (cX P) = some []) : l = [] := by
  cases l with
  | nil => rfl
  | cons o l =>
    simp only [List.mapM_cons, Option.bind_eq_bind, Option.bind_eq_some_iff, Option.pure_def, Option.some.injEq, reduceCtorEq, and_false, exists_const, exists_false] at h
theorem cXs_one {args : Array Operand} {x : X} (h : cXs P args = some [x]) : ∃ o, args = #[o] ∧ cX P o = some x := by
  obtain ⟨o, l, rfl, h1, h2⟩ := cXs_cons h
  rw [mapM_nil' h2]
  exact ⟨o, rfl, h1⟩
theorem cXs_two {args : Array Operand} {x y : X} (h : cXs P args = some [x, y]) : ∃ o q, args = #[o, q] ∧ cX P o = some x ∧ cX P q = some y := by
  obtain ⟨o, l, rfl, h1, h2⟩ := cXs_cons h
  obtain ⟨q, l', e, h3, h4⟩ := cXs_cons (args := l.toArray) (by unfold cXs; exact h2)
  have e : l = q :: l' := by simpa using congrArg Array.toList e
  subst e
  rw [mapM_nil' h4]
  exact ⟨o, q, rfl, h1, h3⟩

theorem builtin_sound {call : FuncId → List V → M V} {mu : Bool} {b : Builtin} {ts : Array TypeId} {args : Array Operand} {xs : List X} {ao : AOp} (hop : cBuiltin P mu b ts xs = some ao) (h1 : cXs P args = some xs) {ρ : X → V} {ρc : Operand → Value} (ho : Ops P K ρ ρc)
    (hρ : ∀ v, ρ (.c v) = v) (R : Rel P W0 base L K s.get s.next w) (hA : (xop call ρ ao s).All Q Qp) (hL : ∀ v s', Q v s' → s'.next ≤ L) {ty : TypeId} {cs : Array Bool} :
    UponV P W0 base L Q Qp K s ((builtin b ts ty cs (args.map ρc)).run P w) := by
  have one : ∀ o : Operand, (#[o] : Array Operand).map ρc = #[ρc o] := fun o => by simp
  have two : ∀ o q : Operand, (#[o, q] : Array Operand).map ρc = #[ρc o, ρc q] := fun o q => by simp
  have mnx : ∀ (mx : Bool) (b : Builtin), b = (if mx then .max else .min) → ao = .mnx mx xs → UponV P W0 base L Q Qp K s ((builtin b ts ty cs (args.map ρc)).run P w) := by
    intro mx b hb hao
    subst hao
    simp only [xop] at hA
    have hl := ho.list h1
    revert hA hl
    generalize xs.map ρ = vs
    generalize hcc : args.map ρc = cv
    intro hA hl
    cases vs with
    | nil => exact (all_fail hA).elim
    | cons x r =>
      obtain ⟨l, hcv⟩ : ∃ l, cv = ⟨l⟩ := ⟨cv.toList, by simp⟩
      subst hcv
      cases hl
      rename_i x' r' g1 g2
      cases mx with
      | true => subst hb; exact upon_pure (sm := Builtin.max_ ts ty ⟨x' :: r'⟩) R (fun v h => let ⟨cr, a1, a2⟩ := mmAll_sim g1 g2 h; ⟨cr, a1 w, a2⟩) hA
      | false => subst hb; exact upon_pure (sm := Builtin.min_ ts ty ⟨x' :: r'⟩) R (fun v h => let ⟨cr, a1, a2⟩ := mmAll_sim g1 g2 h; ⟨cr, a1 w, a2⟩) hA
  unfold cBuiltin at hop
  split at hop
  · -- len
    rename_i x
    obtain ⟨o, rfl, hx⟩ := cXs_one h1
    rw [one]
    simp only [Option.bind_eq_bind, Option.bind_eq_some_iff, Option.pure_def] at hop
    obtain ⟨t, ht, hop⟩ := hop
    split at hop
    · rename_i n e hd
      cases hop
      have : (builtin .len ts ty cs #[ρc o]).run P w = .ok (.value (.int .i64 n)) w := by
        simp [builtin, Builtin.len_, ht, run_underlying hd, goInt]
      rw [this]
      simp only [xop, hρ] at hA
      exact upon_val R (.int _ _) hA
    · rename_i hd; cases hop
      exact upon_sims (opLen_sim (k := .str) ht hd rfl R (ho _ _ hx)) (.opLen _ _) hA hL
    · rename_i e hd; cases hop
      exact upon_sims (opLen_sim (k := .sl) ht hd rfl R (ho _ _ hx)) (.opLen _ _) hA hL
    · rename_i k e hd; cases hop
      exact upon_sims (opLen_sim (k := .map) ht hd rfl R (ho _ _ hx)) (.opLen _ _) hA hL
    · cases hop
  · -- cap
    rename_i x
    obtain ⟨o, rfl, hx⟩ := cXs_one h1
    rw [one]
    simp only [Option.bind_eq_bind, Option.bind_eq_some_iff, Option.pure_def] at hop
    obtain ⟨t, ht, hop⟩ := hop
    split at hop
    · rename_i e hd
      cases hop
      refine upon_sims (sm := Builtin.cap_ ts ty #[ρc o]) (m := opCap (ρ x)) (fun v s' h hl => ?_) (.opCap _) hA hL
      obtain ⟨cv, a1, a2, hss⟩ := opCap_sim ht hd R (ho _ _ hx) h
      rw [hss]
      exact ⟨cv, w, K, a1, .refl _ _ _, a2, R⟩
    · cases hop
  · -- append
    rename_i sx x
    obtain ⟨o, q, rfl, hx, hy⟩ := cXs_two h1
    rw [two]
    simp only [Option.bind_eq_bind, Option.bind_eq_some_iff, Option.pure_def] at hop
    obtain ⟨t, ht, d, hd, hop⟩ := hop
    split at hop
    · rename_i e
      simp only [Option.bind_eq_some_iff] at hop
      obtain ⟨t1, ht1, hop⟩ := hop
      have fin : ((∃ e1, P.underlying t1 = some (.slice e1)) ∨ P.underlying t1 = some .string) →
          (∃ a, sh P e = some a ∧ ∃ i, P.info? e = some i ∧ ∃ z, zeroA P e = some z ∧ (if a.2 = 0 ∨ z.cells.length ≠ a.2 ∨ ts.size ≠ 2 then none else some (AOp.app mu a.1 a.2 i.bytes sx x)) = some ao) →
          UponV P W0 base L Q Qp K s ((builtin .append ts ty cs #[ρc o, ρc q]).run P w) := by
        rintro hd1 ⟨⟨agg, size⟩, hs, i, hi, z, hz, hop⟩
        split at hop
        · cases hop
        · rename_i hsz
          cases hop
          simp only [not_or, Decidable.not_not] at hsz
          obtain ⟨_, hzl, hts⟩ := hsz
          have ets : ts = #[t, t1] := by
            obtain ⟨l⟩ := ts
            match l, hts with
            | [a, b], _ =>
              simp at ht ht1
              rw [ht, ht1]
          subst ets
          exact upon_sims (opApp_sim ⟨hd, hd1, hs, ⟨i, hi, rfl⟩, zeroV_size hz hzl⟩ ty R (ho _ _ hx) (ho _ _ hy)) (.opApp _ _ _ _ _ _) hA hL
      split at hop
      · rename_i e1 hd1
        exact fin (.inl ⟨e1, hd1⟩) (by simpa only [Option.bind_eq_some_iff] using hop)
      · rename_i hd1
        exact fin (.inr hd1) (by simpa only [Option.bind_eq_some_iff] using hop)
      · cases hop
    · cases hop
  · -- copy
    rename_i dx x
    obtain ⟨o, q, rfl, hx, hy⟩ := cXs_two h1
    rw [two]
    simp only [Option.bind_eq_bind, Option.bind_eq_some_iff, Option.pure_def] at hop
    obtain ⟨t, ht, d, hd, hop⟩ := hop
    split at hop
    · rename_i e
      simp only [Option.bind_eq_some_iff] at hop
      obtain ⟨⟨agg, size⟩, hs, hop⟩ := hop
      split at hop
      · cases hop
      · cases hop
        exact upon_sims (opCopy_sim ht hd hs R (ho _ _ hx) (ho _ _ hy)) (.opCopy _ _ _ _) hA hL
    · cases hop
  · -- delete
    rename_i m k
    obtain ⟨o, q, rfl, hx, hy⟩ := cXs_two h1
    rw [two]
    simp only [Option.bind_eq_bind, Option.bind_eq_some_iff, Option.pure_def] at hop
    obtain ⟨t, ht, d, hd, hop⟩ := hop
    split at hop
    · rename_i kt e
      simp only [Option.bind_eq_some_iff, Option.some.injEq] at hop
      obtain ⟨kd, h2, rfl⟩ := hop
      obtain ⟨d', h5, h6⟩ := keyOk_fits h2
      exact upon_tup (fun v s' h => opDel_sim ht hd h5 h6 R (ho _ _ hx) (ho _ _ hy) h) (.opDel _ _ _) hA
    · cases hop
  · cases hop; exact mnx true _ rfl rfl
  · cases hop; exact mnx false _ rfl rfl
  · -- clear
    rename_i x
    obtain ⟨o, rfl, hx⟩ := cXs_one h1
    rw [one]
    simp only [Option.bind_eq_bind, Option.bind_eq_some_iff, Option.pure_def] at hop
    obtain ⟨t, ht, hop⟩ := hop
    split at hop
    · rename_i k e hd
      cases hop
      exact upon_tup (fun v s' h => opClr_sim ht hd (.inr ⟨_, _, rfl, rfl⟩) R (ho _ _ hx) h) (.opClr _ _) hA
    · rename_i e hd
      simp only [Option.bind_eq_some_iff, Option.some.injEq] at hop
      obtain ⟨z, h2, rfl⟩ := hop
      exact upon_tup (fun v s' h => opClr_sim ht hd (.inl ⟨_, z, rfl, h2, rfl⟩) R (ho _ _ hx) h) (.opClr _ _) hA
    · cases hop
  · -- panic
    rename_i x
    obtain ⟨o, rfl, hx⟩ := cXs_one h1
    rw [one]
    cases hop
    have hx := ho _ _ hx
    simp only [xop] at hA
    revert hA hx
    generalize ρ x = vx
    generalize hcc : ρc o = cx
    intro hA hx
    cases hx <;> (try simp only at hA) <;> (try (exact (all_fail hA).elim))
    case iface t v v' hv =>
      have : (builtin .panic ts ty cs #[.iface t v']).run P w = .halt (.panic (.iface t v')) w := by
        simp [builtin, Instr.panic, goPanic]
      rw [this]
      cases hA with
      | pan _ _ hq => exact ⟨_, s, K, hq, .refl _ _ _, .iface _ _ _ hv, R⟩
  · cases hop

/-- One operation: what the abstract one leaves open, the model's comes to. -/
theorem xop_sound {call : FuncId → List V → M V} (hcs : CallSound P W0 base L call) {mu : Bool} {o : Oper} {ao : AOp} (hop : cOp P mu o.op = some ao) {ρ : X → V} {ρc : Operand → Value} (ho : Ops P K ρ ρc) (hρ : ∀ v, ρ (.c v) = v) (hG : Globs P K)
    (R : Rel P W0 base L K s.get s.next w) (hA : (xop call ρ ao s).All Q Qp) (hL : ∀ v s', Q v s' → s'.next ≤ L) (hLp : ∀ v s', Qp v s' → s'.next ≤ L) :
    UponV P W0 base L Q Qp K s ((execOp ρc o).run P w) := by
  obtain ⟨dst, op, type, pos, after, guard⟩ := o
  simp only at hop
  cases op <;> simp only [cOp, Option.bind_eq_bind, Option.bind_eq_some_iff, Option.pure_def, Option.some.injEq, reduceCtorEq] at hop
  case move x =>
    obtain ⟨X, h1, rfl⟩ := hop
    exact upon_val R (ho _ _ h1) hA
  case assign x =>
    obtain ⟨X, h1, rfl⟩ := hop
    exact upon_val R (ho _ _ h1) hA
  case pick c a b =>
    obtain ⟨C, h1, A, h2, B, h3, rfl⟩ := hop
    have hc := ho _ _ h1
    have ha := ho _ _ h2
    have hb := ho _ _ h3
    simp only [xop] at hA
    revert hA hc
    generalize ρ C = vc
    generalize hcc : ρc c = cc
    intro hA hc
    cases hc <;> (try (exact (all_fail hA).elim))
    rename_i t
    have : (execOp ρc { dst := dst, op := .pick c a b, type := type, pos := pos, after := after, guard := guard }).run P w = .ok (.value (if t then ρc a else ρc b)) w := by
      cases t <;> simp [execOp, hcc, asBool]
    rw [this]
    refine upon_val R ?_ hA
    cases t
    · exact hb
    · exact ha
  case alloc e =>
    obtain ⟨z, h1, rfl⟩ := hop
    exact upon_sims (alloc_sim h1 R) (.bind (.newO _) fun _ => .ret _) hA hL
  case box e x =>
    obtain ⟨X, h1, rfl⟩ := hop
    refine upon_sims (box_sim (ho _ _ h1) R) (m := if (ρ X).isTup then M.fail "box" else (newO (.cells (ρ X).cells false)).bind fun n => M.ret (.ptr n 0)) ?_ ?_ hL
    · split
      · exact .fail _
      · exact .bind (.newO _) fun _ => .ret _
    · exact hA
  case load t a =>
    obtain ⟨⟨agg, size⟩, h1, A, h2, rfl⟩ := hop
    exact upon_sims (opLoad_sim h1 R (ho _ _ h2)) (.opLoad _ _ _) hA hL
  case store t a x =>
    obtain ⟨⟨agg, size⟩, h1, A, h2, X, h3, rfl⟩ := hop
    exact upon_unit (fun v s' h => opStore_sim h1 R (ho _ _ h2) (ho _ _ h3) h) (.opStore _ _ _) hA
  case binOp bop t x y yt =>
    obtain ⟨ek, h1, X, h2, Y, h3, rfl⟩ := hop
    exact upon_pure R (fun v h => vbin_sim h1 (ho _ _ h2) (ho _ _ h3) rfl h) hA
  case unOp uop t x =>
    obtain ⟨X, h1, rfl⟩ := hop
    exact upon_pure R (fun v h => vun_sim (ho _ _ h1) h) hA
  case convert src d x =>
    obtain ⟨c, h1, X, h2, rfl⟩ := hop
    exact upon_sims (conv_sim h1 R (ho _ _ h2)) (.opConv _ _) hA hL
  case makeInterface t x =>
    split at hop
    · cases hop
    · cases hop
    · rename_i d hn hd
      simp only [Option.bind_eq_some_iff, Option.some.injEq] at hop
      obtain ⟨X, h1, rfl⟩ := hop
      have : (execOp ρc { dst := dst, op := .makeInterface t x, type := type, pos := pos, after := after, guard := guard }).run P w = .ok (.value (.iface t (ρc x))) w := by
        cases d <;> first | exact absurd rfl (hn _) | simp [execOp, Instr.makeInterface, run_underlying hd]
      rw [this]
      exact upon_val R (.iface _ _ _ (ho _ _ h1)) hA
  case makeFunc fn a b =>
    unfold cMkf at hop
    cases fn with
    | func f =>
      simp only [Option.bind_eq_bind, Option.bind_eq_some_iff, Option.pure_def, Option.some.injEq] at hop
      obtain ⟨A, h1, B, h2, rfl⟩ := hop
      exact upon_val R (.fn _ _ _ _ _ (ho.list h1) (ho.list h2)) hA
    | method name =>
      simp only at hop
      split at hop
      · rename_i x ha hb
        simp only [Option.bind_eq_bind, Option.bind_eq_some_iff, Option.pure_def, Option.some.injEq] at hop
        obtain ⟨X, h1, rfl⟩ := hop
        have hx := ho _ _ h1
        have ea : a = #[x] := by apply Array.toList_inj.1; rw [ha]
        have eb : b = #[] := by apply Array.toList_inj.1; rw [hb]
        subst ea; subst eb
        simp only [xop] at hA
        revert hA hx
        generalize ρ X = vx
        generalize hcc : ρc x = cx
        intro hA hx
        cases hx <;> (try (exact (all_fail hA).elim))
        rename_i t v v' hv
        simp only at hA
        cases hf : (methsOf P name).lookup t with
        | none => rw [hf] at hA; exact (all_fail hA).elim
        | some f =>
          rw [hf] at hA
          have : (execOp ρc { dst := dst, op := .makeFunc (.method name) #[x] #[], type := type, pos := pos, after := after, guard := guard }).run P w = .ok (.value (.func (.method name) #[.iface t v'] #[])) w := by
            simp [execOp, Instr.makeFunc, hcc]
          rw [this]
          exact upon_val R (.bm _ _ _ _ _ (lookup_methsOf hf) hv) hA
      · cases hop
    | _ => cases hop
  case makeSlice t l c =>
    obtain ⟨dd, hd, hop⟩ := hop
    split at hop
    · rename_i e
      simp only [Option.bind_eq_some_iff] at hop
      obtain ⟨⟨agg, size⟩, h1, z, h2, i, h3, h4⟩ := hop
      split at h4
      · cases h4
      · simp only [Option.bind_eq_some_iff, Option.some.injEq] at h4
        obtain ⟨X, h5, Y, h6, rfl⟩ := h4
        exact upon_sims (mksl_sim hd h1 h2 h3 R (ho _ _ h5) (ho _ _ h6)) (.opMksl _ _ _ _ _) hA hL
    · cases hop
  case field t x f =>
    obtain ⟨dd, hd, hop⟩ := hop
    split at hop
    · rename_i fields
      simp only [Option.bind_eq_some_iff, Option.some.injEq] at hop
      obtain ⟨fd, h1, ⟨agg, size⟩, h2, X, h3, rfl⟩ := hop
      exact upon_sims (fld_sim hd h1 h2 R (ho _ _ h3)) (.opFld _ _ _ _) hA hL
    · cases hop
  case fieldAddr t x f =>
    obtain ⟨dd, hd, hop⟩ := hop
    split at hop
    · rename_i fields
      simp only [Option.bind_eq_some_iff] at hop
      obtain ⟨fd, h1, ⟨agg, size⟩, h2, h3⟩ := hop
      split at h3
      · cases h3
      · rename_i hsz
        simp only [Option.bind_eq_some_iff, Option.some.injEq] at h3
        obtain ⟨X, h4, rfl⟩ := h3
        exact upon_sims (faddr_sim hd h1 h2 hsz R (ho _ _ h4)) (.opFaddr _ _) hA hL
    · cases hop
  case indexAddr t x i =>
    split at hop
    · rename_i n e hd
      simp only [Option.bind_eq_some_iff, Option.some.injEq] at hop
      obtain ⟨⟨agg, size⟩, h2, X, h3, I, h4, rfl⟩ := hop
      exact upon_sims (opIaddr_sim (arr := some n) hd h2 R (ho _ _ h3) (ho _ _ h4)) (.opIaddr _ _ _ _) hA hL
    · rename_i e hd
      simp only [Option.bind_eq_some_iff, Option.some.injEq] at hop
      obtain ⟨⟨agg, size⟩, h2, X, h3, I, h4, rfl⟩ := hop
      exact upon_sims (opIaddr_sim (arr := none) hd h2 R (ho _ _ h3) (ho _ _ h4)) (.opIaddr _ _ _ _) hA hL
    · cases hop
  case index t x i =>
    split at hop
    · rename_i hd
      simp only [Option.bind_eq_some_iff, Option.some.injEq] at hop
      obtain ⟨X, h3, I, h4, rfl⟩ := hop
      exact upon_sims (idxs_sim hd R (ho _ _ h3) (ho _ _ h4)) (.opIdxs _ _) hA hL
    · rename_i n e hd
      simp only [Option.bind_eq_some_iff, Option.some.injEq] at hop
      obtain ⟨⟨agg, size⟩, h2, X, h3, I, h4, rfl⟩ := hop
      exact upon_sims (idxa_sim hd h2 R (ho _ _ h3) (ho _ _ h4)) (.opIdxa _ _ _ _ _) hA hL
    · cases hop
  case lookup t x k ok =>
    obtain ⟨dd, hd, hop⟩ := hop
    split at hop
    · rename_i kt e
      simp only [Option.bind_eq_some_iff, Option.some.injEq] at hop
      obtain ⟨kd, h1, z, h2, X, h3, Kx, h4, rfl⟩ := hop
      obtain ⟨d, h5, h6⟩ := keyOk_fits h1
      exact upon_sims (opLook_sim hd h5 h6 h2 R (ho _ _ h3) (ho _ _ h4)) (.opLook _ _ _ _ _) hA hL
    · cases hop
  case mapUpdate t m k x =>
    obtain ⟨dd, hd, hop⟩ := hop
    split at hop
    · rename_i kt e
      simp only [Option.bind_eq_some_iff, Option.some.injEq] at hop
      obtain ⟨kd, h1, X, h3, Kx, h4, Y, h7, rfl⟩ := hop
      obtain ⟨d, h5, h6⟩ := keyOk_fits h1
      exact upon_unit (fun v s' h => opMapup_sim hd h5 h6 R (ho _ _ h3) (ho _ _ h4) (ho _ _ h7) h) (.opMapup _ _ _ _) hA
    · cases hop
  case insert t m k x =>
    obtain ⟨dd, hd, hop⟩ := hop
    split at hop
    · rename_i kt e
      simp only [Option.bind_eq_some_iff, Option.some.injEq] at hop
      obtain ⟨kd, h1, X, h3, Kx, h4, Y, h7, rfl⟩ := hop
      obtain ⟨d, h5, h6⟩ := keyOk_fits h1
      exact upon_unit (fun v s' h => opMapup_sim hd h5 h6 R (ho _ _ h3) (ho _ _ h4) (ho _ _ h7) h) (.opMapup _ _ _ _) hA
    · cases hop
  case range t x =>
    split at hop
    · rename_i hd
      simp only [Option.bind_eq_some_iff, Option.some.injEq] at hop
      obtain ⟨X, h3, rfl⟩ := hop
      exact upon_sims (opRange_sim (isMap := false) hd rfl R (ho _ _ h3)) (.opRange _ _) hA hL
    · rename_i kt e hd
      simp only [Option.bind_eq_some_iff, Option.some.injEq] at hop
      obtain ⟨X, h3, rfl⟩ := hop
      exact upon_sims (opRange_sim (isMap := true) hd ⟨_, _, rfl⟩ R (ho _ _ h3)) (.opRange _ _) hA hL
    · cases hop
  case extract x i =>
    obtain ⟨X, h1, rfl⟩ := hop
    have hx := ho _ _ h1
    simp only [xop] at hA
    revert hA hx
    generalize ρ X = vx
    generalize hcc : ρc x = cx
    intro hA hx
    cases vx <;> simp only at hA <;> (try (exact (all_fail hA).elim))
    refine upon_pure (sm := Instr.extract (ρc x) i) R (fun v h => ?_) hA
    rw [hcc]
    obtain ⟨cv, a1, a2⟩ := ext_sim hx h
    exact ⟨cv, a1 w, a2⟩
  case nilCheck x =>
    obtain ⟨X, h1, rfl⟩ := hop
    have hx := ho _ _ h1
    simp only [xop] at hA
    revert hA hx
    generalize ρ X = vx
    generalize hcc : ρc x = cx
    intro hA hx
    have hnx : ∀ cv, cv = cx → (execOp ρc { dst := dst, op := .nilCheck x, type := type, pos := pos, after := after, guard := guard }).run P w = .ok (.value cx) w → (M.ret vx s).All Q Qp → UponV P W0 base L Q Qp K s ((execOp ρc { dst := dst, op := .nilCheck x, type := type, pos := pos, after := after, guard := guard }).run P w) := by
      intro cv e h1 h2
      rw [h1]; exact upon_val R hx h2
    cases hx
    case fn f a c a' c' g1 g2 =>
      cases f <;> (try simp only at hA) <;> first | exact (all_fail hA).elim | exact hnx _ rfl (by simp [execOp, hcc]) hA
    case bm name f t v v' g1 g2 =>
      refine hnx _ rfl ?_ hA
      have hfuel : ∃ n, P.types.size + Made.depth = n + 1 := ⟨P.types.size + 99, rfl⟩
      obtain ⟨n, hn⟩ := hfuel
      simp [execOp, hcc, hn, run_nilAhead g1]
    all_goals ((try simp only at hA); first | exact (all_fail hA).elim | exact hnx _ rfl (by simp [execOp, hcc]) hA)
  case makeMap t r =>
    obtain ⟨dd, hd, hop⟩ := hop
    split at hop
    · rename_i kt e
      simp only [Option.bind_eq_some_iff, Option.some.injEq] at hop
      obtain ⟨X, h1, rfl⟩ := hop
      have hx := ho.opt h1
      simp only [xop] at hA
      have hcase : ((X.map ρ) = none ∧ r.map ρc = none) ∨ ∃ k i, (X.map ρ) = some (.int k i) ∧ r.map ρc = some (.int k i) := by
        revert hx hA
        generalize X.map ρ = vx
        generalize r.map ρc = cx
        intro hA hx
        cases vx with
        | none => exact .inl ⟨rfl, hx.none'⟩
        | some v =>
          cases cx with
          | none => exact hx.elim
          | some cv =>
            have hx : VR P K v cv := hx
            cases hx <;> first | exact .inr ⟨_, _, rfl, rfl⟩ | exact (all_fail (s := s) hA).elim
      exact upon_sims (newMap_sim hd hcase R) (.opMkmap _) hA hL
    · cases hop
  case slice t x lo hi mx =>
    obtain ⟨k, hk, X, h1, LO, h2, HI, h3, MX, h4, rfl⟩ := hop
    refine upon_sims (opSlice_sim (k := k) ?_ R (ho _ _ h1) (ho.opt h2) (ho.opt h3) (ho.opt h4)) (.opSlice _ _ _ _ _) hA hL
    split at hk
    · rename_i hd; cases hk; exact hd
    · rename_i e hd
      simp only [Option.map_eq_some_iff] at hk
      obtain ⟨⟨a, sz⟩, hs, rfl⟩ := hk
      exact ⟨e, hd, hs⟩
    · rename_i n e hd
      simp only [Option.map_eq_some_iff] at hk
      obtain ⟨⟨a, sz⟩, hs, rfl⟩ := hk
      exact ⟨e, a, hd, hs⟩
    · cases hk
  case next x isStr =>
    obtain ⟨X, h1, rfl⟩ := hop
    cases isStr with
    | true => exact upon_sims (opNextStr_sim R (ho _ _ h1)) (.opNext _) hA hL
    | false =>
      obtain ⟨v, s', a1, cv, w', a2, a3, a4, a5⟩ := opNextMap_sim (ty := type) R (ho _ _ h1) hA
      have : (execOp ρc { dst := dst, op := .next x false, type := type, pos := pos, after := after, guard := guard }).run P w = .ok (.value cv) w' := by simp [execOp, a2]
      rw [this]
      exact ⟨v, s', K, a1, by rw [a5]; exact .refl _ _ _, a3, a4⟩
  case typeAssert x xt t ok =>
    obtain ⟨z, h1, hop⟩ := hop
    split at hop
    · rename_i want hd
      simp only [Option.bind_eq_some_iff, Option.some.injEq] at hop
      obtain ⟨X, h2, rfl⟩ := hop
      refine upon_sims (tassi_sim hd h1 (fun u hu => ?_) (fun u hu => ?_) R (ho _ _ h2)) (.opTassI _ _ _ _ _) hA hL
      · obtain ⟨i, hi, hm⟩ := missList hu
        exact ⟨i, hi, by simpa using hm⟩
      · obtain ⟨i, hi, hm⟩ := missList hu
        cases hmm : Instr.missingMethod want i.methods with
        | none => rw [hmm] at hm; cases hm
        | some m => exact ⟨i, m, hi, hmm⟩
    · rename_i d hn hd
      simp only [Option.bind_eq_some_iff, Option.some.injEq] at hop
      obtain ⟨X, h2, rfl⟩ := hop
      exact upon_sims (tass_sim hd (fun ms e => hn _ e) h1 R (ho _ _ h2)) (.opTassC _ _ _ _) hA hL
    · cases hop
  case panic x =>
    obtain ⟨X, h1, rfl⟩ := hop
    have hx := ho _ _ h1
    simp only [xop] at hA
    revert hA hx
    generalize ρ X = vx
    generalize hcc : ρc x = cx
    intro hA hx
    cases hx <;> simp only at hA <;> (try (exact (all_fail hA).elim))
    case iface t v v' hv =>
      have : (execOp ρc { dst := dst, op := .panic x, type := type, pos := pos, after := after, guard := guard }).run P w = .halt (.panic (.iface t v')) w := by
        simp [execOp, hcc, Instr.panic, goPanic]
      rw [this]
      cases hA with
      | pan _ _ hq => exact ⟨_, s, K, hq, .refl _ _ _, .iface _ _ _ hv, R⟩
  case buildSlice t len parts =>
    obtain ⟨dd, hd, hop⟩ := hop
    split at hop
    · rename_i e
      simp only [Option.bind_eq_some_iff] at hop
      obtain ⟨⟨agg, size⟩, h1, z, h2, hop⟩ := hop
      split at hop
      · cases hop
      · rename_i hno
        simp only [not_or, Decidable.not_not, Nat.not_lt] at hno
        simp only [Option.bind_eq_some_iff, Option.some.injEq] at hop
        obtain ⟨ps, h3, rfl⟩ := hop
        obtain ⟨g1, g2⟩ := pairs_rel h3 (ρc := ρc) (g := fun (x : Nat × X) => (x.1, ρ x.2)) (fun p q => p.1 = q.1 ∧ VR P K p.2 q.2) (fun p b hb => by
          simp only [Option.bind_eq_some_iff, Option.some.injEq] at hb
          obtain ⟨X, hX, rfl⟩ := hb
          exact ⟨rfl, ho _ _ hX⟩)
        exact upon_sims (bsl_sim hd h1 h2 hno.2 hno.1 R g1 g2) (.bind (.need _ _) fun _ => .ret _) hA hL
    · cases hop
  case build t parts =>
    obtain ⟨z, h1, dd, hd, hop⟩ := hop
    split at hop
    · rename_i fields
      simp only [Option.bind_eq_some_iff, Option.some.injEq] at hop
      obtain ⟨places, h2, ps, h3, rfl⟩ := hop
      obtain ⟨g1, g2⟩ := pairs_rel h3 (ρc := ρc) (g := fun (x : Nat × Nat × X) => (x.1, x.2.1, ρ x.2.2)) (fun p q => places[q.1]? = some (p.1, p.2.1) ∧ VR P K p.2.2 q.2) (fun p b hb => by
          simp only [Option.bind_eq_some_iff, Option.some.injEq] at hb
          obtain ⟨⟨o, sz⟩, hp, X, hX, rfl⟩ := hb
          exact ⟨hp, ho _ _ hX⟩)
      exact upon_sims (build_struct_sim h1 hd h2 R g1 g2) (.bind (.need _ _) fun _ => .ret _) hA hL
    · rename_i n e
      simp only [Option.bind_eq_some_iff, Option.some.injEq] at hop
      obtain ⟨⟨agg, size⟩, h2, ps, h3, rfl⟩ := hop
      obtain ⟨g1, g2⟩ := pairs_rel h3 (ρc := ρc) (g := fun (x : Nat × Nat × X) => (x.1, x.2.1, ρ x.2.2)) (fun p q => (q.1 * size, size) = (p.1, p.2.1) ∧ VR P K p.2.2 q.2) (fun p b hb => by
          simp only [Option.bind_eq_some_iff, Option.some.injEq] at hb
          obtain ⟨X, hX, rfl⟩ := hb
          exact ⟨rfl, ho _ _ hX⟩)
      exact upon_sims (build_array_sim h1 hd h2 R g1 g2) (.bind (.need _ _) fun _ => .ret _) hA hL
    · cases hop
  case entry x =>
    obtain ⟨X, h1, rfl⟩ := hop
    exact upon_sims (opEntry_sim R (ho _ _ h1)) (.opEntry _) hA hL
  case call c =>
    obtain ⟨xs, h1, hop⟩ := hop
    have hargs := ho.list h1
    split at hop
    · -- a function that is known
      rename_i f hf
      cases hop
      simp only [xop] at hA
      have hx := ho (.func f) _ rfl
      rw [hρ] at hx
      cases hcc : ρc (.func f) <;> rw [hcc] at hx <;> cases hx
      rename_i a' c' g1 g2
      have e1 : a' = #[] := g1.nil_arr
      have e2 : c' = #[] := g2.nil_arr
      subst e1; subst e2
      have : (execOp ρc { dst := dst, op := .call c, type := type, pos := pos, after := after, guard := guard }).run P w = (callFunc f (c.args.map ρc)).run P w := by
        simp [execOp, resolve, hf, hcc, Deferred.ofValue, invoke]
      rw [this]
      exact hcs f _ _ K s w Q Qp hargs hG R hA hL hLp
    · rename_i x hnf hx'
      simp only [Option.bind_eq_some_iff, Option.some.injEq] at hop
      obtain ⟨X, h2, rfl⟩ := hop
      have hx := ho _ _ h2
      simp only [xop] at hA
      revert hA hx
      generalize ρ X = vx
      generalize hcc : ρc x = cx
      intro hA hx
      cases hx <;> (try simp only at hA) <;> (try (exact (all_fail hA).elim))
      case fn f a c' a' c'' g1 g2 =>
        cases f <;> (try simp only at hA) <;> (try (exact (all_fail hA).elim))
        rename_i f
        have : (execOp ρc { dst := dst, op := .call c, type := type, pos := pos, after := after, guard := guard }).run P w = (callFunc f ((a' ++ c.args.map ρc) ++ c'')).run P w := by
          simp only [execOp, resolve, hx']
          simp [hcc, Deferred.ofValue, invoke]
        rw [this]
        refine hcs f _ _ K s w Q Qp ?_ hG R hA hL hLp
        rw [Array.toList_append, Array.toList_append]
        exact (g1.append hargs).append g2
      case bm name f t v v' g1 g2 =>
        have hfuel : ∃ n, P.types.size + Made.depth = n + 1 := ⟨P.types.size + 99, rfl⟩
        obtain ⟨n, hn⟩ := hfuel
        have he : (#[Value.iface t v'] ++ c.args.map ρc).extract 1 (#[Value.iface t v'] ++ c.args.map ρc).size = c.args.map ρc := by
          apply Array.toList_inj.1; simp; exact List.take_of_length_le (by simp)
        have : (execOp ρc { dst := dst, op := .call c, type := type, pos := pos, after := after, guard := guard }).run P w = (callFunc f (#[v'] ++ c.args.map ρc)).run P w := by
          simp only [execOp, resolve, hx']
          simp only [hcc, Deferred.ofValue, pure_bind, invoke]
          have h0 : (#[Value.iface t v'] ++ c.args.map ρc)[0]? = some (.iface t v') := by rw [Array.getElem?_append_left (by simp)]; rfl
          rw [h0, he]
          simp [callMethod, hn, run_method g1]
        rw [this]
        refine hcs f _ _ K s w Q Qp ?_ hG R hA hL hLp
        rw [Array.toList_append]
        exact .cons _ _ _ _ g2 hargs
    · rename_i r name hr
      simp only [Option.bind_eq_some_iff, Option.some.injEq] at hop
      obtain ⟨X, h2, rfl⟩ := hop
      have hx := ho _ _ h2
      simp only [xop] at hA
      revert hA hx
      generalize ρ X = vx
      generalize hcc : ρc r = cx
      intro hA hx
      cases hx <;> (try simp only at hA) <;> (try (exact (all_fail hA).elim))
      rename_i t v v' hv
      cases hf : (methsOf P name).lookup t with
      | none => rw [hf] at hA; exact (all_fail hA).elim
      | some f =>
        rw [hf] at hA
        have hfuel : ∃ n, P.types.size + Made.depth = n + 1 := ⟨P.types.size + 99, rfl⟩
        obtain ⟨n, hn⟩ := hfuel
        have he : (#[Value.iface t v'] ++ c.args.map ρc).extract 1 (#[Value.iface t v'] ++ c.args.map ρc).size = c.args.map ρc := by
          apply Array.toList_inj.1; simp; exact List.take_of_length_le (by simp)
        have : (execOp ρc { dst := dst, op := .call c, type := type, pos := pos, after := after, guard := guard }).run P w = (callFunc f (#[v'] ++ c.args.map ρc)).run P w := by
          simp only [execOp, resolve, hr]
          simp only [hcc, pure_bind, invoke]
          have h0 : (#[Value.iface t v'] ++ c.args.map ρc)[0]? = some (.iface t v') := by rw [Array.getElem?_append_left (by simp)]; rfl
          rw [h0, he]
          simp [callMethod, hn, run_method (lookup_methsOf hf)]
        rw [this]
        refine hcs f _ _ K s w Q Qp ?_ hG R hA hL hLp
        rw [Array.toList_append]
        exact .cons _ _ _ _ hv hargs
    · rename_i b hb
      have hex : ∃ cs, (execOp ρc { dst := dst, op := .call c, type := type, pos := pos, after := after, guard := guard }).run P w =
          (builtin b c.argTypes type cs (c.args.map ρc)).run P w := by
        simp only [execOp, resolve, hb]
        exact ⟨_, rfl⟩
      obtain ⟨cs, hex⟩ := hex
      rw [hex]
      exact builtin_sound hop h1 ho hρ R hA hL
end
end Go.Ab
