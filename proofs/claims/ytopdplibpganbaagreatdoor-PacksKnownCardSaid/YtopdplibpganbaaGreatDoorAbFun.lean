/-
  DERIVED. Functions.
-/
import Derived.Test.YtopdplibpganbaaGreatDoorAbCode2
set_option linter.unusedSimpArgs false
set_option linter.unusedVariables false
namespace Go.Ab
open Go.RowKit
section
variable {P : Program} {W0 : World} {base L : Nat} {K K' : Kr} {s : St} {w : World}

/-- The functions of the table are the program's. -/
def TblOk (P : Program) (H : FuncId → Hints) (T : Tbl) : Prop :=
  ∀ f a, T.fn f = some a → ∃ fn, P.funcs[f]? = some fn ∧ (fn.name == "runtime.NumGoroutine") = false ∧ cFunc P (H f) fn = some a

theorem res1 {t : TypeId} {agg : Bool} {size : Nat} (hs : sh P t = some (agg, size)) (R : Rel P W0 base L K s.get s.next w) {x v : V} {cx : Value} (hx : VR P K x cx) {s' : St} (h : opLoad agg size x s = .ok v s') :
    ∃ cv, (do loadVar t (← asAddr cx) : Sem Value).run P w = .ok cv w ∧ VR P K v cv ∧ s'.objs = s.objs ∧ s'.next = s.next := by
  unfold opLoad at h
  cases hx <;> simp only at h <;> (try (exact (fail_ok h).elim))
  case ptr n off b hb =>
    obtain ⟨⟨cs, ro⟩, s1, h1, h2⟩ := bind_ok h
    obtain ⟨h3, h4, h5⟩ := cellsOf_ok h1
    obtain ⟨h6, rfl⟩ := need_ok h2
    obtain ⟨cv, a1, a2⟩ := load_core hs h6 (b := b) (o := 0) (w := w) (fun i u e => by simpa using R.cells h3 hb i u e)
    refine ⟨cv, ?_, a2, h4, h5⟩
    simpa [asAddr] using a1
  case ip cs off b o ho hi =>
    obtain ⟨h6, rfl⟩ := need_ok h
    obtain ⟨cv, a1, a2⟩ := load_core hs h6 (b := b) (o := o - off) (R.immCells hi)
    rw [Nat.sub_add_cancel ho] at a1
    exact ⟨cv, by simpa [asAddr] using a1, a2, rfl, rfl⟩

def resOf (tmps : Array Value) : ResultVar → Sem Value
  | .tmp t => pure (tmps.getD t Go.undef)
  | .cell a t => do loadVar t (← asAddr (tmps.getD a Go.undef))

def cRes (P : Program) : ResultVar → Option Res
  | .tmp t => some (Res.tmp t)
  | .cell t ty => (sh P ty).map fun (x : Bool × Nat) => Res.cell t x.1 x.2

theorem evRes_sound {f : Fr} {a : Act} (hF : FrR P K f a) : ∀ (rs : List ResultVar) (l : List Res), rs.mapM (cRes P) = some l → ∀ (s : St), Rel P W0 base L K s.get s.next w → ∀ vs s', evRes f l s = .ok vs s' →
    ∃ cvs : List Value, (rs.mapM (resOf a.tmps)).run P w = .ok cvs w ∧ VRL P K vs cvs ∧ s'.objs = s.objs ∧ s'.next = s.next
  | [], l, h, s, R, vs, s', e => by
    simp only [List.mapM_nil, Option.pure_def, Option.some.injEq] at h
    subst h
    obtain ⟨rfl, rfl⟩ := ret_ok e
    exact ⟨[], by simp, .nil, rfl, rfl⟩
  | r :: rs, l, h, s, R, vs, s', e => by
    simp only [List.mapM_cons, Option.bind_eq_bind, Option.bind_eq_some_iff, Option.pure_def, Option.some.injEq] at h
    obtain ⟨x, hx, l', hl, rfl⟩ := h
    cases r with
    | tmp t =>
      simp only [cRes, Option.some.injEq] at hx; subst hx
      obtain ⟨vs', s1, e1, e2⟩ := bind_ok e
      obtain ⟨rfl, rfl⟩ := ret_ok e2
      obtain ⟨cvs, c1, c2, c3, c4⟩ := evRes_sound hF rs l' hl s R vs' _ e1
      exact ⟨_ :: cvs, by simp [List.mapM_cons, resOf, c1], .cons _ _ _ _ (hF.get t) c2, c3, c4⟩
    | cell t ty =>
      simp only [cRes, Option.map_eq_some_iff] at hx
      obtain ⟨⟨agg, size⟩, hs, rfl⟩ := hx
      obtain ⟨v, s1, e1, e2⟩ := bind_ok e
      obtain ⟨vs', s2, e3, e4⟩ := bind_ok e2
      obtain ⟨rfl, rfl⟩ := ret_ok e4
      obtain ⟨cv, b1, b2, b3, b4⟩ := res1 hs R (hF.get t) e1
      obtain ⟨cvs, c1, c2, c3, c4⟩ := evRes_sound hF rs l' hl s1 (R.like b3 b4) vs' _ e3
      refine ⟨cv :: cvs, ?_, .cons _ _ _ _ b2 c2, by rw [c3, b3], by rw [c4, b4]⟩
      have b1' : (resOf a.tmps (.cell t ty)).run P w = .ok cv w := b1
      simp [List.mapM_cons, b1', c1]

theorem results_sound {fn : Func} {f : Fr} {a : Act} (hF : FrR P K f a) {l : List Res} (hl : fn.results.toList.mapM (cRes P) = some l) (R : Rel P W0 base L K s.get s.next w) {vs : List V} {s' : St} (e : evRes f l s = .ok vs s') :
    ∃ cv, (results fn a.tmps).run P w = .ok cv w ∧ VR P K (one vs) cv ∧ s'.objs = s.objs ∧ s'.next = s.next := by
  obtain ⟨cvs, c1, c2, c3, c4⟩ := evRes_sound hF _ _ hl s R vs s' e
  have hm : (fn.results.mapM (resOf a.tmps)).run P w = .ok cvs.toArray w := by
    rw [Array.mapM_eq_mapM_toList]
    simp [c1]
  have hr : (results fn a.tmps).run P w = .ok (if h : cvs.toArray.size = 1 then cvs.toArray[0] else .tuple cvs.toArray) w := by
    have : results fn a.tmps = (fn.results.mapM (resOf a.tmps)).bind fun vs => Sem.pure (if h : vs.size = 1 then vs[0] else .tuple vs) := by
      unfold results
      congr 1
    rw [this]
    show ((fn.results.mapM (resOf a.tmps)) >>= fun vs => pure (if h : vs.size = 1 then vs[0] else .tuple vs)).run P w = _
    rw [Sem.run_bind, hm]
    rfl
  refine ⟨_, hr, ?_, c3, c4⟩
  match vs, cvs, c2 with
  | [], _, .nil => exact .tup _ _ .nil
  | [v], _, .cons _ cv _ _ h .nil => exact h
  | v :: u :: r, _, .cons _ cv _ _ h (.cons _ cu _ cr h2 h3) =>
    rw [dif_neg (by simp)]
    exact .tup _ _ (.cons _ _ _ _ h (.cons _ _ _ _ h2 h3))
end
end Go.Ab
