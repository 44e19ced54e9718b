/-
  DERIVED. Regions that draw their order: the run in the list's order.
-/
import Derived.Test.YtopdplibpganbaaGreatDoorAbDraw
import Derived.Test.YtopdplibpganbaaGreatDoorAbBefore
set_option linter.unusedSimpArgs false
set_option linter.unusedVariables false
namespace Go.Ab
open Go.RowKit
section
variable {call : FuncId → List V → M V}

theorem logged_det {α : Type} (m : M α) : Dt (logged m) := fun s => by
  unfold Ab.logged
  split
  · exact .inl ⟨_, _, rfl⟩
  · exact .inr ⟨_, rfl⟩
  · exact .inr ⟨_, rfl⟩
  · exact .inr ⟨_, rfl⟩

/-- The run in the list's order. -/
structure Trace (call : FuncId → List V → M V) (l : List AOper) (g : List Log) (f : Fr) (s : St) (fs : Nat → Fr) (ss : Nat → St) (vs : Nat → V) (gs : Nat → Log) : Prop where
  f0 : fs 0 = f
  s0 : ss 0 = s
  step : ∀ j o, l[j]? = some o → logged (evOp call (fs j) o) (ss j) = .ok (vs j, gs j) (ss (j + 1)) ∧ fs (j + 1) = (fs j).put o.dst (vs j)
  un : ∀ j o, l[j]? = some o → ∀ i ∈ o.un, ∃ h, (g ++ (List.range j).map gs)[i]? = some h ∧ h.meets (gs j) = false

theorem evDraw_trace {Q : Fr → St → Prop} {Qp : V → St → Prop} : ∀ (l : List AOper) (g : List Log) (f : Fr) (s : St), (evDraw call l g f s).All Q Qp →
    ∃ fs ss vs gs, Trace call l g f s fs ss vs gs ∧ Q (fs l.length) (ss l.length)
  | [], g, f, s, h => ⟨fun _ => f, fun _ => s, fun _ => undef, fun _ => ⟨[], [], 0, 0⟩, ⟨rfl, rfl, fun j o h => by simp at h, fun j o h => by simp at h⟩, all_ret h⟩
  | o :: r, g, f, s, h => by
    unfold evDraw at h
    obtain ⟨⟨v, lg⟩, s1, h1, h2⟩ := all_det h (logged_det _ s)
    simp only at h2
    split at h2
    · rename_i hun
      obtain ⟨fs, ss, vs, gs, T, q⟩ := evDraw_trace r (g ++ [lg]) (f.put o.dst v) s1 h2
      refine ⟨fun j => match j with | 0 => f | j + 1 => fs j, fun j => match j with | 0 => s | j + 1 => ss j, fun j => match j with | 0 => v | j + 1 => vs j, fun j => match j with | 0 => lg | j + 1 => gs j, ⟨rfl, rfl, ?_, ?_⟩, q⟩
      · intro j o' hj
        cases j with
        | zero =>
          simp only [List.getElem?_cons_zero, Option.some.injEq] at hj
          subst hj
          exact ⟨by simp only [T.s0]; exact h1, T.f0⟩
        | succ j => exact T.step j o' (by simpa using hj)
      · intro j o' hj i hi
        cases j with
        | zero =>
          simp only [List.getElem?_cons_zero, Option.some.injEq] at hj
          subst hj
          rw [List.all_eq_true] at hun
          have := hun i hi
          simp only [List.range_zero, List.map_nil, List.append_nil]
          split at this
          · rename_i h' e
            exact ⟨h', e, by simpa using this⟩
          · cases this
        | succ j =>
          obtain ⟨h', e1, e2⟩ := T.un j o' (by simpa using hj) i hi
          refine ⟨h', ?_, e2⟩
          rw [← e1, List.range_succ_eq_map, List.map_cons, List.map_map, List.append_assoc]
          rfl
    · exact (all_fail h2).elim
end
end Go.Ab
