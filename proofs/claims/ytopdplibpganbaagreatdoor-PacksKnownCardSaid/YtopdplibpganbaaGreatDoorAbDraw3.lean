/-
  DERIVED. Regions that draw their order: every order comes to the same.
-/
import Derived.Test.YtopdplibpganbaaGreatDoorAbDraw2
set_option linter.unusedSimpArgs false
set_option linter.unusedVariables false
namespace Go.Ab
open Go.RowKit
section
variable {P : Program} {ops : Array Oper} {l : List AOper}

theorem un_or {H : Hints} {id : Nat} {bf : Array Nat} {j : Nat} {o : Oper} {ao : AOper} (hc : cOper P H id true ops bf j o = some ao) {i : Nat} (hi : i < j) : i ∈ ao.un ∨ (bf.getD j 0).testBit i = true := by
  simp only [cOper, Option.bind_eq_bind, Option.bind_eq_some_iff] at hc
  obtain ⟨op, _, g, _, frz, _, h4⟩ := hc
  obtain ⟨_, h4⟩ := ite_some h4
  subst h4
  by_cases hb : (bf.getD j 0).testBit i = true
  · exact .inr hb
  · left
    simp only [if_true]
    exact List.mem_filter.2 ⟨List.mem_range.2 hi, by simpa using hb⟩

/-- A set of operations with all that must come before them. -/
def Closed (ops : Array Oper) (D : Nat → Bool) : Prop := ∀ j o, ops[j]? = some o → D j = true → ∀ e ∈ o.after.toList, Region.binds .any e = true → D e.on = true

theorem before_closed {D : Nat → Bool} (hD : Closed ops D) : ∀ (j : Nat) (o : Oper), ops[j]? = some o → (∀ e ∈ o.after.toList, Region.binds .any e = true → D e.on = true) → ∀ i, ((Region.before ops).getD j 0).testBit i = true → D i = true := by
  intro j
  induction j using Nat.strongRecOn with
  | _ j ih =>
    intro o hj hall i hi
    obtain ⟨e, h1, h2, h3⟩ := before_spec hj hi
    have he := hall e h1 h2
    rcases h3 with rfl | ⟨h3, h4⟩
    · exact he
    · have hlt : e.on < ops.size := Nat.lt_trans h3 (Array.getElem?_eq_some_iff.1 hj).1
      exact ih e.on h3 ops[e.on] (Array.getElem?_eq_getElem hlt) (hD e.on ops[e.on] (Array.getElem?_eq_getElem hlt) he) i h4

def Log.wrote (g : Log) (m : Nat) : Bool := g.wr.contains m || (decide (g.lo ≤ m) && decide (m < g.hi))

/-- What is known of one operation of the run. -/
structure StepF (m : M V) (s s1 : St) (v : V) (g : Log) : Prop where
  lo : g.lo = s.next
  hi : g.hi = s1.next
  le : g.lo ≤ g.hi
  rd : ∀ n ∈ g.rd, n < g.lo
  wr : ∀ n ∈ g.wr, n < g.lo
  old : ∀ n, g.wrote n = false → s1.get n = s.get n
  again : ∀ t : St, t.next = g.lo → t.lim = g.lo → (∀ n, n ∈ g.rd ∨ n ∈ g.wr → t.get n = s.get n) →
    ∃ t1, m t = .ok v t1 ∧ t1.next = g.hi ∧ ∀ n, t1.get n = if g.wrote n then s1.get n else t.get n

theorem stepF {m : M V} (hm : Loc m) {s s1 : St} {v : V} {g : Log} (h : logged m s = .ok (v, g) s1) : StepF m s s1 v g := by
  unfold Ab.logged at h
  split at h
  · rename_i a s2 e
    have hi := hm.up { s with lim := s.next, rd := [], wr := [] }
    rw [e] at hi
    have hu : s.next ≤ s2.next := by cases hi with | ok _ _ u => exact u.1
    obtain ⟨l1, r, wr, a1, a2, a3, a4, a5, a6⟩ := hm.loc _ _ _ (Nat.le_refl _) e
    simp only [List.append_nil] at a1 a2 a3 a4 a5 a6
    cases h
    have hw : ∀ n, (Log.wrote ⟨s2.rd, s2.wr, s.next, s2.next⟩ n = true) ↔ (n ∈ wr ∨ (s.next ≤ n ∧ n < s2.next)) := by
      intro n
      simp only [Log.wrote, Bool.or_eq_true, Bool.and_eq_true, decide_eq_true_eq, List.contains_iff_mem, a2]
    refine ⟨rfl, rfl, hu, fun n hn => a3 n (by rw [← a1]; exact hn), fun n hn => a4 n (by rw [← a2]; exact hn), fun n hn => ?_, fun t h1 h2 h3 => ?_⟩
    · refine a5 n ?_
      have : ¬ (n ∈ wr ∨ (s.next ≤ n ∧ n < s2.next)) := fun hh => by rw [(hw n).2 hh] at hn; cases hn
      by_cases hlt : n < s.next
      · exact .inl ⟨hlt, fun hh => this (.inl hh)⟩
      · right
        rcases Nat.lt_or_ge n s2.next with h | h
        · exact absurd (.inr ⟨by omega, h⟩) this
        · exact h
    · obtain ⟨t1, c1, c2, c3, c4, c5, c6, c7⟩ := a6 t h1 h2 fun n hn => by
        rcases hn with hn | hn | hn
        · exact h3 n (.inl (by rw [a1]; exact hn))
        · exact h3 n (.inr (by rw [a2]; exact hn))
        · omega
      refine ⟨t1, c1, c2, fun n => ?_⟩
      by_cases hx : Log.wrote ⟨s2.rd, s2.wr, s.next, s2.next⟩ n = true
      · rw [if_pos hx]
        exact c6 n ((hw n).1 hx)
      · rw [if_neg hx]
        refine c7 n ?_
        have : ¬ (n ∈ wr ∨ (s.next ≤ n ∧ n < s2.next)) := fun hh => hx ((hw n).2 hh)
        by_cases hlt : n < s.next
        · exact .inl ⟨hlt, fun hh => this (.inl hh)⟩
        · right
          rcases Nat.lt_or_ge n s2.next with h | h
          · exact absurd (.inr ⟨by omega, h⟩) this
          · exact h
  · cases h
  · cases h
  · cases h

theorem meets_spec {a b : Log} (h : a.meets b = false) : (∀ m, m ∈ b.rd ∨ m ∈ b.wr → a.wrote m = false) ∧ ∀ m, m ∈ b.wr → m ∉ a.rd := by
  simp only [Log.meets, Bool.or_eq_false_iff, List.any_eq_false, Bool.or_eq_true, Bool.and_eq_true, decide_eq_true_eq, List.contains_iff_mem, not_or, not_and] at h
  obtain ⟨h1, h2⟩ := h
  refine ⟨fun m hm => ?_, fun m hm => (h2 m hm).2⟩
  have : ¬ (a.lo ≤ m ∧ m < a.hi) ∧ m ∉ a.wr := by
    rcases hm with hm | hm
    · exact ⟨fun hh => (h1 m hm).1 hh.1 hh.2, (h1 m hm).2⟩
    · exact ⟨fun hh => (h2 m hm).1.1 hh.1 hh.2, (h2 m hm).1.2⟩
  cases hw : a.wrote m with
  | false => rfl
  | true =>
    simp only [Log.wrote, Bool.or_eq_true, Bool.and_eq_true, decide_eq_true_eq, List.contains_iff_mem] at hw
    rcases hw with hw | hw
    · exact absurd hw this.2
    · exact absurd hw this.1
end
end Go.Ab
