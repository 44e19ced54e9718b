/-
  DERIVED. Regions that draw their order: what an operation looks at; partial runs.
-/
import Derived.Test.YtopdplibpganbaaGreatDoorAbFun2
set_option linter.unusedSimpArgs false
set_option linter.unusedVariables false
namespace Go.Ab
open Go.RowKit

theorem xop_congr {call : FuncId → List V → M V} {ρ ρ' : X → V} {op : AOp} (h : ∀ x ∈ op.xs, ρ x = ρ' x) : xop call ρ op = xop call ρ' op := by
  have ml : ∀ (l : List X), (∀ x ∈ l, ρ x = ρ' x) → l.map ρ = l.map ρ' := fun l hl => List.map_congr_left hl
  have mo : ∀ (o : Option X), (∀ x ∈ o.toList, ρ x = ρ' x) → o.map ρ = o.map ρ' := fun o ho => by
    cases o with
    | none => rfl
    | some x => simp [ho x (by simp)]
  cases op <;> simp only [AOp.xs, List.mem_cons, List.not_mem_nil, or_false, forall_eq_or_imp, forall_eq, List.mem_append] at h <;> simp only [xop]
  case build z ps =>
    have : (ps.map fun (x : Nat × Nat × X) => (x.1, x.2.1, ρ x.2.2)) = ps.map fun (x : Nat × Nat × X) => (x.1, x.2.1, ρ' x.2.2) :=
      List.map_congr_left fun x hx => by rw [h x.2.2 (List.mem_map.2 ⟨x, hx, rfl⟩)]
    exact congrArg (fun q => (need "build" (fillA z q)).bind fun cs => M.ret (V.agg cs)) this
  case bsl sz n z ps =>
    have : (ps.map fun (x : Nat × X) => (x.1, ρ x.2)) = ps.map fun (x : Nat × X) => (x.1, ρ' x.2) :=
      List.map_congr_left fun x hx => by rw [h x.2 (List.mem_map.2 ⟨x, hx, rfl⟩)]
    exact congrArg (fun q => (need "buildSlice" (fillL sz (List.replicate n z) q)).bind fun l => M.ret (V.sl sz l .lit)) this
  case mkfn f a b => rw [ml a fun x hx => h x (.inl hx), ml b fun x hx => h x (.inr hx)]
  case mkmap r => rw [mo r h]
  case slc k x lo hi mx => rw [h.1, mo lo fun x hx => h.2 x (.inl (.inl hx)), mo hi fun x hx => h.2 x (.inl (.inr hx)), mo mx fun x hx => h.2 x (.inr hx)]
  case call f args => rw [ml args h]
  case callv x args => rw [h.1, ml args h.2]
  case inv ms x args => rw [h.1, ml args h.2]
  case mnx mx xs => rw [ml xs h]
  all_goals (first | rfl | (simp only [h]; done) | (obtain ⟨h1, h2⟩ := h; simp only [h1, h2]; done) | (obtain ⟨h1, h2, h3⟩ := h; simp only [h1, h2, h3]; done))

/-! ### The last one that wrote -/
def pd (g0 : Nat → Option O) (W : Nat → Nat → Bool) (g : Nat → Nat → Option O) (D : Nat → Bool) : Nat → Nat → Option O
  | 0, m => g0 m
  | i + 1, m => if D i && W i m then g i m else pd g0 W g D i m

theorem pd_congr {g0 : Nat → Option O} {W : Nat → Nat → Bool} {g : Nat → Nat → Option O} {D D' : Nat → Bool} {m : Nat} : ∀ (N : Nat), (∀ i, i < N → D i ≠ D' i → W i m = false) → pd g0 W g D N m = pd g0 W g D' N m
  | 0, _ => rfl
  | N + 1, h => by
    simp only [pd]
    have ih := pd_congr (g0 := g0) (g := g) N fun i hi => h i (by omega)
    by_cases hD : D N = D' N
    · rw [hD, ih]
    · rw [h N (by omega) hD]
      simpa using ih

/-- One more: if nobody behind it writes there, what it wrote stands. -/
theorem pd_add {g0 : Nat → Option O} {W : Nat → Nat → Bool} {g : Nat → Nat → Option O} {D D' : Nat → Bool} {j m : Nat} (hD : ∀ i, D' i = (D i || i == j)) (hj : W j m = true → ∀ k, j < k → D k = true → W k m = false) :
    ∀ N, j < N → pd g0 W g D' N m = if W j m then g j m else pd g0 W g D N m
  | 0, h => by omega
  | N + 1, h => by
    simp only [pd]
    by_cases hN : j = N
    · subst hN
      have e1 : D' j = true := by rw [hD]; simp
      rw [e1]
      simp only [Bool.true_and]
      by_cases hw : W j m = true
      · rw [if_pos hw, if_pos hw]
      · rw [if_neg hw, if_neg hw]
        have : (D j && W j m) = false := by simp [hw]
        rw [this]
        simp only [Bool.false_eq_true, if_false]
        refine pd_congr j fun i hi hne => ?_
        exfalso
        apply hne
        rw [hD]
        have : (i == j) = false := by simp; omega
        simp [this]
    · have hlt : j < N := by omega
      have ih := pd_add (g0 := g0) (g := g) hD hj N hlt
      have e1 : D' N = D N := by
        rw [hD]
        have : (N == j) = false := by simp; omega
        simp [this]
      rw [e1, ih]
      by_cases hw : W j m = true
      · rw [if_pos hw, if_pos hw]
        cases hDN : D N with
        | false => simp
        | true => rw [hj hw N hlt hDN]; simp
      · rw [if_neg hw, if_neg hw]

/-! ### Frames of partial runs -/
def fd (f0 : Fr) (dst : Nat → Option Nat) (v : Nat → V) (D : Nat → Bool) : Nat → Fr
  | 0 => f0
  | i + 1 => if D i then (fd f0 dst v D i).put (dst i) (v i) else fd f0 dst v D i

theorem Fr.get_put (f : Fr) (d : Option Nat) (v : V) (t : Nat) : (f.put d v).get t = if d = some t ∧ t < f.t.length then v else f.get t := by
  cases d with
  | none => simp [Fr.put]
  | some i =>
    simp only [Fr.put, Fr.get, List.getD_eq_getElem?_getD, List.getElem?_set]
    by_cases h : i = t
    · subst h
      by_cases hl : i < f.t.length
      · simp [hl]
      · simp [hl, List.getElem?_eq_none (Nat.le_of_not_lt hl)]
    · simp [h]

theorem fd_len {f0 : Fr} {dst : Nat → Option Nat} {v : Nat → V} {D : Nat → Bool} : ∀ N, (fd f0 dst v D N).t.length = f0.t.length
  | 0 => rfl
  | N + 1 => by
    simp only [fd]
    split
    · cases dst N with
      | none => exact fd_len N
      | some i => simp only [Fr.put, List.length_set]; exact fd_len N
    · exact fd_len N

theorem fd_congr {f0 : Fr} {dst : Nat → Option Nat} {v : Nat → V} {D D' : Nat → Bool} {t : Nat} : ∀ N, (∀ i, i < N → D i ≠ D' i → dst i ≠ some t) → (fd f0 dst v D N).get t = (fd f0 dst v D' N).get t
  | 0, _ => rfl
  | N + 1, h => by
    have ih := fd_congr (f0 := f0) (v := v) N fun i hi => h i (by omega)
    simp only [fd]
    by_cases hD : D N = D' N
    · rw [hD]
      split
      · rw [Fr.get_put, Fr.get_put, fd_len, fd_len, ih]
      · exact ih
    · have hd := h N (by omega) hD
      have e1 : ∀ f : Fr, (f.put (dst N) (v N)).get t = f.get t := fun f => by rw [Fr.get_put, if_neg]; exact fun hh => hd hh.1
      split <;> split <;> simp only [e1, ih]
end Go.Ab
