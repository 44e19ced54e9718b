/-
  DERIVED. From what the abstract machine answers to a call of the program, from a world that a row lets in.
-/
import Derived.Test.YtopdplibpganbaaGreatDoorAbDraw6
set_option linter.unusedSimpArgs false
set_option linter.unusedVariables false
namespace Go.Ab
open Go.RowKit

/-- What is known at first: the globals' blocks, and others that are given. -/
def K0 (P : Program) (base : Nat) (X : Nat → Option Nat) : Kr :=
  { low := base, blk := fun n => if n < P.globals.size then some n else X n, imm := fun _ _ => none, tip := fun _ => none }

theorem K0_globs (P : Program) (base : Nat) (X : Nat → Option Nat) : Globs P (K0 P base X) := fun g hg => by simp [K0, hg]

/-- The first state: some variables that are only read. -/
theorem Rel.init {P : Program} {W : World} {L next : Nat} {X : Nat → Option Nat} {G : Nat → Option (List V)} (hsz : P.globals.size ≤ W.heap.size) (hX : ∀ n b, X n = some b → b < W.heap.size ∧ n < next)
    (hnext : P.globals.size ≤ next)
    (hG : ∀ n cs, G n = some cs → n < next ∧ ∃ b c t fz, (K0 P W.heap.size X).blk n = some b ∧ W.heap[b]? = some (.cells c t fz) ∧ ∀ (i : Nat) (v : V), cs[i]? = some v → ∃ cv, c[i]? = some cv ∧ VR P (K0 P W.heap.size X) v cv ∧ v.isCell = true)
    (hinj : ∀ n n' b, (G n).isSome = true → (G n').isSome = true → (K0 P W.heap.size X).blk n = some b → (K0 P W.heap.size X).blk n' = some b → n = n') :
    Rel P W W.heap.size L (K0 P W.heap.size X) (fun n => (G n).map (fun cs => O.cells cs true)) next W where
  bel := .refl _ _
  above := Nat.le_refl _
  low := rfl
  fz := fun b c t fz hb h => by
    rw [Array.getElem?_eq_none (by omega)] at h; cases h
  obj := fun n o h ht => by
    simp only [Option.map_eq_some_iff] at h
    obtain ⟨cs, h1, rfl⟩ := h
    obtain ⟨_, b, c, t, fz, h2, h3, h4⟩ := hG n cs h1
    exact ⟨b, h2, c, t, fz, h3, h4, fun h => by cases h⟩
  inj := fun n n' o o' b h h' _ _ e e' => hinj n n' b (by cases hg : G n <;> simp [hg] at h ⊢) (by cases hg : G n' <;> simp [hg] at h' ⊢) e e'
  noimm := fun n o b i h _ hr _ => rfl
  imm := fun b i v h => by cases h
  tips := fun n b e z h => by
    simp only [Option.map_eq_some_iff] at h
    obtain ⟨cs, _, h⟩ := h
    cases h
  tinj := fun n n' b e z e' z' h => by
    simp only [Option.map_eq_some_iff] at h
    obtain ⟨cs, _, h⟩ := h
    cases h
  fresh := fun n h1 h2 => by
    refine ⟨?_, rfl, ?_⟩
    · simp only [K0]
      rw [if_neg (by omega)]
      cases hx : X n with
      | none => rfl
      | some b => have := (hX n b hx).2; omega
    · cases hg : G n with
      | none => rfl
      | some cs => have := (hG n cs hg).1; omega
  blt := fun n b h => by
    simp only [K0] at h
    split at h
    · cases h; omega
    · exact (hX n b h).1
  tlt := fun n b e z h => by cases h

/-- The call, from the first state. -/
theorem calls_top {P : Program} (hm : P.follows .mixedOrders = true) {H : FuncId → Hints} {T : Tbl} (hT : TblOk P H T) {W : World} (hS : ∀ L, SumSound P W W.heap.size L T) {loops n : Nat} {f : FuncId} {fn : Func} {c : Code}
    (hf : P.funcs[f]? = some fn) (hn : (fn.name == "runtime.NumGoroutine") = false) (hb : fn.body = some c) {args : List V} {args' : Array Value} {K : Kr} {s : St} {L : Nat} {Q : V → St → Prop}
    (hargs : VRL P K args args'.toList) (hG : Globs P K) (R : Rel P W W.heap.size L K s.get s.next W)
    (hA : (evF T loops n f args s).All Q (fun _ _ => False)) (hL : ∀ v s', Q v s' → s'.next ≤ L) :
    Calls P f args' W fun e W' => ∃ v cv s' K', e = .returned cv ∧ Q v s' ∧ Kx s.next s'.next K K' ∧ VR P K' v cv ∧ Rel P W W.heap.size L K' s'.get s'.next W' := by
  have hD : ∀ call, (∀ L, CallSound P W W.heap.size L call) → (∀ f args, Loc (call f args)) → ∀ L, DrawSound P W W.heap.size L call := fun call h1 h2 L => drawSound hm h1 h2 L
  have h := evF_sound hT hS hD (loops := loops) n L f args args' K s W Q (fun _ _ => False) hargs hG R hA hL (fun _ _ h => h.elim)
  rw [run_callFunc hf hn hb] at h
  refine Calls.mono h fun e W' he => ?_
  cases e with
  | returned cv => obtain ⟨v, s', K', h1, h2, h3, h4⟩ := he; exact ⟨v, cv, s', K', rfl, h1, h2, h3, h4⟩
  | panicked chain => obtain ⟨cv, _, v, s', K', h1, _⟩ := he; exact h1.elim
  | outgrown => exact he.elim

/-- Is the answer true? -/
def okTrue : R V → Bool
  | .ok (.bool true) s => Nat.ble s.next (2 ^ 40)
  | _ => false

theorem okTrue_all {r : R V} (h : okTrue r = true) : r.All (fun v s => v = .bool true ∧ s.next ≤ 2 ^ 40) (fun _ _ => False) := by
  unfold okTrue at h
  split at h
  · exact .ok _ _ ⟨rfl, Nat.le_of_ble_eq_true h⟩
  · cases h

/-- All functions of a program, as they compile. -/
def cAll (P : Program) (H : FuncId → Hints) (sum : FuncId → Option (List V → M V)) : Tbl where
  fn := fun f => match P.funcs[f]? with
    | none => none
    | some fn => if fn.name == "runtime.NumGoroutine" then none else cFunc P (H f) fn
  sum := sum

theorem cAll_ok (P : Program) (H : FuncId → Hints) (sum : FuncId → Option (List V → M V)) : TblOk P H (cAll P H sum) := by
  intro f a h
  simp only [cAll] at h
  split at h
  · cases h
  · rename_i fn hfn
    split at h
    · cases h
    · rename_i hn
      exact ⟨fn, hfn, by simpa using hn, h⟩

theorem sumSound_none {P : Program} {W0 : World} {base L : Nat} {T : Tbl} (h : T.sum = fun _ => none) : SumSound P W0 base L T := by
  intro f sm hs
  rw [h] at hs; cases hs
end Go.Ab
