/-
  DERIVED. Regions that draw their order: the invariant over the operations that have been run.
-/
import Derived.Test.YtopdplibpganbaaGreatDoorAbDraw3
set_option linter.unusedSimpArgs false
set_option linter.unusedVariables false
namespace Go.Ab
open Go.RowKit

theorem Rel.refresh {P : Program} {W0 : World} {base L : Nat} {K : Kr} {g : Nat → Option O} {next : Nat} {w : World} (R : Rel P W0 base L K g next w) {L' next' : Nat} (h : ∀ n, next' ≤ n → n < L' → K.blk n = none ∧ K.tip n = none ∧ g n = none) :
    Rel P W0 base L' K g next' w :=
  { bel := R.bel, above := R.above, low := R.low, fz := R.fz, obj := R.obj, inj := R.inj, noimm := R.noimm, imm := R.imm, tips := R.tips, tinj := R.tinj, fresh := h, blt := R.blt, tlt := R.tlt }

/-- What holds when the operations of D have been run, in whatever order. -/
structure PInv (P : Program) (W0 : World) (base L n : Nat) (l : List AOper) (f : Fr) (s : St) (K0 : Kr) (ss : Nat → St) (vs : Nat → V) (gs : Nat → Log) (D : Nat → Bool) (t : St) (K : Kr) (a : Act) (w : World) : Prop where
  get : ∀ m, t.get m = pd s.get (fun i m => (gs i).wrote m) (fun i => (ss (i + 1)).get) D n m
  fr : FrR P K (fd f (fun i => (l[i]?).bind (·.dst)) vs D n) a
  rel : Rel P W0 base 0 K t.get 0 w
  kx : Kx s.next (ss n).next K0 K
  fresh : ∀ m, s.next ≤ m → m < L → (∀ i, i < n → D i = true → ¬ ((gs i).lo ≤ m ∧ m < (gs i).hi)) → K.blk m = none ∧ K.tip m = none ∧ t.get m = none

section
variable {call : FuncId → List V → M V} {l : List AOper} {fs : Nat → Fr} {ss : Nat → St} {vs : Nat → V} {gs : Nat → Log}

def Steps' (call : FuncId → List V → M V) (l : List AOper) (fs : Nat → Fr) (ss : Nat → St) (vs : Nat → V) (gs : Nat → Log) : Prop :=
  ∀ i o, l[i]? = some o → StepF (evOp call (fs i) o) (ss i) (ss (i + 1)) (vs i) (gs i)

theorem next_mono (F : Steps' call l fs ss vs gs) : ∀ k i, i + k ≤ l.length → (ss i).next ≤ (ss (i + k)).next
  | 0, i, _ => Nat.le_refl _
  | k + 1, i, h => by
    have h1 := next_mono F k i (by omega)
    have hlt : i + k < l.length := by omega
    have S := F (i + k) l[i + k] (List.getElem?_eq_getElem hlt)
    have := S.le
    rw [S.lo, S.hi] at this
    exact Nat.le_trans h1 this

theorem lo_mono (F : Steps' call l fs ss vs gs) {i j : Nat} (hij : i ≤ j) (hj : j ≤ l.length) : (ss i).next ≤ (ss j).next := by
  have := next_mono F (j - i) i (by omega)
  rwa [show i + (j - i) = j from by omega] at this

theorem seq_get (F : Steps' call l fs ss vs gs) (m : Nat) : ∀ j, j ≤ l.length → (ss j).get m = pd (ss 0).get (fun i m => (gs i).wrote m) (fun i => (ss (i + 1)).get) (fun _ => true) j m
  | 0, _ => rfl
  | j + 1, h => by
    simp only [pd, Bool.true_and]
    have hlt : j < l.length := by omega
    have S := F j l[j] (List.getElem?_eq_getElem hlt)
    cases hw : (gs j).wrote m with
    | true => simp
    | false =>
      simp only [Bool.false_eq_true, if_false]
      rw [S.old m hw]
      exact seq_get F m j (by omega)

theorem pd_lt {g0 : Nat → Option O} {W : Nat → Nat → Bool} {g : Nat → Nat → Option O} {m : Nat} (j : Nat) : ∀ k, pd g0 W g (fun i => decide (i < j)) (j + k) m = pd g0 W g (fun _ => true) j m
  | 0 => pd_congr j fun i hi hne => by simp [hi] at hne
  | k + 1 => by
    rw [← Nat.add_assoc]
    simp only [pd]
    have h0 : ¬ ((decide (j + k < j) && W (j + k) m) = true) := by
      have : ¬ j + k < j := by omega
      simp [this]
    rw [if_neg h0]
    exact pd_lt j k

/-- What an operation looks at is there, whichever of the others have been run. -/
theorem agree (F : Steps' call l fs ss vs gs) {D : Nat → Bool} {j : Nat} (hj : j < l.length)
    (hb : ∀ i, i < j → D i = false → (gs i).meets (gs j) = false) (ha : ∀ k, j < k → k < l.length → D k = true → (gs j).meets (gs k) = false) (hjD : D j = false)
    {m : Nat} (hm : m ∈ (gs j).rd ∨ m ∈ (gs j).wr) : pd (ss 0).get (fun i m => (gs i).wrote m) (fun i => (ss (i + 1)).get) D l.length m = (ss j).get m := by
  rw [seq_get F m j (by omega), ← pd_lt (m := m) j (l.length - j), show j + (l.length - j) = l.length from by omega]
  refine pd_congr _ fun i hi hne => ?_
  rcases Nat.lt_trichotomy i j with h | h | h
  · refine (meets_spec (hb i h ?_)).1 m hm
    cases hD : D i with
    | false => rfl
    | true => rw [hD] at hne; simp [h] at hne
  · subst h
    rw [hjD] at hne; simp at hne
  · have hDi : D i = true := by
      cases hD : D i with
      | true => rfl
      | false => rw [hD] at hne; have : ¬ i < j := by omega
                 simp [this] at hne
    have hmeet := ha i h hi hDi
    have Sj := F j l[j] (List.getElem?_eq_getElem hj)
    have Si := F i l[i] (List.getElem?_eq_getElem hi)
    have hmlt : m < (gs j).lo := by
      rcases hm with hm | hm
      · exact Sj.rd m hm
      · exact Sj.wr m hm
    have hlo : (gs j).lo ≤ (gs i).lo := by rw [Sj.lo, Si.lo]; exact lo_mono F (by omega) (by omega)
    cases hw : (gs i).wrote m with
    | false => rfl
    | true =>
      simp only [Log.wrote, Bool.or_eq_true, Bool.and_eq_true, decide_eq_true_eq, List.contains_iff_mem] at hw
      rcases hw with hw | hw
      · have h1 := (meets_spec hmeet).1 m (.inr hw)
        have h2 := (meets_spec hmeet).2 m hw
        rcases hm with hm | hm
        · exact absurd hm h2
        · have : (gs j).wrote m = true := by simp [Log.wrote, hm]
          rw [this] at h1; cases h1
      · omega

theorem evOp_congr {f f' : Fr} {o : AOper} (h : ∀ t, o.uses t = true → f.get t = f'.get t) : evOp call f o = evOp call f' o := by
  have hx : xop call f.ev o.op = xop call f'.ev o.op := xop_congr fun x hx => by
    cases x with
    | c v => rfl
    | t i =>
      refine h i ?_
      unfold AOper.uses
      rw [Bool.or_eq_true]
      left
      rw [List.any_eq_true]
      exact ⟨.t i, hx, by simp⟩
  have hw : f.wants o.g = f'.wants o.g := by
    unfold Fr.wants
    cases hg : o.g with
    | none => rfl
    | some gw =>
      obtain ⟨i, b⟩ := gw
      have : f.get i = f'.get i := h i (by unfold AOper.uses; rw [hg]; simp)
      simp only [this]
  unfold evOp
  rw [hx, hw]

theorem fs_fd {f : Fr} (h0 : fs 0 = f) (hs : ∀ j o, l[j]? = some o → fs (j + 1) = (fs j).put o.dst (vs j)) : ∀ j, j ≤ l.length → fs j = fd f (fun i => (l[i]?).bind (·.dst)) vs (fun _ => true) j
  | 0, _ => h0
  | j + 1, h => by
    have hlt : j < l.length := by omega
    rw [hs j l[j] (List.getElem?_eq_getElem hlt), fs_fd h0 hs j (by omega)]
    simp only [fd, if_true, List.getElem?_eq_getElem hlt, Option.bind_some]

theorem Fr.put_comm (f : Fr) {a b : Option Nat} (x y : V) (h : ∀ d, a = some d → b ≠ some d) : (f.put a x).put b y = (f.put b y).put a x := by
  cases a with
  | none => rfl
  | some d =>
    cases b with
    | none => rfl
    | some e =>
      have hne : d ≠ e := fun hh => h d rfl (by rw [hh])
      simp only [Fr.put]
      rw [List.set_comm _ _ hne]

theorem fd_same {f0 : Fr} {dst : Nat → Option Nat} {v : Nat → V} {D D' : Nat → Bool} : ∀ N, (∀ i, i < N → D i = D' i) → fd f0 dst v D N = fd f0 dst v D' N
  | 0, _ => rfl
  | N + 1, h => by
    simp only [fd]
    rw [fd_same N fun i hi => h i (by omega), h N (by omega)]

theorem fd_add {f0 : Fr} {dst : Nat → Option Nat} {v : Nat → V} {D D' : Nat → Bool} {j : Nat} (hD : ∀ i, D' i = (D i || i == j)) (hjD : D j = false) (hj : ∀ k, j < k → D k = true → ∀ d, dst j = some d → dst k ≠ some d) :
    ∀ N, j < N → fd f0 dst v D' N = (fd f0 dst v D N).put (dst j) (v j)
  | 0, h => by omega
  | N + 1, h => by
    simp only [fd]
    by_cases hN : j = N
    · subst hN
      have e1 : D' j = true := by rw [hD]; simp
      rw [e1, hjD]
      simp only [if_true, Bool.false_eq_true, if_false]
      have hs : fd f0 dst v D' j = fd f0 dst v D j := fd_same j fun i hi => by
        rw [hD]
        have : (i == j) = false := by
          have : i ≠ j := by omega
          simpa using this
        simp [this]
      rw [hs]
    · have ih := fd_add (f0 := f0) (v := v) hD hjD hj N (by omega)
      have e1 : D' N = D N := by
        rw [hD]
        have : (N == j) = false := by simp; omega
        simp [this]
      rw [e1, ih]
      cases hDN : D N with
      | false => rfl
      | true =>
        simp only [if_true]
        exact Fr.put_comm _ _ _ fun d hd => hj N (by omega) hDN d hd

theorem fd_lt {f0 : Fr} {dst : Nat → Option Nat} {v : Nat → V} (j : Nat) : ∀ k, fd f0 dst v (fun i => decide (i < j)) (j + k) = fd f0 dst v (fun _ => true) j
  | 0 => fd_same j fun i hi => by simp [hi]
  | k + 1 => by
    rw [← Nat.add_assoc]
    simp only [fd]
    have h0 : ¬ (decide (j + k < j) = true) := by simp
    rw [if_neg h0]
    exact fd_lt j k
end
end Go.Ab
