/-
  DERIVED. Frames, and regions that keep their order.
-/
import Derived.Test.YtopdplibpganbaaGreatDoorAbSem
set_option linter.unusedSimpArgs false
set_option linter.unusedVariables false
namespace Go.Ab
open Go.RowKit
section
variable {P : Program} {W0 : World} {base L : Nat} {K K' : Kr} {s : St} {w : World}

structure FrR (P : Program) (K : Kr) (f : Fr) (a : Act) : Prop where
  t : VRL P K f.t a.tmps.toList
  d : a.defers = []

theorem FrR.mono {f : Fr} {a : Act} (h : FrR P K f a) (k : K.le K') : FrR P K' f a := ⟨h.t.mono k, h.d⟩

theorem Globs.mono (h : Globs P K) (k : K.le K') : Globs P K' := fun g hg => k.blk _ _ (h g hg)

theorem undef_VR : VR P K undef Go.undef := .tup _ _ .nil

theorem FrR.get {f : Fr} {a : Act} (h : FrR P K f a) (i : Nat) : VR P K (f.get i) (a.tmps.getD i Go.undef) := by
  unfold Fr.get
  rw [List.getD_eq_getElem?_getD]
  cases hv : f.t[i]? with
  | none =>
    have hlen := h.t.length
    have : a.tmps.size ≤ i := by
      have := List.getElem?_eq_none_iff.1 hv
      simp only [Array.length_toList] at hlen
      omega
    rw [Array.getD_eq_getD_getElem?, Array.getElem?_eq_none this]
    exact undef_VR
  | some v =>
    obtain ⟨cv, h1, h2⟩ := h.t.get i v hv
    rw [Array.getElem?_toList] at h1
    rw [Array.getD_eq_getD_getElem?, h1]
    exact h2

theorem FrR.ops {f : Fr} {a : Act} (h : FrR P K f a) (g : Globs P K) : Ops P K f.ev a.eval := by
  intro x X hx
  cases x with
  | tmp t =>
    simp only [cX, Option.some.injEq] at hx; subst hx
    exact h.get t
  | const v =>
    simp only [cX, Option.map_eq_some_iff] at hx
    obtain ⟨v', h1, rfl⟩ := hx
    exact (absV_VR P K 4 v v' h1).1
  | global n =>
    simp only [cX] at hx
    split at hx
    · rename_i hn
      cases hx
      exact .ptr _ _ _ (g n hn)
    · cases hx
  | func n =>
    simp only [cX, Option.some.injEq] at hx; subst hx
    exact .fn _ _ _ _ _ .nil .nil

theorem FrR.put {f : Fr} {a : Act} (h : FrR P K f a) {v : V} {cv : Value} (hv : VR P K v cv) (d : Option Nat) : FrR P K (f.put d v) (a.put d cv) := by
  cases d with
  | none => exact h
  | some i =>
    refine ⟨?_, h.d⟩
    show VRL P K (f.t.set i v) (a.tmps.setIfInBounds i cv).toList
    rw [Array.toList_setIfInBounds]
    exact h.t.set hv i

/-- What a region, or a piece of code, is to end in. -/
structure Post (P : Program) (W0 : World) (base L : Nat) (QF : E × Fr → St → Prop) (Qp : V → St → Prop) (K : Kr) (s : St) (Q : Exit → Act → World → Prop) : Prop where
  norm : ∀ f s' K' a w', QF (.norm, f) s' → Kx s.next s'.next K K' → FrR P K' f a → Rel P W0 base L K' s'.get s'.next w' → Q .normal a w'
  exit : ∀ i f s' K' a w', QF (.exit i, f) s' → Kx s.next s'.next K K' → FrR P K' f a → Rel P W0 base L K' s'.get s'.next w' → Q (.exit i) a w'
  ret : ∀ f s' K' a w', QF (.ret, f) s' → Kx s.next s'.next K K' → FrR P K' f a → Rel P W0 base L K' s'.get s'.next w' → Q .ret a w'
  pan : ∀ v s' K' cv a w', Qp v s' → Kx s.next s'.next K K' → VR P K' v cv → a.defers = [] → Rel P W0 base L K' s'.get s'.next w' → Q (.panic [{ v := cv, recovered := false }]) a w'

/-- From a later state the same ends lie open. -/
theorem Post.later {QF : E × Fr → St → Prop} {Qp : V → St → Prop} {Q : Exit → Act → World → Prop} {s1 : St} {K1 : Kr} (h : Post P W0 base L QF Qp K s Q) (k : Kx s.next s1.next K K1) (hn : s.next ≤ s1.next)
    (hq : ∀ e s', QF e s' → s1.next ≤ s'.next) (hp : ∀ v s', Qp v s' → s1.next ≤ s'.next) : Post P W0 base L QF Qp K1 s1 Q where
  norm := fun f s' K' a w' q k' => h.norm f s' K' a w' q (k.trans k' hn (hq _ _ q))
  exit := fun i f s' K' a w' q k' => h.exit i f s' K' a w' q (k.trans k' hn (hq _ _ q))
  ret := fun f s' K' a w' q k' => h.ret f s' K' a w' q (k.trans k' hn (hq _ _ q))
  pan := fun v s' K' cv a w' q k' => h.pan v s' K' cv a w' q (k.trans k' hn (hp _ _ q))

/-! ### Ends that lie open, step by step -/
theorem all_mono {α : Type} {Q Q' : α → St → Prop} {Qp Qp' : V → St → Prop} (h : ∀ a s, Q a s → Q' a s) (hp : ∀ v s, Qp v s → Qp' v s) {r : R α} (i : r.All Q Qp) : r.All Q' Qp' := by
  induction i with
  | ok a s q => exact .ok _ _ (h _ _ q)
  | pan v s q => exact .pan _ _ (hp _ _ q)
  | ch n k _ ih => exact .ch _ _ ih

theorem all_bind {α β : Type} {r : R α} {f : α → St → R β} {Q : β → St → Prop} {Qp : V → St → Prop} (h : (r.bind f).All Q Qp) : r.All (fun a s => (f a s).All Q Qp) Qp := by
  induction r with
  | ok a s => exact .ok _ _ h
  | pan v s => cases h with | pan _ _ q => exact .pan _ _ q
  | fail w => cases h
  | ch n k ih => cases h with | ch _ _ hk => exact .ch _ _ fun i hi => ih i (hk i hi)

/-- Ends are no further back than the start. -/
theorem all_up {α : Type} {r : R α} {Q : α → St → Prop} {Qp : V → St → Prop} {S : St → Prop} (h : r.All Q Qp) (i : r.Inv S) : r.All (fun a s => Q a s ∧ S s) (fun v s => Qp v s ∧ S s) := by
  induction h with
  | ok a s q => cases i with | ok _ _ hs => exact .ok _ _ ⟨q, hs⟩
  | pan v s q => cases i with | pan _ _ hs => exact .pan _ _ ⟨q, hs⟩
  | ch n k _ ih => cases i with | ch _ _ _ hk => exact .ch _ _ fun j hj => ih j hj (hk j hj)

theorem all_some {α : Type} {r : R α} {Q : α → St → Prop} {Qp : V → St → Prop} {S : St → Prop} (h : r.All Q Qp) (i : r.Inv S) : (∃ a s, Q a s ∧ S s) ∨ ∃ v s, Qp v s ∧ S s := by
  induction h with
  | ok a s q => cases i with | ok _ _ hs => exact .inl ⟨a, s, q, hs⟩
  | pan v s q => cases i with | pan _ _ hs => exact .inr ⟨v, s, q, hs⟩
  | ch n k _ ih => cases i with | ch _ _ hn hk => exact ih 0 hn (hk 0 hn)

theorem ite_some {α : Type} {c : Prop} [Decidable c] {a b : α} (h : (if c then some a else none) = some b) : c ∧ a = b := by
  split at h
  · exact ⟨by assumption, by cases h; rfl⟩
  · cases h

theorem wants_iff {ops : Array Oper} {o : Oper} {g : Option (Nat × Bool)} (hg : (match o.guard with
    | none => some none
    | some (i, w) => do
      let oi ← ops[i]?
      let t ← oi.dst
      pure (some (t, w))) = some g) {f : Fr} {a : Act} (h : FrR P K f a) : Region.wanted o (yielded ops a.tmps) = f.wants g := by
  unfold Region.wanted Fr.wants
  split at hg
  · rename_i e
    cases hg
    rw [e]
  · rename_i i want e
    simp only [Option.bind_eq_bind, Option.bind_eq_some_iff, Option.pure_def, Option.some.injEq] at hg
    obtain ⟨oi, h1, t, h2, rfl⟩ := hg
    rw [e]
    simp only [yielded, h1, Option.bind_some, h2]
    have hv := h.get t
    rw [Array.getD_eq_getD_getElem?] at hv
    cases ht : a.tmps[t]? with
    | none =>
      rw [ht] at hv
      have hv : VR P K (f.get t) Go.undef := hv
      cases hx : f.get t <;> rw [hx] at hv <;> first | rfl | cases hv
    | some cv =>
      rw [ht] at hv
      have hv : VR P K (f.get t) cv := hv
      cases hx : f.get t <;> rw [hx] at hv <;> cases hv <;> first
        | rfl
        | (rename_i b; cases b <;> cases want <;> rfl)

/-- One operation of a region. -/
theorem op_wp {H : Hints} {id : Nat} {draw : Bool} {ops : Array Oper} {bf : Array Nat} {j : Nat} {o : Oper} {ao : AOper} (hc : cOper P H id draw ops bf j o = some ao) {call : FuncId → List V → M V} (hcs : CallSound P W0 base L call)
    {f : Fr} {a : Act} (hF : FrR P K f a) (hG : Globs P K) (R : Rel P W0 base L K s.get s.next w) {Q Qp : V → St → Prop} (hA : (evOp call f ao s).All Q Qp) (hx : Loc (xop call f.ev ao.op)) (hL : ∀ v s', Q v s' → s'.next ≤ L) (hLp : ∀ v s', Qp v s' → s'.next ≤ L)
    {next : Act → World → Prop} {Qx : Exit → Act → World → Prop} (hn : ∀ v s' K' cv w', Q v s' → Kx s.next s'.next K K' → VR P K' v cv → Rel P W0 base L K' s'.get s'.next w' → next (a.put o.dst cv) w')
    (hp : ∀ v s' K' cv w', Qp v s' → Kx s.next s'.next K K' → VR P K' v cv → Rel P W0 base L K' s'.get s'.next w' → Qx (.panic [{ v := cv, recovered := false }]) a w') :
    (Region.wanted o (yielded ops a.tmps) = true → Oper.wp P o a w next Qx) ∧ (Region.wanted o (yielded ops a.tmps) = false → next (a.put o.dst Go.undef) w) := by
  simp only [cOper, Option.bind_eq_bind, Option.bind_eq_some_iff] at hc
  obtain ⟨op, h1, g, h2, frz, h3, h4⟩ := hc
  obtain ⟨_, h4⟩ := ite_some h4
  · subst h4
    have hw := wants_iff h2 hF
    unfold evOp at hA
    simp only at hA hx
    rw [hw]
    refine ⟨fun hw' => ?_, fun hw' => ?_⟩
    · rw [if_pos hw'] at hA
      have hA1 := all_up (all_bind hA) (hx.up s)
      have hfr : ∀ v s1, ((freeze frz v s1).All Q Qp ∧ Up s s1) → ∃ v' s', freeze frz v s1 = .ok v' s' ∧ Q v' s' ∧ Up s1 s' := by
        rintro v s1 ⟨hh, _⟩
        rcases Dt.freeze frz v s1 with ⟨v', s', e⟩ | ⟨x, e⟩
        · have hi := (Loc.freeze frz v).up s1
          rw [e] at hh hi
          cases hh with
          | ok _ _ q => cases hi with | ok _ _ hu => exact ⟨v', s', e, q, hu⟩
        · rw [e] at hh; cases hh
      have hend : ∀ cv w', EndV P W0 base L (fun v s1 => (freeze frz v s1).All Q Qp ∧ Up s s1) K s cv w' → next (a.put o.dst cv) w' := by
        rintro cv w' ⟨v, s1, K1, q, k1, v1, r1⟩
        obtain ⟨v', s', e, q', u⟩ := hfr v s1 q
        obtain ⟨K2, k2, v2, r2⟩ := freeze_sim v1 r1 e
        exact hn v' s' K2 cv w' q' (k1.trans k2 q.2.1 u.1) v2 r2
      have hpan : ∀ cv w', EndV P W0 base L (fun v s1 => Qp v s1 ∧ Up s s1) K s cv w' → Qx (.panic [{ v := cv, recovered := false }]) a w' := by
        rintro cv w' ⟨v, s1, K1, q, k1, v1, r1⟩
        exact hp v s1 K1 cv w' q.1 k1 v1 r1
      have hsnd := xop_sound hcs h1 (hF.ops hG) (fun v => rfl) hG R hA1 (fun v s1 q => by
        obtain ⟨v', s', e, q', u⟩ := hfr v s1 q
        exact Nat.le_trans u.1 (hL _ _ q')) (fun v s1 q => hLp _ _ q.1)
      unfold Oper.wp
      generalize (execOp a.eval o).run P w = r at hsnd
      cases r with
      | ok n w' =>
        cases n <;> simp only [UponV] at hsnd <;> (try exact hsnd.elim)
        case value cv => exact hend cv w' hsnd
        case skip => exact hend _ w' hsnd
        case enter fn args =>
          refine Calls.mono hsnd fun e w'' he => ?_
          cases e with
          | returned cv => exact hend cv w'' he
          | panicked chain => obtain ⟨cv, rfl, he⟩ := he; exact hpan cv w'' he
          | outgrown => exact he.elim
        case row row args => exact Rows.mono hsnd fun v w'' he => hend v w'' he
      | halt x w' =>
        cases x <;> simp only [UponV] at hsnd <;> (try exact hsnd.elim)
        exact hpan _ w' hsnd
    · rw [if_neg (by simpa using hw')] at hA
      exact hn _ _ K _ w (all_ret hA) (.refl _ _ _) undef_VR R
end
end Go.Ab
