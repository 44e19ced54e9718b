/-
  DERIVED. Regions that keep their order, code, functions.
-/
import Derived.Test.YtopdplibpganbaaGreatDoorAbReg
set_option linter.unusedSimpArgs false
set_option linter.unusedVariables false
namespace Go.Ab
open Go.RowKit
section
variable {P : Program} {W0 : World} {base L : Nat} {K K' : Kr} {s : St} {w : World} {call : FuncId → List V → M V}

theorem Loc.xop (hcall : ∀ f args, Loc (call f args)) (ρ : X → V) (op : AOp) : Loc (xop call ρ op) := by
  cases op <;> simp only [Ab.xop]
  case call f args => exact hcall _ _
  case callv x args =>
    split
    · exact hcall _ _
    · exact hcall _ _
    · exact .fail _
  case inv ms x args =>
    repeat' (first | exact hcall _ _ | exact .fail _ | split)
  case panic x =>
    split
    · exact .pan _
    · exact .fail _
  case load => exact .opLoad _ _ _
  case store => exact .opStore _ _ _
  case app => exact .opApp _ _ _ _ _ _
  case slc => exact .opSlice _ _ _ _ _
  case iaddr => exact .opIaddr _ _ _ _
  case faddr => exact .opFaddr _ _
  case fld => exact .opFld _ _ _ _
  case idxs => exact .opIdxs _ _
  case idxa => exact .opIdxa _ _ _ _ _
  case look => exact .opLook _ _ _ _ _
  case mapup => exact .opMapup _ _ _ _
  case del => exact .opDel _ _ _
  case next => exact .opNext _ _
  case entry => exact .opEntry _
  case conv => exact .opConv _ _
  case copy => exact .opCopy _ _ _ _
  case clr => exact .opClr _ _
  case len => exact .opLen _ _
  case cap => exact .opCap _
  case tass => exact .opTassC _ _ _ _
  case tassi => exact .opTassI _ _ _ _ _
  case range => exact .opRange _ _
  case mksl => exact .opMksl _ _ _ _ _
  case mkmap => exact .opMkmap _
  all_goals (repeat' (first | exact Loc.ret _ | exact Loc.fail _ | exact Loc.need _ _ | exact Loc.newO _ | refine Loc.bind ?_ fun _ => ?_ | split))

theorem Loc.evOp (hcall : ∀ f args, Loc (call f args)) (f : Fr) (o : AOper) : Loc (evOp call f o) := by
  unfold Ab.evOp
  split
  · exact (Loc.xop hcall _ _).bind fun _ => .freeze _ _
  · exact .ret _

theorem Loc.evOps (hcall : ∀ f args, Loc (call f args)) : ∀ (l : List AOper) (f : Fr), Loc (evOps call l f)
  | [], f => .ret _
  | o :: r, f => (Loc.evOp hcall f o).bind fun v => Loc.evOps hcall r _

/-- How an order of operations stands to the abstract ones. -/
structure OpsR (P : Program) (H : Hints) (id : Nat) (draw : Bool) (ops : Array Oper) (bf : Array Nat) (l : List AOper) : Prop where
  len : l.length = ops.size
  get : ∀ j o, ops[j]? = some o → ∃ ao, l[j]? = some ao ∧ cOper P H id draw ops bf j o = some ao

/-- Operations one behind the other. -/
theorem evOps_sound (hcs : CallSound P W0 base L call) (hcall : ∀ f args, Loc (call f args)) {H : Hints} {id : Nat} {draw : Bool} {ops : Array Oper} {bf : Array Nat} {l : List AOper} (hl : OpsR P H id draw ops bf l) {Qx : Exit → Act → World → Prop} :
    ∀ (k j : Nat), j + k = ops.size → ∀ (f : Fr) (s : St) (K : Kr) (a : Act) (w : World) (Q : Fr → St → Prop) (Qp : V → St → Prop), FrR P K f a → Globs P K → Rel P W0 base L K s.get s.next w →
      (evOps call (l.drop j) f s).All Q Qp → (∀ v s', Q v s' → s'.next ≤ L) → (∀ v s', Qp v s' → s'.next ≤ L) →
      (∀ f' s' K' a' w', Q f' s' → Kx s.next s'.next K K' → FrR P K' f' a' → Rel P W0 base L K' s'.get s'.next w' → Qx .normal a' w') →
      (∀ v s' K' cv a' w', Qp v s' → Kx s.next s'.next K K' → VR P K' v cv → a'.defers = [] → Rel P W0 base L K' s'.get s'.next w' → Qx (.panic [{ v := cv, recovered := false }]) a' w') →
      wpOps P ops Qx (List.range' j k) a w := by
  intro k
  induction k with
  | zero =>
    intro j hj f s K a w Q Qp hF hG R hA hL hLp hn hp
    have : l.drop j = [] := List.drop_eq_nil_of_le (by have := hl.len; omega)
    rw [this] at hA
    exact hn f s K a w (all_ret hA) (.refl _ _ _) hF R
  | succ k ih =>
    intro j hj f s K a w Q Qp hF hG R hA hL hLp hn hp
    have hjlt : j < ops.size := by omega
    obtain ⟨ao, h1, h2⟩ := hl.get j ops[j] (Array.getElem?_eq_getElem hjlt)
    have hdrop : l.drop j = ao :: l.drop (j + 1) := by
      have hjl : j < l.length := by rw [hl.len]; exact hjlt
      rw [List.drop_eq_getElem_cons hjl]
      rw [List.getElem?_eq_getElem hjl] at h1
      simp only [Option.some.injEq] at h1
      rw [h1]
    rw [hdrop] at hA
    have hA1 := all_up (all_bind hA) ((Loc.evOp hcall f ao).up s)
    have hback : ∀ v s1, (evOps call (l.drop (j + 1)) (f.put ao.dst v) s1).All Q Qp → s1.next ≤ L := by
      intro v s1 h
      rcases all_some h ((Loc.evOps hcall _ _).up s1) with ⟨f', s', q, u⟩ | ⟨v', s', q, u⟩
      · exact Nat.le_trans u.1 (hL _ _ q)
      · exact Nat.le_trans u.1 (hLp _ _ q)
    have hdst : ao.dst = ops[j].dst := by
      simp only [cOper, Option.bind_eq_bind, Option.bind_eq_some_iff] at h2
      obtain ⟨op, _, g, _, frz, _, h4⟩ := h2
      obtain ⟨_, h4⟩ := ite_some h4
      rw [← h4]
    have hstep := op_wp h2 hcs hF hG R hA1 (Loc.xop hcall _ _) (fun v s' q => hback v s' q.1) (fun v s' q => hLp _ _ q.1)
      (next := wpOps P ops Qx (List.range' (j + 1) k)) (Qx := Qx) (fun v s1 K1 cv w1 q k1 v1 r1 => by
        obtain ⟨q, u⟩ := q
        refine ih (j + 1) (by omega) (f.put ao.dst v) s1 K1 _ w1 (fun f' s' => Q f' s' ∧ Up s1 s') (fun v s' => Qp v s' ∧ Up s1 s') ?_ (hG.mono k1.le) r1 (all_up q ((Loc.evOps hcall _ _).up s1)) (fun v s' q => hL _ _ q.1) (fun v s' q => hLp _ _ q.1) ?_ ?_
        · rw [hdst]; exact (hF.mono k1.le).put v1 _
        · intro f' s' K' a' w' q' k' hf' r'
          exact hn f' s' K' a' w' q'.1 (k1.trans k' u.1 q'.2.1) hf' r'
        · intro v' s' K' cv' a' w' q' k' hv' hd' r'
          exact hp v' s' K' cv' a' w' q'.1 (k1.trans k' u.1 q'.2.1) hv' hd' r')
      (fun v s' K' cv w' q k' hv r' => hp v s' K' cv a w' q.1 k' hv hF.d r')
    rw [List.range'_succ, wpOps]
    simp only [Array.getElem?_eq_getElem hjlt]
    by_cases hw : Region.wanted ops[j] (yielded ops a.tmps) = true
    · rw [if_pos hw]; exact .inl (hstep.1 hw)
    · rw [if_neg hw]; exact hstep.2 (by simpa using hw)
end
end Go.Ab
