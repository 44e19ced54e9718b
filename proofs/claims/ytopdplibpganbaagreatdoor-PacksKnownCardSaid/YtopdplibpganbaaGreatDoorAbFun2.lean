/-
  DERIVED. Calls.
-/
import Derived.Test.YtopdplibpganbaaGreatDoorAbFun
set_option linter.unusedSimpArgs false
set_option linter.unusedVariables false
namespace Go.Ab
open Go.RowKit
section
variable {P : Program} {W0 : World} {base L : Nat} {K K' : Kr} {s : St} {w : World}

/-- What is known of some functions is so. -/
def SumSound (P : Program) (W0 : World) (base L : Nat) (T : Tbl) : Prop :=
  ∀ (f : FuncId) (sm : List V → M V), T.sum f = some sm → (∀ args, Loc (sm args)) ∧
    ∀ (args : List V) (args' : Array Value) (K : Kr) (s : St) (w : World) (Q Qp : V → St → Prop), VRL P K args args'.toList → Globs P K → Rel P W0 base L K s.get s.next w →
      (sm args s).All Q Qp → (∀ v s', Q v s' → s'.next ≤ L) → (∀ v s', Qp v s' → s'.next ≤ L) → UponV P W0 base L Q Qp K s ((callFunc f args').run P w)

theorem Dt.evRes : ∀ (f : Fr) (l : List Res), Dt (evRes f l)
  | f, [] => .ret _
  | f, .tmp t :: r => (Dt.evRes f r).bind fun _ => .ret _
  | f, .cell t agg size :: r => (Dt.opLoad _ _ _).bind fun _ => (Dt.evRes f r).bind fun _ => .ret _

theorem run_callFunc {f : FuncId} {fn : Func} (hf : P.funcs[f]? = some fn) (hn : (fn.name == "runtime.NumGoroutine") = false) {c : Code} (hb : fn.body = some c) (args : Array Value) (w : World) : (callFunc f args).run P w = .ok (.enter f args) w := by
  simp only [callFunc, Sem.run_bind, run_program, Result.andThen_ok, hf, hn, Bool.false_eq_true, if_false, hb, Option.isNone_some]
  rfl

theorem VRL.undefs (P : Program) (K : Kr) (n : Nat) : VRL P K (List.replicate n undef) (List.replicate n Go.undef) := by
  induction n with
  | zero => exact .nil
  | succ n ih => exact .cons _ _ _ _ undef_VR ih

/-- Calls: what the abstract machine leaves open, the model comes to. -/
theorem evF_sound {H : FuncId → Hints} {T : Tbl} (hT : TblOk P H T) (hS : ∀ L, SumSound P W0 base L T) (hD : ∀ call, (∀ L, CallSound P W0 base L call) → (∀ f args, Loc (call f args)) → ∀ L, DrawSound P W0 base L call) {loops : Nat} :
    ∀ n L, CallSound P W0 base L (evF T loops n) := by
  intro n
  induction n with
  | zero =>
    intro L f args args' K s w Q Qp hargs hG R hA hL hLp
    exact (all_fail hA).elim
  | succ n ih =>
    intro L f args args' K s w Q Qp hargs hG R hA hL hLp
    have hcall : ∀ f args, Loc (evF T loops n f args) := fun f args => Loc.evF (fun f sm args e => (hS L f sm e).1 args) loops n f args
    unfold evF at hA
    cases hs : T.sum f with
    | some sm =>
      rw [hs] at hA
      exact (hS L f sm hs).2 args args' K s w Q Qp hargs hG R hA hL hLp
    | none =>
      rw [hs] at hA
      simp only at hA
      cases hf : T.fn f with
      | none => rw [hf] at hA; exact (all_fail hA).elim
      | some a =>
        rw [hf] at hA
        simp only at hA
        split at hA
        · exact (all_fail hA).elim
        · rename_i hdef
          obtain ⟨fn, h1, h2, h3⟩ := hT f a hf
          simp only [cFunc, Option.bind_eq_bind, Option.bind_eq_some_iff, Option.pure_def, Option.some.injEq] at h3
          obtain ⟨body, h4, c, h5, res, h6, rfl⟩ := h3
          rw [run_callFunc h1 h2 h4]
          simp only at hA hdef
          have hres : fn.results.toList.mapM (cRes P) = some res := by
            rw [← h6]; congr 1
          refine calls_of_wp h1 h4 ?_
          have hA1 := all_up (all_bind hA) ((Loc.evC hcall loops c _).up s)
          have hfin : ∀ (f' : Fr) (s1 : St), (((evRes f' res).bind fun vs => M.ret (one vs)) s1).All Q Qp → ∃ vs s2, evRes f' res s1 = .ok vs s2 ∧ Q (one vs) s2 ∧ Up s1 s2 := by
            intro f' s1 hh
            have hi := (Loc.evRes f' res).up s1
            obtain ⟨vs, s2, e1, e2⟩ := all_det hh (Dt.evRes _ _ s1)
            rw [e1] at hi
            cases hi with | ok _ _ u => exact ⟨vs, s2, e1, all_ret e2, u⟩
          have hend : ∀ (f' : Fr) (s1 : St) (K1 : Kr) (a1 : Act) (w1 : World), (((evRes f' res).bind fun vs => M.ret (one vs)) s1).All Q Qp → Up s s1 → Kx s.next s1.next K K1 → FrR P K1 f' a1 → Rel P W0 base L K1 s1.get s1.next w1 →
              a1.defers = [] ∧ ∃ v, (results fn a1.tmps).run P w1 = .ok v w1 ∧ CallEnd P W0 base L Q Qp K s (.returned v) w1 := by
            intro f' s1 K1 a1 w1 hh u k1 hF1 r1
            obtain ⟨vs, s2, e1, q, u2⟩ := hfin f' s1 hh
            obtain ⟨cv, b1, b2, b3, b4⟩ := results_sound hF1 hres r1 e1
            exact ⟨hF1.d, cv, b1, _, s2, K1, q, by rw [b4]; exact k1, b2, r1.like b3 b4⟩
          refine evC_sound (ih L) hcall (hD _ ih hcall L) body c h5 (by simpa using hdef) _ s K _ w _ _ _ ?_ hG R hA1 ?_ (fun v s' q => hLp _ _ q.1) ⟨?_, ?_, ?_, ?_⟩
          · refine ⟨?_, rfl⟩
            simp only [Array.toList_append, Array.toList_replicate]
            have hlen : args'.size = args.length := by have := hargs.length; simpa using this
            rw [hlen]
            exact hargs.append (VRL.undefs P K _)
          · rintro ⟨e, f'⟩ s1 ⟨hh, u⟩
            cases e with
            | norm => obtain ⟨vs, s2, e1, q, u2⟩ := hfin f' s1 hh; exact Nat.le_trans u2.1 (hL _ _ q)
            | ret => obtain ⟨vs, s2, e1, q, u2⟩ := hfin f' s1 hh; exact Nat.le_trans u2.1 (hL _ _ q)
            | exit i => exact (all_fail hh).elim
          · rintro f' s1 K1 a1 w1 ⟨hh, u⟩ k1 hF1 r1
            exact hend f' s1 K1 a1 w1 hh u k1 hF1 r1
          · rintro i f' s1 K1 a1 w1 ⟨hh, u⟩ k1 hF1 r1
            exact (all_fail hh).elim
          · rintro f' s1 K1 a1 w1 ⟨hh, u⟩ k1 hF1 r1
            exact hend f' s1 K1 a1 w1 hh u k1 hF1 r1
          · rintro v s1 K1 cv a1 w1 ⟨hh, u⟩ k1 hv hd r1
            exact ⟨hd, cv, rfl, v, s1, K1, hh, k1, hv, r1⟩
end
end Go.Ab
