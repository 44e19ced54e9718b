/-
  DERIVED. Code: what the abstract machine leaves open, the model's code comes to.
-/
import Derived.Test.YtopdplibpganbaaGreatDoorAbCode
set_option linter.unusedSimpArgs false
set_option linter.unusedVariables false
namespace Go.Ab
open Go.RowKit

theorem min_exists {p : Nat → Prop} (h : ∃ n, p n) : ∃ n, p n ∧ ∀ m, p m → n ≤ m := by
  obtain ⟨n, hn⟩ := h
  induction n using Nat.strongRecOn with
  | _ n ih =>
    by_cases hx : ∃ m, m < n ∧ p m
    · obtain ⟨m, h1, h2⟩ := hx
      exact ih m h1 h2
    · exact ⟨n, hn, fun m hm => by
        rcases Nat.lt_or_ge m n with h | h
        · exact absurd ⟨m, h, hm⟩ hx
        · exact h⟩

theorem wp_loop_n {P : Program} {c : Code} {Q : Exit → Act → World → Prop} (I : Nat → Act → World → Prop) {n : Nat} {a : Act} {w : World} (h0 : I n a w)
    (round : ∀ n a w, I n a w → c.wp P (Exit.then (fun a' w' => ∃ m, m < n ∧ I m a' w') Q) a w) : (Code.loop c).wp P Q a w := by
  refine wp_loop (fun a w => ∃ n, I n a w) (fun a w => open Classical in if h : ∃ n, I n a w then Classical.choose (min_exists h) else 0) ⟨n, h0⟩ ?_
  intro a w hI
  have hm := Classical.choose_spec (min_exists hI)
  refine wp_mono (round _ a w hm.1) fun e a' w' he => ?_
  cases e <;> try exact he
  obtain ⟨m, h1, h2⟩ := he
  refine ⟨⟨m, h2⟩, ?_⟩
  have hI' : ∃ n, I n a' w' := ⟨m, h2⟩
  have hm' := Classical.choose_spec (min_exists hI')
  rw [dif_pos hI', dif_pos hI]
  exact Nat.lt_of_le_of_lt (hm'.2 m h2) h1

section
variable {P : Program} {W0 : World} {base L : Nat} {K K' : Kr} {s : St} {w : World} {call : FuncId → List V → M V}

/-- Regions that draw their order. -/
def DrawSound (P : Program) (W0 : World) (base L : Nat) (call : FuncId → List V → M V) : Prop :=
  ∀ (H : Hints) (id : Nat) (ops : Array Oper) (l : List AOper), OpsR P H id true ops (Region.before ops) l → drawOk l = true → edgesOk ops = true → ∀ (f : Fr) (s : St) (K : Kr) (a : Act) (w : World) (Q : Fr → St → Prop) (Qp : V → St → Prop) (Qx : Exit → Act → World → Prop), FrR P K f a → Globs P K → Rel P W0 base L K s.get s.next w →
      (evDraw call l [] f s).All Q Qp → (∀ v s', Q v s' → s'.next ≤ L) → (∀ v s', Qp v s' → s'.next ≤ L) →
      (∀ f' s' K' a' w', Q f' s' → Kx s.next s'.next K K' → FrR P K' f' a' → Rel P W0 base L K' s'.get s'.next w' → Qx .normal a' w') →
      (∀ v s' K' cv a' w', Qp v s' → Kx s.next s'.next K K' → VR P K' v cv → a'.defers = [] → Rel P W0 base L K' s'.get s'.next w' → Qx (.panic [{ v := cv, recovered := false }]) a' w') →
      (Code.region id ops true).wp P Qx a w

theorem opsR_of {H : Hints} {id : Nat} {draw : Bool} {ops : Array Oper} {bf : Array Nat} {l : List AOper} (h : (ops.toList.zipIdx).mapM (fun (x : Oper × Nat) => cOper P H id draw ops bf x.2 x.1) = some l) : OpsR P H id draw ops bf l := by
  refine ⟨by have := mapM_length h; simpa using this, fun j o hj => ?_⟩
  obtain ⟨ao, h1, h2⟩ := mapM_get h j (o, j) (by rw [List.getElem?_zipIdx, Array.getElem?_toList, hj]; simp)
  exact ⟨ao, h1, h2⟩

theorem evLoop_succ (body : Fr → M (E × Fr)) (n : Nat) (f : Fr) : evLoop body (n + 1) f = (body f).bind fun
    | (.norm, f) => evLoop body n f
    | (e, f) => .ret (e, f) := rfl

/-- Code. -/
theorem evC_sound (hcs : CallSound P W0 base L call) (hcall : ∀ f args, Loc (call f args)) (hD : DrawSound P W0 base L call) {H : Hints} {fuel : Nat} :
    ∀ (c : Code) (ac : AC), cCode P H c = some ac → hasDfr ac = false → ∀ (f : Fr) (s : St) (K : Kr) (a : Act) (w : World) (QF : E × Fr → St → Prop) (Qp : V → St → Prop) (Qx : Exit → Act → World → Prop), FrR P K f a → Globs P K → Rel P W0 base L K s.get s.next w →
      (evC call fuel ac f s).All QF Qp → (∀ v s', QF v s' → s'.next ≤ L) → (∀ v s', Qp v s' → s'.next ≤ L) → Post P W0 base L QF Qp K s Qx → c.wp P Qx a w := by
  intro c
  induction c with
  | skip =>
    intro ac hc hd f s K a w QF Qp Qx hF hG R hA hL hLp hP
    cases hc
    exact wp_skip (hP.norm f s K a w (all_ret hA) (.refl _ _ _) hF R)
  | exit id =>
    intro ac hc hd f s K a w QF Qp Qx hF hG R hA hL hLp hP
    cases hc
    exact wp_exit (hP.exit id f s K a w (all_ret hA) (.refl _ _ _) hF R)
  | ret =>
    intro ac hc hd f s K a w QF Qp Qx hF hG R hA hL hLp hP
    cases hc
    exact wp_ret (hP.ret f s K a w (all_ret hA) (.refl _ _ _) hF R)
  | region id ops draw =>
    intro ac hc hd f s K a w QF Qp Qx hF hG R hA hL hLp hP
    simp only [cCode, cRegion] at hc
    split at hc
    · split at hc
      · cases hc
      · simp only [Option.bind_eq_bind, Option.bind_eq_some_iff, Option.pure_def, Option.some.injEq] at hc
        obtain ⟨l, _, x, _, xs, _, rfl⟩ := hc
        simp [hasDfr] at hd
    · simp only [Option.bind_eq_bind, Option.bind_eq_some_iff, Option.pure_def, Option.some.injEq] at hc
      obtain ⟨l, h1, hc⟩ := hc
      have hl := opsR_of h1
      cases draw with
      | false =>
        simp only [Bool.false_and, Bool.false_eq_true, if_false, Option.some.injEq] at hc
        subst hc
        have hA1 := all_bind hA
        refine wp_region ?_
        rw [List.range_eq_range']
        exact evOps_sound hcs hcall hl ops.size 0 (by omega) f s K a w (fun f' s' => QF (.norm, f') s') Qp hF hG R
          (by rw [List.drop_zero]; exact all_mono (fun f' s' q => all_ret q) (fun _ _ q => q) hA1) (fun v s' q => hL _ _ q) hLp
          (fun f' s' K' a' w' q => hP.norm f' s' K' a' w' q) hP.pan
      | true =>
        simp only [Bool.true_and] at hc
        split at hc
        · cases hc
        rename_i hok
        simp only [Bool.not_eq_true', Bool.not_eq_false, Bool.and_eq_true] at hok
        cases hc
        have hA1 := all_bind hA
        exact hD H id ops l hl hok.1 hok.2 f s K a w (fun f' s' => QF (.norm, f') s') Qp Qx hF hG R (all_mono (fun f' s' q => all_ret q) (fun _ _ q => q) hA1) (fun v s' q => hL _ _ q) hLp
          (fun f' s' K' a' w' q => hP.norm f' s' K' a' w' q) hP.pan
  | seq x y ihx ihy =>
    intro ac hc hd f s K a w QF Qp Qx hF hG R hA hL hLp hP
    simp only [cCode, Option.bind_eq_bind, Option.bind_eq_some_iff, Option.pure_def, Option.some.injEq] at hc
    obtain ⟨ax, h1, ay, h2, rfl⟩ := hc
    simp only [hasDfr, Bool.or_eq_false_iff] at hd
    have hA1 := all_up (all_bind hA) ((Loc.evC hcall fuel ax f).up s)
    have hback : ∀ (e : E × Fr) (s1 : St), ((match e with | (.norm, f) => evC call fuel ay f | (e, f) => M.ret (e, f)) s1).All QF Qp → s1.next ≤ L := by
      rintro ⟨e, f'⟩ s1 h
      cases e with
      | norm =>
        rcases all_some h ((Loc.evC hcall fuel ay f').up s1) with ⟨f2, s', q, u⟩ | ⟨v', s', q, u⟩
        · exact Nat.le_trans u.1 (hL _ _ q)
        · exact Nat.le_trans u.1 (hLp _ _ q)
      | exit i => exact hL _ _ (all_ret h)
      | ret => exact hL _ _ (all_ret h)
    refine wp_seq (ihx ax h1 hd.1 f s K a w _ _ _ hF hG R hA1 (fun e s1 q => hback e s1 q.1) (fun v s' q => hLp _ _ q.1) ⟨?_, ?_, ?_, ?_⟩)
    · rintro f1 s1 K1 a1 w1 ⟨q, u⟩ k1 hf1 r1
      exact ihy ay h2 hd.2 f1 s1 K1 a1 w1 _ _ _ hf1 (hG.mono k1.le) r1 (all_up q ((Loc.evC hcall fuel ay f1).up s1)) (fun e s' q => hL _ _ q.1) (fun v s' q => hLp _ _ q.1)
        ⟨fun f' s' K' a' w' q' k' hf' r' => hP.norm f' s' K' a' w' q'.1 (k1.trans k' u.1 q'.2.1) hf' r',
         fun i f' s' K' a' w' q' k' hf' r' => hP.exit i f' s' K' a' w' q'.1 (k1.trans k' u.1 q'.2.1) hf' r',
         fun f' s' K' a' w' q' k' hf' r' => hP.ret f' s' K' a' w' q'.1 (k1.trans k' u.1 q'.2.1) hf' r',
         fun v s' K' cv a' w' q' k' hv' hd' r' => hP.pan v s' K' cv a' w' q'.1 (k1.trans k' u.1 q'.2.1) hv' hd' r'⟩
    · rintro i f1 s1 K1 a1 w1 ⟨q, u⟩ k1 hf1 r1
      exact hP.exit i f1 s1 K1 a1 w1 (all_ret q) k1 hf1 r1
    · rintro f1 s1 K1 a1 w1 ⟨q, u⟩ k1 hf1 r1
      exact hP.ret f1 s1 K1 a1 w1 (all_ret q) k1 hf1 r1
    · rintro v s1 K1 cv a1 w1 ⟨q, u⟩ k1 hv1 hd1 r1
      exact hP.pan v s1 K1 cv a1 w1 q k1 hv1 hd1 r1
  | cond x y z ihy ihz =>
    intro ac hc hd f s K a w QF Qp Qx hF hG R hA hL hLp hP
    simp only [cCode, Option.bind_eq_bind, Option.bind_eq_some_iff, Option.pure_def, Option.some.injEq] at hc
    obtain ⟨X, h0, ay, h1, az, h2, rfl⟩ := hc
    simp only [hasDfr, Bool.or_eq_false_iff] at hd
    have hx := hF.ops hG _ _ h0
    simp only [evC] at hA
    revert hA hx
    generalize f.ev X = vx
    generalize hcc : a.eval x = cx
    intro hA hx
    cases hx <;> (try (exact (all_fail hA).elim))
    rename_i t
    cases t with
    | true => exact wp_cond_true hcc (ihy ay h1 hd.1 f s K a w _ _ _ hF hG R hA hL hLp hP)
    | false => exact wp_cond_false hcc (ihz az h2 hd.2 f s K a w _ _ _ hF hG R hA hL hLp hP)
  | block id x ih =>
    intro ac hc hd f s K a w QF Qp Qx hF hG R hA hL hLp hP
    simp only [cCode, Option.bind_eq_bind, Option.bind_eq_some_iff, Option.pure_def, Option.some.injEq] at hc
    obtain ⟨ax, h1, rfl⟩ := hc
    simp only [hasDfr] at hd
    have hA1 := all_bind hA
    have hret : ∀ (e : E × Fr) (s1 : St), ((match e with | (.exit i, f) => if i = id then M.ret (E.norm, f) else M.ret (.exit i, f) | (e, f) => M.ret (e, f)) s1).All QF Qp → s1.next ≤ L := by
      rintro ⟨e, f'⟩ s1 h
      cases e with
      | norm => exact hL _ _ (all_ret h)
      | ret => exact hL _ _ (all_ret h)
      | exit i =>
        simp only at h
        split at h <;> exact hL _ _ (all_ret h)
    refine wp_block (ih ax h1 hd f s K a w _ _ _ hF hG R hA1 (fun e s1 q => hret e s1 q) hLp ⟨?_, ?_, ?_, ?_⟩)
    · intro f1 s1 K1 a1 w1 q k1 hf1 r1
      exact hP.norm f1 s1 K1 a1 w1 (all_ret q) k1 hf1 r1
    · intro i f1 s1 K1 a1 w1 q k1 hf1 r1
      simp only at q
      show if i = id then Qx .normal a1 w1 else Qx (.exit i) a1 w1
      split at q
      · rename_i hi
        rw [if_pos hi]
        exact hP.norm f1 s1 K1 a1 w1 (all_ret q) k1 hf1 r1
      · rename_i hi
        rw [if_neg hi]
        exact hP.exit i f1 s1 K1 a1 w1 (all_ret q) k1 hf1 r1
    · intro f1 s1 K1 a1 w1 q k1 hf1 r1
      exact hP.ret f1 s1 K1 a1 w1 (all_ret q) k1 hf1 r1
    · intro v s1 K1 cv a1 w1 q k1 hv1 hd1 r1
      exact hP.pan v s1 K1 cv a1 w1 q k1 hv1 hd1 r1
  | loop x ih =>
    intro ac hc hd f s K a w QF Qp Qx hF hG R hA hL hLp hP
    simp only [cCode, Option.bind_eq_bind, Option.bind_eq_some_iff, Option.pure_def, Option.some.injEq] at hc
    obtain ⟨ax, h1, rfl⟩ := hc
    simp only [hasDfr] at hd
    refine wp_loop_n (fun n a w => ∃ f1 s1 K1, FrR P K1 f1 a ∧ Kx s.next s1.next K K1 ∧ s.next ≤ s1.next ∧ Rel P W0 base L K1 s1.get s1.next w ∧ (evLoop (evC call fuel ax) n f1 s1).All QF Qp) (n := fuel)
      ⟨f, s, K, hF, .refl _ _ _, Nat.le_refl _, R, hA⟩ ?_
    rintro n a1 w1 ⟨f1, s1, K1, hf1, k1, u1, r1, hA1⟩
    cases n with
    | zero => exact (all_fail hA1).elim
    | succ n =>
      rw [evLoop_succ] at hA1
      have hA2 := all_up (all_bind hA1) ((Loc.evC hcall fuel ax f1).up s1)
      have hback : ∀ (e : E × Fr) (s2 : St), ((match e with | (.norm, f) => evLoop (evC call fuel ax) n f | (e, f) => M.ret (e, f)) s2).All QF Qp → s2.next ≤ L := by
        rintro ⟨e, f'⟩ s2 h
        cases e with
        | norm =>
          rcases all_some h ((Loc.evLoop (fun f => Loc.evC hcall fuel ax f) n f').up s2) with ⟨f2, s', q, u⟩ | ⟨v', s', q, u⟩
          · exact Nat.le_trans u.1 (hL _ _ q)
          · exact Nat.le_trans u.1 (hLp _ _ q)
        | exit i => exact hL _ _ (all_ret h)
        | ret => exact hL _ _ (all_ret h)
      refine ih ax h1 hd f1 s1 K1 a1 w1 _ _ _ hf1 (hG.mono k1.le) r1 hA2 (fun e s2 q => hback e s2 q.1) (fun v s' q => hLp _ _ q.1) ⟨?_, ?_, ?_, ?_⟩
      · rintro f2 s2 K2 a2 w2 ⟨q, u⟩ k2 hf2 r2
        exact ⟨n, Nat.lt_succ_self n, f2, s2, K2, hf2, k1.trans k2 u1 u.1, Nat.le_trans u1 u.1, r2, q⟩
      · rintro i f2 s2 K2 a2 w2 ⟨q, u⟩ k2 hf2 r2
        exact hP.exit i f2 s2 K2 a2 w2 (all_ret q) (k1.trans k2 u1 u.1) hf2 r2
      · rintro f2 s2 K2 a2 w2 ⟨q, u⟩ k2 hf2 r2
        exact hP.ret f2 s2 K2 a2 w2 (all_ret q) (k1.trans k2 u1 u.1) hf2 r2
      · rintro v s2 K2 cv a2 w2 ⟨q, u⟩ k2 hv2 hd2 r2
        exact hP.pan v s2 K2 cv a2 w2 q (k1.trans k2 u1 u.1) hv2 hd2 r2
  | _ =>
    intro ac hc
    cases hc
end
end Go.Ab
