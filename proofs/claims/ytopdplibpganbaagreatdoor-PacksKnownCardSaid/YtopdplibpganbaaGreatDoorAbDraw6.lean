/-
  DERIVED. Regions that draw their order: all orders.
-/
import Derived.Test.YtopdplibpganbaaGreatDoorAbDraw5
set_option linter.unusedSimpArgs false
set_option linter.unusedVariables false
namespace Go.Ab
open Go.RowKit
section
variable {P : Program} {W0 : World} {base L : Nat} {call : FuncId → List V → M V} {l : List AOper} {ops : Array Oper} {f : Fr} {s : St} {K0 : Kr} {fs : Nat → Fr} {ss : Nat → St} {vs : Nat → V} {gs : Nat → Log}

/-- How many are not yet listed. -/
def unl (D : Nat → Bool) : Nat → Nat
  | 0 => 0
  | n + 1 => unl D n + (if D n then 0 else 1)

theorem unl_zero {D : Nat → Bool} : ∀ n, unl D n = 0 → ∀ i, i < n → D i = true
  | 0, _, i, h => by omega
  | n + 1, h, i, hi => by
    unfold unl at h
    have h1 : unl D n = 0 := by omega
    rcases Nat.lt_or_ge i n with hlt | hge
    · exact unl_zero n h1 i hlt
    · have : i = n := by omega
      subst this
      cases hD : D i with
      | true => rfl
      | false => rw [hD] at h; simp at h

theorem unl_same {D D' : Nat → Bool} : ∀ n, (∀ i, i < n → D i = D' i) → unl D n = unl D' n
  | 0, _ => rfl
  | n + 1, h => by simp only [unl]; rw [unl_same n fun i hi => h i (by omega), h n (by omega)]

theorem unl_add {D D' : Nat → Bool} {j : Nat} (hD : ∀ i, D' i = (D i || i == j)) (hj : D j = false) : ∀ n, j < n → unl D n = unl D' n + 1
  | 0, h => by omega
  | n + 1, h => by
    simp only [unl]
    by_cases e : j = n
    · subst e
      have e1 : D' j = true := by rw [hD]; simp
      rw [e1, hj]
      have : unl D j = unl D' j := unl_same j fun i hi => by
        rw [hD]
        have : (i == j) = false := by simp; omega
        simp [this]
      rw [this]; simp
    · have ih := unl_add hD hj n (by omega)
      have e1 : D' n = D n := by
        rw [hD]
        have : (n == j) = false := by simp; omega
        simp [this]
      rw [e1, ih]; omega

theorem unl_some {D : Nat → Bool} : ∀ n, unl D n ≠ 0 → ∃ i, i < n ∧ D i = false ∧ ∀ k, k < i → D k = true
  | 0, h => by simp [unl] at h
  | n + 1, h => by
    by_cases h0 : unl D n = 0
    · have hall := unl_zero n h0
      unfold unl at h
      refine ⟨n, by omega, ?_, hall⟩
      cases hD : D n with
      | false => rfl
      | true => rw [hD] at h; simp at h; omega
    · obtain ⟨i, h1, h2⟩ := unl_some n h0
      exact ⟨i, by omega, h2⟩

theorem mem_ready {md : Region.Mode} {listed : Array Bool} {i : Nat} (h : i ∈ Region.ready md ops listed) : i < ops.size ∧ listed.getD i true = false ∧ ∃ o, ops[i]? = some o ∧ ∀ e ∈ o.after.toList, Region.binds md e = true → listed.getD e.on false = true := by
  unfold Region.ready at h
  rw [List.mem_filter, List.mem_range] at h
  obtain ⟨h1, h2⟩ := h
  rw [Bool.and_eq_true] at h2
  refine ⟨h1, by simpa using h2.1, ops[i], Array.getElem?_eq_getElem h1, fun e he hb => ?_⟩
  have h3 := h2.2
  rw [Array.getElem?_eq_getElem h1] at h3
  simp only [Option.map_some, Option.getD_some] at h3
  rw [← Array.all_toList, List.all_eq_true] at h3
  have := h3 e he
  rw [hb] at this
  simpa using this

theorem ready_some {listed : Array Bool} (hsz : listed.size = ops.size) (hed : edgesOk ops = true) {i : Nat} (hi : i < ops.size) (hu : listed.getD i false = false) (hb : ∀ k, k < i → listed.getD k false = true) : i ∈ Region.ready .any ops listed := by
  unfold Region.ready
  rw [List.mem_filter, List.mem_range]
  refine ⟨hi, ?_⟩
  rw [Bool.and_eq_true]
  constructor
  · have : listed.getD i true = listed.getD i false := by
      simp [Array.getD_eq_getD_getElem?, Array.getElem?_eq_getElem (show i < listed.size by omega)]
    rw [this, hu]; rfl
  · rw [Array.getElem?_eq_getElem hi]
    simp only [Option.map_some, Option.getD_some]
    rw [← Array.all_toList, List.all_eq_true]
    intro e he
    unfold edgesOk at hed
    rw [List.all_eq_true] at hed
    have h1 := hed (ops[i], i) (by
      rw [List.mem_zipIdx_iff_getElem?]
      simp [hi])
    simp only at h1
    rw [← Array.all_toList, List.all_eq_true] at h1
    have h2 := h1 e he
    rw [Bool.or_eq_true] at h2 ⊢
    rcases h2 with h2 | h2
    · exact .inl h2
    · exact .inr (hb _ (by simpa using h2))

/-- All orders. -/
theorem pany (hcs : ∀ L, CallSound P W0 base L call) (hcall : ∀ f args, Loc (call f args)) {H : Hints} {id : Nat} (hl : OpsR P H id true ops (Region.before ops) l) (hok : drawOk l = true) (hed : edgesOk ops = true) (F : Steps' call l fs ss vs gs) (hf0 : fs 0 = f) (hs0 : ss 0 = s)
    (hfs : ∀ j o, l[j]? = some o → fs (j + 1) = (fs j).put o.dst (vs j)) (hun : ∀ j o, l[j]? = some o → ∀ i ∈ o.un, i < j ∧ (gs i).meets (gs j) = false) (hL : (ss l.length).next ≤ L) (hG0 : Globs P K0)
    {Qx : Exit → Act → World → Prop} (hn : ∀ K' a' w', Kx s.next (ss l.length).next K0 K' → FrR P K' (fs l.length) a' → Rel P W0 base L K' (ss l.length).get (ss l.length).next w' → Qx .normal a' w') :
    ∀ (fuel : Nat) (listed : Array Bool) (D : Nat → Bool) (t : St) (K : Kr) (a : Act) (w : World), listed.size = ops.size → (∀ i, D i = listed.getD i false) → Closed ops D → unl D ops.size ≤ fuel →
      PInv P W0 base L l.length l f s K0 ss vs gs D t K a w → wpAny P .any ops Qx fuel listed a w := by
  intro fuel
  have hend : ∀ (listed : Array Bool) (D : Nat → Bool) (t : St) (K : Kr) (a : Act) (w : World), listed.size = ops.size → (∀ i, D i = listed.getD i false) → 
      PInv P W0 base L l.length l f s K0 ss vs gs D t K a w → Region.ready .any ops listed = [] → Qx .normal a w := by
    intro listed D t K a w hsz hD I hr
    have hall : ∀ i, i < l.length → D i = true := by
      intro i hi
      by_cases h0 : unl D ops.size = 0
      · exact unl_zero _ h0 i (by rw [← hl.len]; exact hi)
      · obtain ⟨k, k1, k2, k3⟩ := unl_some _ h0
        have := ready_some hsz hed k1 (by rw [← hD]; exact k2) (fun m hm => by rw [← hD]; exact k3 m hm)
        rw [hr] at this
        cases this
    have hfd : fd f (fun i => (l[i]?).bind (·.dst)) vs D l.length = fs l.length := by
      rw [fs_fd hf0 hfs l.length (Nat.le_refl _)]
      exact fd_same _ fun i hi => hall i hi
    have hget : ∀ m, t.get m = (ss l.length).get m := by
      intro m
      rw [I.get m, seq_get F m l.length (Nat.le_refl _), ← hs0]
      exact pd_congr _ fun i hi hne => absurd (hall i hi) hne
    have hfr := I.fr
    rw [hfd] at hfr
    refine hn K a w I.kx hfr ?_
    have hlo : ∀ i, i < l.length → (gs i).lo = (ss i).next ∧ (gs i).hi = (ss (i + 1)).next := fun i hi => by
      have := F i l[i] (List.getElem?_eq_getElem hi)
      exact ⟨this.lo, this.hi⟩
    refine (I.rel.refresh (L' := L) (next' := (ss l.length).next) fun m h1 h2 => ?_).congr fun m => (hget m).symm
    refine I.fresh m (Nat.le_trans (by rw [← hs0]; exact lo_mono F (Nat.zero_le _) (Nat.le_refl _)) h1) h2 fun i hi hDi hh => ?_
    rw [(hlo i hi).2] at hh
    have := lo_mono F (i := i + 1) (j := l.length) (by omega) (Nat.le_refl _)
    omega
  induction fuel with
  | zero =>
    intro listed D t K a w hsz hD hcl hu I
    have hall := unl_zero ops.size (by omega : unl D ops.size = 0)
    have hr : Region.ready .any ops listed = [] := by
      rw [List.eq_nil_iff_forall_not_mem]
      intro i hi
      obtain ⟨h1, h2, _⟩ := mem_ready hi
      have := hall i h1
      rw [hD] at this
      rw [Array.getD_eq_getD_getElem?, Array.getElem?_eq_getElem (show i < listed.size by omega)] at this h2
      simp only [Option.getD_some] at this h2
      rw [this] at h2; cases h2
    exact ⟨hr, hend listed D t K a w hsz hD I hr⟩
  | succ fuel ih =>
    intro listed D t K a w hsz hD hcl hu I
    refine ⟨hend listed D t K a w hsz hD I, fun i hi => ?_⟩
    obtain ⟨h1, h2, o, h3, h4⟩ := mem_ready hi
    have hDi : D i = false := by
      rw [hD]
      rw [Array.getD_eq_getD_getElem?, Array.getElem?_eq_getElem (show i < listed.size by omega)] at h2 ⊢
      simpa using h2
    have hDlt : ∀ k, D k = true → k < l.length := by
      intro k hk
      rw [hD, Array.getD_eq_getD_getElem?] at hk
      rcases Nat.lt_or_ge k listed.size with h | h
      · rw [hl.len]; omega
      · rw [Array.getElem?_eq_none h] at hk; simp at hk
    have hD' : ∀ k, (fun k => D k || k == i) k = (D k || k == i) := fun k => rfl
    have hstep := pstep (Qx := Qx) hcs hcall hl hok F hf0 hs0 hfs hun hL hG0 hDlt I h3 hDi
      (fun ao hao k hk hDk => by
        obtain ⟨ao', g1, g2⟩ := hl.get i o h3
        rw [hao] at g1; cases g1
        rcases un_or g2 hk with g | g
        · exact g
        · have := before_closed hcl i o h3 (fun e he hb => by rw [hD]; exact h4 e he hb) k g
          rw [hDk] at this; cases this)
      (fun k ak hak hk hDk => by
        have hkl := hDlt k hDk
        have hko : k < ops.size := by rw [← hl.len]; exact hkl
        obtain ⟨ao', g1, g2⟩ := hl.get k ops[k] (Array.getElem?_eq_getElem hko)
        rw [hak] at g1; cases g1
        rcases un_or g2 hk with g | g
        · exact g
        · have := before_closed hcl k ops[k] (Array.getElem?_eq_getElem hko) (fun e he hb => hcl k ops[k] (Array.getElem?_eq_getElem hko) hDk e he hb) i g
          rw [hDi] at this; cases this) (D' := fun k => D k || k == i) hD'
    refine wpOp_mono (fun a' w' h => ?_) hstep
    obtain ⟨t', K', I'⟩ := h
    refine ih _ (fun k => D k || k == i) t' K' a' w' (by simpa using hsz) (fun k => ?_) ?_ ?_ I'
    · show (D k || k == i) = _
      rw [hD, Array.getD_eq_getD_getElem?, Array.getD_eq_getD_getElem?, Array.getElem?_setIfInBounds]
      by_cases hk : i = k
      · subst hk
        simp [show i < listed.size by omega]
      · have : (k == i) = false := by simp; omega
        simp [hk, this]
    · intro k ok hk hDk e he hb
      simp only [Bool.or_eq_true] at hDk ⊢
      rcases hDk with hDk | hDk
      · exact .inl (hcl k ok hk hDk e he hb)
      · have : k = i := by simpa using hDk
        subst this
        rw [h3] at hk; cases hk
        exact .inl (by rw [hD]; exact h4 e he hb)
    · have := unl_add hD' hDi ops.size h1
      omega

/-- Regions that draw their order. -/
theorem drawSound (hm : P.follows .mixedOrders = true) (hcs : ∀ L, CallSound P W0 base L call) (hcall : ∀ f args, Loc (call f args)) (L : Nat) : DrawSound P W0 base L call := by
  intro H id ops l hl hok hed f s K a w Q Qp Qx hF hG R hA hL hLp hn hp
  obtain ⟨fs, ss, vs, gs, T, q⟩ := evDraw_trace l [] f s hA
  have F : Steps' call l fs ss vs gs := fun i o hi => stepF (Loc.evOp hcall _ _) (T.step i o hi).1
  refine wp_region_any hm ?_
  refine pany (P := P) (W0 := W0) (base := base) (L := L) hcs hcall hl hok hed F T.f0 T.s0 (fun j o hj => (T.step j o hj).2) (fun j o hj i hi => ?_) (hL _ _ q) hG
    (fun K' a' w' k' hf' r' => hn _ _ K' a' w' q k' hf' r') ops.size (Array.replicate ops.size false) (fun _ => false) s K a _ (by simp) (fun i => ?_) (fun j o _ h => by cases h) ?_ ⟨fun m => ?_, ?_, ?_, ?_, fun m h1 h2 h3 => R.fresh m h1 h2⟩
  · obtain ⟨h, e1, e2⟩ := T.un j o hj i hi
    simp only [List.nil_append, List.getElem?_map, Option.map_eq_some_iff] at e1
    obtain ⟨k, e3, e4⟩ := e1
    have hk : i < j := by
      have := (List.getElem?_eq_some_iff.1 e3).1
      simpa using this
    rw [List.getElem?_range hk] at e3
    cases e3
    rw [e4]
    exact ⟨hk, e2⟩
  · rw [Array.getD_eq_getD_getElem?]
    rcases Nat.lt_or_ge i ops.size with h | h
    · simp [h]
    · rw [Array.getElem?_eq_none (by simpa using h)]; rfl
  · have : ∀ n, unl (fun _ => false) n ≤ n := by
      intro n
      induction n with
      | zero => exact Nat.le_refl _
      | succ n ih => simp only [unl]; simp; omega
    exact this _
  · have : ∀ n, pd s.get (fun i m => (gs i).wrote m) (fun i => (ss (i + 1)).get) (fun _ => false) n m = s.get m := by
      intro n
      induction n with
      | zero => rfl
      | succ n ih => simp only [pd, Bool.false_and, Bool.false_eq_true, if_false]; exact ih
    exact (this _).symm
  · have : ∀ n, fd f (fun i => (l[i]?).bind (·.dst)) vs (fun _ => false) n = f := by
      intro n
      induction n with
      | zero => rfl
      | succ n ih => simp only [fd, Bool.false_eq_true, if_false]; exact ih
    rw [this]
    exact hF
  · exact Rel.drew (R.refresh fun n h1 h2 => by omega)
  · exact Kx.refl _ _ _
end
end Go.Ab
