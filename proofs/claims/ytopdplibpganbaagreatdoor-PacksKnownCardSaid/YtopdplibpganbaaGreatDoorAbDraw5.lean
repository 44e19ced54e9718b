/-
  DERIVED. Regions that draw their order: one more operation.
-/
import Derived.Test.YtopdplibpganbaaGreatDoorAbDraw4
set_option linter.unusedSimpArgs false
set_option linter.unusedVariables false
namespace Go.Ab
open Go.RowKit
section
variable {P : Program} {W0 : World} {base L : Nat} {call : FuncId → List V → M V} {l : List AOper} {ops : Array Oper} {f : Fr} {s : St} {K0 : Kr} {fs : Nat → Fr} {ss : Nat → St} {vs : Nat → V} {gs : Nat → Log}

theorem uses_free {i j : AOper} (h : i.free j = true) : (∀ d, i.dst = some d → j.uses d = false ∧ j.dst ≠ some d) ∧ ∀ d, j.dst = some d → i.uses d = false := by
  unfold AOper.free at h
  rw [Bool.and_eq_true] at h
  refine ⟨fun d hd => ?_, fun d hd => ?_⟩
  · rw [hd] at h
    have := h.1
    simpa using this
  · rw [hd] at h
    have := h.2
    simpa using this

theorem in_range (F : Steps' call l fs ss vs gs) {m : Nat} (h0 : (ss 0).next ≤ m) : ∀ j, j ≤ l.length → m < (ss j).next → ∃ i, i < j ∧ (gs i).lo ≤ m ∧ m < (gs i).hi
  | 0, _, h => by omega
  | j + 1, hj, h => by
    have hlt : j < l.length := by omega
    have S := F j l[j] (List.getElem?_eq_getElem hlt)
    by_cases hm : m < (ss j).next
    · obtain ⟨i, h1, h2⟩ := in_range F h0 j (by omega) hm
      exact ⟨i, by omega, h2⟩
    · exact ⟨j, by omega, by rw [S.lo]; omega, by rw [S.hi]; exact h⟩

/-- One more of the operations. -/
theorem pstep (hcs : ∀ L, CallSound P W0 base L call) (hcall : ∀ f args, Loc (call f args)) {H : Hints} {id : Nat} (hl : OpsR P H id true ops (Region.before ops) l) (hok : drawOk l = true) (F : Steps' call l fs ss vs gs) (hf0 : fs 0 = f) (hs0 : ss 0 = s)
    (hfs : ∀ j o, l[j]? = some o → fs (j + 1) = (fs j).put o.dst (vs j)) (hun : ∀ j o, l[j]? = some o → ∀ i ∈ o.un, i < j ∧ (gs i).meets (gs j) = false) (hL : (ss l.length).next ≤ L) (hG0 : Globs P K0)
    {D : Nat → Bool} (hDlt : ∀ k, D k = true → k < l.length) {t : St} {K : Kr} {a : Act} {w : World} (I : PInv P W0 base L l.length l f s K0 ss vs gs D t K a w) {j : Nat} {o : Oper} (hj : ops[j]? = some o) (hjD : D j = false)
    (hb : ∀ ao : AOper, l[j]? = some ao → ∀ i, i < j → D i = false → i ∈ ao.un) (ha : ∀ (k : Nat) (ak : AOper), l[k]? = some ak → j < k → D k = true → j ∈ ak.un)
    {D' : Nat → Bool} (hD' : ∀ i, D' i = (D i || i == j)) {Qx : Exit → Act → World → Prop} :
    wpOp P ops Qx j (fun a' w' => ∃ t' K', PInv P W0 base L l.length l f s K0 ss vs gs D' t' K' a' w') a w := by
  obtain ⟨ao, hao, hco⟩ := hl.get j o hj
  have hjl : j < l.length := (List.getElem?_eq_some_iff.1 hao).1
  have S := F j ao hao
  have hok' : ∀ (k : Nat) (ak : AOper), l[k]? = some ak → ∀ i ∈ ak.un, ∃ ai : AOper, l[i]? = some ai ∧ ai.free ak = true := by
    intro k ak hk i hi
    unfold drawOk at hok
    rw [List.all_eq_true] at hok
    have h1 := hok ak (List.mem_of_getElem? hk)
    rw [List.all_eq_true] at h1
    have h2 := h1 i hi
    split at h2
    · rename_i ai e; exact ⟨ai, e, h2⟩
    · cases h2
  have hdst : ao.dst = o.dst := by
    simp only [cOper, Option.bind_eq_bind, Option.bind_eq_some_iff] at hco
    obtain ⟨op, _, g, _, frz, _, h4⟩ := hco
    obtain ⟨_, h4⟩ := ite_some h4
    rw [← h4]
  have huse : ∀ x, ao.uses x = true → (fd f (fun i => (l[i]?).bind (·.dst)) vs D l.length).get x = (fs j).get x := by
    intro x hx
    rw [fs_fd hf0 hfs j (by omega), ← fd_lt j (l.length - j), show j + (l.length - j) = l.length from by omega]
    refine fd_congr _ fun i hi hne hd => ?_
    simp only [List.getElem?_eq_getElem hi, Option.bind_some] at hd
    rcases Nat.lt_trichotomy i j with h | h | h
    · have hDi : D i = false := by
        cases hD : D i with
        | false => rfl
        | true => rw [hD] at hne; simp [h] at hne
      obtain ⟨ai, g1, g2⟩ := hok' j ao hao i (hb ao hao i h hDi)
      rw [List.getElem?_eq_getElem hi] at g1; cases g1
      have := ((uses_free g2).1 x hd).1
      rw [hx] at this; cases this
    · subst h; rw [hjD] at hne; simp at hne
    · have hDi : D i = true := by
        cases hD : D i with
        | true => rfl
        | false => rw [hD] at hne; have : ¬ i < j := by omega
                   simp [this] at hne
      obtain ⟨aj, g1, g2⟩ := hok' i l[i] (List.getElem?_eq_getElem hi) j (ha i l[i] (List.getElem?_eq_getElem hi) h hDi)
      rw [hao] at g1; cases g1
      have := (uses_free g2).2 x hd
      rw [hx] at this; cases this
  have hev := evOp_congr (call := call) huse
  have hmeetb : ∀ i, i < j → D i = false → (gs i).meets (gs j) = false := fun i h hD => (hun j ao hao i (hb ao hao i h hD)).2
  have hmeeta : ∀ k, j < k → k < l.length → D k = true → (gs j).meets (gs k) = false := fun k h hk hD =>
    (hun k l[k] (List.getElem?_eq_getElem hk) j (ha k l[k] (List.getElem?_eq_getElem hk) h hD)).2
  have hag : ∀ m, m ∈ (gs j).rd ∨ m ∈ (gs j).wr → t.get m = (ss j).get m := fun m hm => by
    rw [I.get m, ← hs0]; exact agree F hjl hmeetb hmeeta hjD hm
  obtain ⟨t1, e1, e2, e3⟩ := S.again { t with next := (gs j).lo, lim := (gs j).lo, rd := [], wr := [] } rfl rfl hag
  rw [← hev] at e1
  have hlo : ∀ i, i < l.length → (gs i).lo = (ss i).next ∧ (gs i).hi = (ss (i + 1)).next := fun i hi => by
    have := F i l[i] (List.getElem?_eq_getElem hi)
    exact ⟨this.lo, this.hi⟩
  have hdisj : ∀ i, i < l.length → i ≠ j → ∀ m, (gs j).lo ≤ m → m < (gs j).hi → ¬ ((gs i).lo ≤ m ∧ m < (gs i).hi) := by
    intro i hi hne m h1 h2 h3
    rw [(hlo j hjl).1] at h1; rw [(hlo j hjl).2] at h2; rw [(hlo i hi).1, (hlo i hi).2] at h3
    rcases Nat.lt_or_gt_of_ne hne with h | h
    · have := lo_mono F (i := i + 1) (j := j) (by omega) (by omega); omega
    · have := lo_mono F (i := j + 1) (j := i) (by omega) (by omega); omega
  have hs_lo : s.next ≤ (gs j).lo := by rw [(hlo j hjl).1, ← hs0]; exact lo_mono F (by omega) (by omega)
  have hhi_n : (gs j).hi ≤ (ss l.length).next := by rw [(hlo j hjl).2]; exact lo_mono F (by omega) (by omega)
  have Rj : Rel P W0 base (gs j).hi K t.get (gs j).lo w := I.rel.refresh fun m h1 h2 => I.fresh m (by omega) (by omega) fun i hi hD hh => by
    have hne : i ≠ j := fun e => by rw [e, hjD] at hD; cases hD
    exact hdisj i hi hne m h1 h2 hh
  have hst := op_wp hco (hcs _) I.fr (hG0.mono I.kx.le) (s := { t with next := (gs j).lo, lim := (gs j).lo, rd := [], wr := [] }) Rj (Q := fun v s' => v = vs j ∧ s' = t1) (Qp := fun _ _ => False) (by rw [e1]; exact .ok _ _ ⟨rfl, rfl⟩)
    (Loc.xop hcall _ _) (fun v s' q => by rw [q.2, e2]; exact Nat.le_refl _) (fun v s' q => q.elim)
    (next := fun a' w' => ∃ t' K', PInv P W0 base L l.length l f s K0 ss vs gs D' t' K' a' w') (Qx := Qx) (fun v s' K' cv w' q k' hv r' => by
      obtain ⟨rfl, rfl⟩ := q
      simp only [e2] at k'
      refine ⟨s', K', ⟨fun m => ?_, ?_, r'.refresh fun n h1 h2 => by omega, ⟨I.kx.le.trans k'.le, fun n hn => ?_⟩, fun m h1 h2 h3 => ?_⟩⟩
      · rw [pd_add (D := D) hD' (fun hw k hk hD => ?_) l.length hjl, e3 m]
        · split
          · rfl
          · exact I.get m
        · cases hwk : (gs k).wrote m with
          | false => rfl
          | true =>
            have hkl := hDlt k hD
            have hmt := hmeeta k hk hkl hD
            simp only [Log.wrote, Bool.or_eq_true, Bool.and_eq_true, decide_eq_true_eq, List.contains_iff_mem] at hwk
            rcases hwk with hwk | hwk
            · have := (meets_spec hmt).1 m (.inr hwk)
              rw [hw] at this; cases this
            · have hmhi : m < (gs j).hi := by
                simp only [Log.wrote, Bool.or_eq_true, Bool.and_eq_true, decide_eq_true_eq, List.contains_iff_mem] at hw
                rcases hw with hw | hw
                · exact Nat.lt_of_lt_of_le (S.wr m hw) S.le
                · exact hw.2
              rw [(hlo j hjl).2] at hmhi
              rw [(hlo k hkl).1] at hwk
              have := lo_mono F (i := j + 1) (j := k) (by omega) (by omega)
              omega
      · rw [fd_add hD' hjD (fun k hk hD d hd => ?_) l.length hjl]
        · have hx : ((l[j]?).bind (·.dst)) = o.dst := by rw [hao]; exact hdst
          simp only [hx]
          exact (I.fr.mono k'.le).put hv _
        · have hkl := hDlt k hD
          obtain ⟨aj, g1, g2⟩ := hok' k l[k] (List.getElem?_eq_getElem hkl) j (ha k l[k] (List.getElem?_eq_getElem hkl) hk hD)
          rw [hao] at g1; cases g1
          have hd' : ao.dst = some d := by simpa [hao] using hd
          have := ((uses_free g2).1 d hd').2
          simpa [List.getElem?_eq_getElem hkl] using this
      · have := k'.same n (by omega)
        rw [this.1, this.2]
        exact I.kx.same n hn
      · have hnj : ¬ ((gs j).lo ≤ m ∧ m < (gs j).hi) := h3 j hjl (by rw [hD']; simp)
        have hD3 : ∀ i, i < l.length → D i = true → ¬ ((gs i).lo ≤ m ∧ m < (gs i).hi) := fun i hi hD => h3 i hi (by rw [hD', hD]; rfl)
        obtain ⟨f1, f2, f3⟩ := I.fresh m h1 h2 hD3
        have := k'.same m (by omega)
        refine ⟨by rw [this.1]; exact f1, by rw [this.2]; exact f2, ?_⟩
        rw [e3 m]
        have hnw : (gs j).wrote m = false := by
          cases hw : (gs j).wrote m with
          | false => rfl
          | true =>
            simp only [Log.wrote, Bool.or_eq_true, Bool.and_eq_true, decide_eq_true_eq, List.contains_iff_mem] at hw
            rcases hw with hw | hw
            · have hlt := S.wr m hw
              rw [S.lo] at hlt
              obtain ⟨i, i1, i2⟩ := in_range F (by rw [hs0]; exact h1) j (by omega) hlt
              cases hDi : D i with
              | true => exact absurd i2 (hD3 i (by omega) hDi)
              | false =>
                have := (meets_spec (hmeetb i i1 hDi)).1 m (.inr hw)
                simp only [Log.wrote, Bool.or_eq_false_iff, Bool.and_eq_false_iff, decide_eq_false_iff_not] at this
                omega
            · exact absurd hw hnj
        rw [hnw]
        exact f3)
    (fun v s' K' cv w' q => q.elim)
  unfold wpOp
  simp only [hj]
  by_cases hw : Region.wanted o (yielded ops a.tmps) = true
  · rw [if_pos hw]; exact .inl (hst.1 hw)
  · rw [if_neg hw]; exact hst.2 (by simpa using hw)
end
end Go.Ab
