/-
  DERIVED. Runs of the model's small programs over memory, as far as the abstract machine's operations need them.
-/
import Derived.Test.YtopdplibpganbaaGreatDoorAbState
set_option linter.unusedSimpArgs false
set_option linter.unusedVariables false
namespace Go.Ab
open Go.RowKit

section
variable {P : Program} {w : World}

theorem add_none (b o n : Nat) : Addr.add ⟨b, o, none⟩ n = ⟨b, o + n, none⟩ := Addr.add_lit b o n

theorem run_loadCellsFrom (b o : Nat) : ∀ (n i : Nat) (acc : Array Value) (vs : List Value), vs.length = n → (∀ (j : Nat) (v : Value), vs[j]? = some v → w.cell? ⟨b, o + i + j, none⟩ = some v) →
    (loadCellsFrom ⟨b, o, none⟩ i n acc).run P w = .ok (acc ++ vs.toArray) w := by
  intro n
  induction n with
  | zero => intro i acc vs hl h; cases vs with
    | nil => simp [loadCellsFrom]
    | cons _ _ => simp at hl
  | succ n ih =>
    intro i acc vs hl h
    cases vs with
    | nil => simp at hl
    | cons v vs =>
      have h0 := h 0 v (by simp)
      simp only [Nat.add_zero] at h0
      simp only [loadCellsFrom, Sem.run_bind, run_load, add_none, h0, Result.andThen_ok]
      rw [ih (i + 1) (acc.push v) vs (by simpa using hl) (fun j u e => by
        have := h (j + 1) u (by simpa using e)
        rw [show o + (i + 1) + j = o + i + (j + 1) from by omega]; exact this)]
      simp

theorem run_loadCells {b o : Nat} {vs : List Value} {n : Nat} (hl : vs.length = n) (h : ∀ (j : Nat) (v : Value), vs[j]? = some v → w.cell? ⟨b, o + j, none⟩ = some v) :
    (loadCells ⟨b, o, none⟩ n).run P w = .ok vs.toArray w := by
  unfold loadCells
  rw [run_loadCellsFrom b o n 0 #[] vs hl (fun j v e => by simpa using h j v e)]
  simp

/-- What a run of stores leaves of a block. -/
theorem run_storeCells {b o : Nat} {e : TypeId} {fz : Nat × Nat} : ∀ (vs : List Value) (i : Nat) (w : World) (c : Array Value), w.heap[b]? = some (.cells c e fz) → o + i + vs.length ≤ c.size →
    (∀ v ∈ vs, v.oneCell' = true) → (∀ j, o + i ≤ j → j < o + i + vs.length → ¬ (fz.1 ≤ j ∧ j < fz.2)) →
    ∃ w' c', (storeCells ⟨b, o, none⟩ vs i).run P w = .ok () w' ∧ Touch b w w' ∧ w'.heap[b]? = some (.cells c' e fz) ∧ c'.size = c.size ∧
      ∀ j, c'[j]? = if o + i ≤ j ∧ j < o + i + vs.length then vs[j - (o + i)]? else c[j]? := by
  intro vs
  induction vs with
  | nil =>
    intro i w c hb hs _ _
    exact ⟨w, c, by simp [storeCells], ⟨rfl, rfl, rfl, rfl, fun c t fz h => ⟨c, t, h, rfl⟩, fun _ _ => rfl⟩, hb, rfl, fun j => by simp; omega⟩
  | cons v vs ih =>
    intro i w c hb hs hv hf
    simp only [List.length_cons] at hs hf
    have hlt : o + i < c.size := by omega
    have hcell : w.cell? ⟨b, o + i, none⟩ = some c[o + i] := by simp [World.cell?, hb, hlt]
    have hfr : w.frozen? ⟨b, o + i, none⟩ = false := by
      have := hf (o + i) (Nat.le_refl _) (by omega)
      simp only [World.frozen?, hb]
      rw [Bool.eq_false_iff]
      simp only [ne_eq, Bool.and_eq_true, decide_eq_true_eq]
      exact this
    have h1 : (store ⟨b, o + i, none⟩ v .plain).run P w = .ok () (w.setCell ⟨b, o + i, none⟩ v) := by
      rw [run_store P w _ v .plain (hv v (by simp))]
      simp [hcell, hfr]
    have hb' : (w.setCell ⟨b, o + i, none⟩ v).heap[b]? = some (.cells (c.setIfInBounds (o + i) v) e fz) := by
      simp [World.setCell, Array.getElem?_modify, hb]
    obtain ⟨w', c', h2, t, h3, h4, h5⟩ := ih (i + 1) _ _ hb' (by simp; omega) (fun u hu => hv u (by simp [hu])) (fun j h1 h2 => hf j (by omega) (by omega))
    refine ⟨w', c', ?_, ?_, h3, by simpa using h4, fun j => ?_⟩
    · simp only [storeCells, Sem.run_bind, add_none, h1, Result.andThen_ok, h2]
    · refine ⟨t.os, t.tape, t.output, by rw [t.size]; simp, fun c1 t1 fz1 h => ?_, fun k hk => by rw [t.block k hk]; exact Below.heap_setCell _ _ _ _ hk⟩
      rw [h3] at h; cases h
      exact ⟨c, e, hb, by rw [h4]; simp⟩
    · rw [h5 j]
      simp only [List.length_cons]
      by_cases h6 : o + (i + 1) ≤ j ∧ j < o + (i + 1) + vs.length
      · rw [if_pos h6, if_pos (by omega), show j - (o + i) = (j - (o + (i + 1))) + 1 from by omega]
        simp
      · rw [if_neg h6]
        by_cases h7 : j = o + i
        · subst h7
          rw [if_pos (by omega)]
          simp [hlt]
        · rw [if_neg (by omega), Array.getElem?_setIfInBounds_ne (by omega)]

theorem sh_spec {t : TypeId} {agg : Bool} {size : Nat} (h : sh P t = some (agg, size)) (w : World) :
    (isAgg t).run P w = .ok agg w ∧ (sizeOf t).run P w = .ok size w ∧ (agg = false → size = 1) ∧ P.cellsOf t = size := by
  unfold sh at h
  cases hi : P.info? t with
  | none => simp [hi] at h
  | some i =>
    cases hd : P.underlying t with
    | none => simp [hi, hd] at h
    | some d =>
      have hsz : (sizeOf t).run P w = .ok i.size w := by simp [sizeOf, typeInfo, hi]
      have hag : (isAgg t).run P w = .ok (isAggD d) w := by
        simp only [isAgg, Sem.run_bind, underlying, run_program, Result.andThen_ok, hd, Sem.run_pure]
        cases d <;> rfl
      simp only [hi, hd, Option.bind_eq_bind, Option.bind_some] at h
      split at h
      · rename_i h1
        simp only [Option.pure_def, Option.some.injEq, Prod.mk.injEq] at h
        obtain ⟨h2, h3⟩ := h
        refine ⟨by rw [hag, ← h2], by rw [hsz, h3], fun h4 => ?_, by simp [Program.cellsOf, hi, h3]⟩
        rw [h4] at h2
        simp only [Bool.or_eq_true, beq_iff_eq] at h1
        rcases h1 with h1 | h1
        · rw [h2] at h1; cases h1
        · omega
      · cases h

theorem run_zero {t : TypeId} {i : TypeInfo} {z : Value} (hi : P.info? t = some i) (hz : i.zero = some z) (w : World) : (zeroValue t).run P w = .ok z w := by
  simp [zeroValue, typeInfo, hi, hz]

theorem mapM_length {α β : Type} {f : α → Option β} : ∀ {l : List α} {r : List β}, l.mapM f = some r → r.length = l.length
  | [], r, h => by simp at h; subst h; rfl
  | a :: l, r, h => by
    rw [List.mapM_cons] at h
    cases ha : f a with
    | none => simp [ha] at h
    | some b =>
      cases hl : l.mapM f with
      | none => simp [ha, hl] at h
      | some l' => simp [ha, hl] at h; subst h; simp [mapM_length hl]

/-- What is constant is told whole. -/
theorem absV_VR (P : Program) (K : Kr) : ∀ (n : Nat) (v : Value) (x : V), absV n v = some x → VR P K x v ∧ x.isTup = (match v with | .tuple _ => true | _ => false) := by
  intro n
  induction n with
  | zero => intro v x h; simp [absV] at h
  | succ n ih =>
    have many : ∀ (l : List Value) (r : List V), l.mapM (absV n) = some r → VRL P K r l := by
      intro l
      induction l with
      | nil => intro r h; simp at h; subst h; exact .nil
      | cons a l ihl =>
        intro r h
        rw [List.mapM_cons] at h
        cases ha : absV n a with
        | none => simp [ha] at h
        | some b =>
          cases hl : l.mapM (absV n) with
          | none => simp [ha, hl] at h
          | some l' => simp [ha, hl] at h; subst h; exact .cons _ _ _ _ (ih a b ha).1 (ihl l' hl)
    intro v x h
    unfold absV at h
    split at h <;> (try (simp only [Option.some.injEq] at h; subst h))
    · exact ⟨.bool _, rfl⟩
    · exact ⟨.int _ _, rfl⟩
    · exact ⟨.str _ _ rfl, rfl⟩
    · exact ⟨.nilp, rfl⟩
    · exact ⟨.slnil 0, rfl⟩
    · exact ⟨.nilm, rfl⟩
    · exact ⟨.nilf, rfl⟩
    · exact ⟨.nili, rfl⟩
    · rename_i cs
      cases hm : cs.toList.mapM (absV n) with
      | none => simp [hm] at h
      | some l =>
        simp only [hm, Option.bind_eq_bind, Option.bind_some] at h
        split at h
        · rename_i hc
          simp only [Option.some.injEq] at h; subst h
          exact ⟨.agg _ _ (fun v hv => by simpa using (List.all_eq_true.1 hc) v hv) (many _ _ hm), rfl⟩
        · cases h
    · rename_i cs
      cases hm : cs.toList.mapM (absV n) with
      | none => simp [hm] at h
      | some l => simp [hm] at h; subst h; exact ⟨.tup _ _ (many _ _ hm), rfl⟩
    · cases h

theorem zeroA_spec {t : TypeId} {z : V} (h : zeroA P t = some z) (K : Kr) (w : World) : ∃ cz, (zeroValue t).run P w = .ok cz w ∧ VR P K z cz ∧ z.isTup = false := by
  unfold zeroA at h
  cases hi : P.info? t with
  | none => simp [hi] at h
  | some i =>
    cases hz : i.zero with
    | none => simp [hi, hz] at h
    | some z' =>
      cases ha : absV 4 z' with
      | none => simp [hi, hz, ha] at h
      | some v =>
        simp only [hi, hz, ha, Option.bind_eq_bind, Option.bind_some] at h
        split at h
        · cases h
        · rename_i hv
          cases h
          exact ⟨z', run_zero hi hz w, (absV_VR P K 4 z' _ ha).1, by simpa using hv⟩
end
end Go.Ab
