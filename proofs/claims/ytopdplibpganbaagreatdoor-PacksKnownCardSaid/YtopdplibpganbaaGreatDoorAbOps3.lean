/-
  DERIVED. Each operation of the abstract machine, held against the model's: slices, places, strings.
-/
import Derived.Test.YtopdplibpganbaaGreatDoorAbOps2
set_option linter.unusedSimpArgs false
set_option linter.unusedVariables false
namespace Go.Ab
open Go.RowKit
section
variable {P : Program} {W0 : World} {base L : Nat} {K : Kr} {s s' : St} {w : World}

/-! ### Lists of elements and their cells -/
theorem flat_length {sz : Nat} : ∀ {l : List V}, (∀ v ∈ l, v.cells.length = sz) → (flat l).length = l.length * sz
  | [], _ => by simp [flat]
  | v :: l, h => by
    have := flat_length (l := l) fun u hu => h u (by simp [hu])
    simp only [flat, List.flatMap_cons, List.length_append, List.length_cons] at *
    rw [h v (by simp), this, Nat.add_mul]; omega

theorem flat_cons (v : V) (l : List V) : flat (v :: l) = v.cells ++ flat l := by simp [flat]
theorem flat_append (a b : List V) : flat (a ++ b) = flat a ++ flat b := by simp [flat]

theorem flat_drop {sz : Nat} : ∀ {l : List V}, (∀ v ∈ l, v.cells.length = sz) → ∀ k, flat (l.drop k) = (flat l).drop (k * sz)
  | [], _, k => by simp [flat]
  | v :: l, h, 0 => by simp
  | v :: l, h, k + 1 => by
    have := flat_drop (l := l) (fun u hu => h u (by simp [hu])) k
    rw [List.drop_succ_cons, this, flat_cons, List.drop_append, h v (by simp)]
    have h1 : (k + 1) * sz = k * sz + sz := by rw [Nat.add_mul]; omega
    rw [List.drop_of_length_le (l := v.cells) (by rw [h v (by simp)]; omega), List.nil_append]
    congr 1; omega

theorem flat_take {sz : Nat} : ∀ {l : List V}, (∀ v ∈ l, v.cells.length = sz) → ∀ k, flat (l.take k) = (flat l).take (k * sz)
  | [], _, k => by simp [flat]
  | v :: l, h, 0 => by simp [flat]
  | v :: l, h, k + 1 => by
    have := flat_take (l := l) (fun u hu => h u (by simp [hu])) k
    rw [List.take_succ_cons, flat_cons, flat_cons, this, List.take_append, h v (by simp)]
    have h1 : (k + 1) * sz = k * sz + sz := by rw [Nat.add_mul]; omega
    rw [List.take_of_length_le (l := v.cells) (by rw [h v (by simp)]; omega)]
    congr 2; omega

theorem flat_get {sz : Nat} {l : List V} (h : ∀ v ∈ l, v.cells.length = sz) {i : Nat} {v : V} (hi : l[i]? = some v) : ((flat l).drop (i * sz)).take sz = v.cells := by
  have hlt := (List.getElem?_eq_some_iff.1 hi).1
  rw [← flat_drop h, List.drop_eq_getElem_cons hlt, flat_cons]
  have e : l[i] = v := by rw [List.getElem?_eq_getElem hlt] at hi; exact Option.some.inj hi
  have hv := h v (List.mem_of_getElem? hi)
  rw [e, List.take_append, hv, List.take_of_length_le (by omega)]
  simp

theorem Imm.drop {b o : Nat} {cs : List V} (h : Imm K b o cs) (k : Nat) : Imm K b (o + k) (cs.drop k) := by
  intro i v e
  rw [List.getElem?_drop] at e
  have := h _ _ e
  rw [show o + k + i = o + (k + i) from by omega]; exact this

theorem Imm.take {b o : Nat} {cs : List V} (h : Imm K b o cs) (k : Nat) : Imm K b o (cs.take k) := by
  intro i v e
  rw [List.getElem?_take] at e
  split at e
  · exact h _ _ e
  · cases e

theorem Imm.append {b o : Nat} {a c : List V} (h : Imm K b o a) (k : Imm K b (o + a.length) c) : Imm K b o (a ++ c) := by
  intro i v e
  by_cases hi : i < a.length
  · rw [List.getElem?_append_left hi] at e; exact h i v e
  · rw [List.getElem?_append_right (by omega)] at e
    have := k _ _ e
    rw [show o + a.length + (i - a.length) = o + i from by omega] at this
    exact this

/-! ### A literal's slice -/
theorem flat_set {sz : Nat} : ∀ {l : List V}, (∀ v ∈ l, v.cells.length = sz) → ∀ (i : Nat) (v : V), v.cells.length = sz → i < l.length → flat (l.set i v) = splice (flat l) (i * sz) v.cells
  | [], _, i, v, _, hi => by simp at hi
  | u :: l, h, 0, v, hv, _ => by
    simp only [List.set_cons_zero, flat_cons, splice, Nat.zero_mul, List.take_zero, List.nil_append, Nat.zero_add]
    rw [hv, List.drop_append, h u (by simp), List.drop_of_length_le (by rw [h u (by simp)]; omega)]
    simp
  | u :: l, h, i + 1, v, hv, hi => by
    have := flat_set (l := l) (fun u hu => h u (by simp [hu])) i v hv (by simpa using hi)
    simp only [List.set_cons_succ, flat_cons, this, splice]
    have h1 : (i + 1) * sz = i * sz + sz := by rw [Nat.add_mul]; omega
    have hu := h u (by simp)
    rw [h1, List.take_append, List.drop_append, hu, List.take_of_length_le (l := u.cells) (by omega), hv,
      List.drop_of_length_le (l := u.cells) (by omega), List.nil_append,
      show i * sz + sz - sz = i * sz from by omega, show i * sz + sz + sz - sz = i * sz + sz from by omega, List.append_assoc]

theorem fillL_fillA {sz : Nat} : ∀ (ps : List (Nat × V)) (l r : List V), (∀ v ∈ l, v.cells.length = sz ∧ v.isTup = false) → fillL sz l ps = some r →
    fillA (flat l) (ps.map fun p => (p.1 * sz, sz, p.2)) = some (flat r) ∧ r.length = l.length ∧ ∀ v ∈ r, v.cells.length = sz ∧ v.isTup = false := by
  intro ps
  induction ps with
  | nil => intro l r hl h; simp only [fillL, Option.some.injEq] at h; subst h; exact ⟨rfl, rfl, hl⟩
  | cons p ps ih =>
    intro l r hl h
    obtain ⟨i, v⟩ := p
    simp only [fillL] at h
    split at h
    · rename_i hc
      obtain ⟨c1, c2, c3⟩ := hc
      have hl' : ∀ u ∈ l.set i v, u.cells.length = sz ∧ u.isTup = false := by
        intro u hu
        rcases List.mem_or_eq_of_mem_set hu with hu | rfl
        · exact hl u hu
        · exact ⟨c1, c2⟩
      obtain ⟨a1, a2, a3⟩ := ih _ _ hl' h
      refine ⟨?_, by rw [a2]; simp, a3⟩
      have hlen := flat_length fun u hu => (hl u hu).1
      simp only [List.map_cons, fillA]
      have hle : i * sz + sz ≤ (flat l).length := by
        rw [hlen]
        have : (i + 1) * sz ≤ l.length * sz := Nat.mul_le_mul_right _ (by omega)
        rw [Nat.add_mul] at this; omega
      rw [if_pos ⟨c1, c2, hle⟩, ← flat_set (fun u hu => (hl u hu).1) i v c1 c3]
      exact a1
    · cases h

theorem flat_replicate {z : V} {sz : Nat} (hz : z.cells.length = sz) (n i : Nat) (hi : i < n * sz) : (flat (List.replicate n z))[i]? = z.cells[i % sz]? := by
  induction n generalizing i with
  | zero => simp at hi
  | succ n ih =>
    have hpos : 0 < sz := by
      rcases Nat.eq_zero_or_pos sz with h0 | h0
      · subst h0; simp at hi
      · exact h0
    rw [List.replicate_succ, flat_cons]
    by_cases h : i < sz
    · rw [List.getElem?_append_left (by omega), Nat.mod_eq_of_lt h]
    · rw [List.getElem?_append_right (by omega), hz, ih (i - sz) (by rw [Nat.add_mul] at hi; omega), Nat.mod_eq_sub_mod (a := i) (b := sz) (by omega)]

theorem bsl_sim {t e : TypeId} (hd : P.underlying t = some (.slice e)) {agg : Bool} {size : Nat} (hs : sh P e = some (agg, size)) {z : V} (hz : zeroA P e = some z) (hzl : z.cells.length = size)
    {n : Nat} (hn : n * size ≤ 2 ^ 20) (R : Rel P W0 base L K s.get s.next w) {ps : List (Nat × V)} {cps : Array (Nat × Value)} (hl : ps.length = cps.size)
    (hrel : ∀ (j : Nat) (p : Nat × V) (q : Nat × Value), ps[j]? = some p → cps.toList[j]? = some q → p.1 = q.1 ∧ VR P K p.2 q.2) :
    Sims P W0 base L (Instr.buildSlice t n cps) ((need "buildSlice" (fillL size (List.replicate n z) ps)).bind (fun l => M.ret (.sl size l .lit)) s) K s w := by
  intro v s' h hL
  obtain ⟨r, s1, h1, h2⟩ := bind_ok h
  obtain ⟨h3, rfl⟩ := need_ok h1
  obtain ⟨rfl, rfl⟩ := ret_ok h2
  obtain ⟨cz, z1, z2, z3⟩ := zeroA_spec hz K w
  obtain ⟨k1, k2⟩ := z2.cells z3
  have hzsize : cz.cells.size = size := by have := k1.length; simp at this; omega
  obtain ⟨a1, a2, a3⟩ := fillL_fillA ps _ r (fun v hv => by obtain ⟨_, rfl⟩ := List.mem_replicate.1 hv; exact ⟨hzl, z3⟩) h3
  simp only [List.length_replicate] at a2
  -- the zero cells
  let zc : Array Value := if n * size = 0 then #[] else cz.cells
  have hc0 : VRL P K (flat (List.replicate n z)) ((Array.range (n * size)).map (fun i => zc[i % zc.size]!)).toList := by
    refine VRL.of_get (by simp [flat_length (sz := size) (l := List.replicate n z) fun v hv => by obtain ⟨_, rfl⟩ := List.mem_replicate.1 hv; exact hzl]) fun i u u' hu hu' => ?_
    have hi : i < n * size := by
      have := (List.getElem?_eq_some_iff.1 hu).1
      rw [flat_length (sz := size) fun v hv => by obtain ⟨_, rfl⟩ := List.mem_replicate.1 hv; exact hzl] at this
      simpa using this
    have hne : n * size ≠ 0 := by omega
    have hpos : 0 < size := by
      rcases Nat.eq_zero_or_pos size with h0 | h0
      · subst h0; simp at hi
      · exact h0
    rw [flat_replicate hzl n i hi] at hu
    simp only [Array.toList_map, List.getElem?_map, Array.toList_range, List.getElem?_range hi, Option.map_some, Option.some.injEq] at hu'
    subst hu'
    obtain ⟨x, e1, e2⟩ := k1.get _ _ hu
    simp only [Array.getElem?_toList] at e1
    have hzc : zc = cz.cells := by simp only [zc]; rw [if_neg hne]
    rw [hzc, hzsize]
    have hlt : i % size < cz.cells.size := by rw [hzsize]; exact Nat.mod_lt _ hpos
    rw [getElem!_pos cz.cells (i % size) hlt]
    rw [Array.getElem?_eq_getElem hlt, Option.some.injEq] at e1
    rw [e1]; exact e2
  have hcell : ∀ u ∈ flat (List.replicate n z), u.isCell = true := by
    intro u hu
    simp only [flat, List.mem_flatMap] at hu
    obtain ⟨x, hx, hu⟩ := hu
    obtain ⟨_, rfl⟩ := List.mem_replicate.1 hx
    exact k2 u hu
  obtain ⟨cr, f1, f2, f3⟩ := fill_sim (P := P) (K := K) (place := fun i => some (i * size, size)) (ps.map fun p => (p.1 * size, size, p.2)) cps.toList _ _ (by simpa using hl)
    (fun j p q e1 e2 => by
      simp only [List.getElem?_map, Option.map_eq_some_iff] at e1
      obtain ⟨x, e3, rfl⟩ := e1
      obtain ⟨g1, g2⟩ := hrel j x q e3 e2
      exact ⟨by rw [g1], g2⟩) hc0 hcell _ a1
  obtain ⟨i1, i2⟩ := newImm_core R e f2.array f3
  refine ⟨.slice (some ⟨w.heap.size, 0, none⟩) r.length r.length, w.alloc (.cells cr e), K.addImm w.heap.size 0 (flat r), ?_, ⟨i1, fun _ _ => ⟨rfl, rfl⟩⟩, ?_, i2⟩
  · simp only [Instr.buildSlice, Sem.run_bind, run_underlying hd, Result.andThen_ok, (sh_spec hs w).2.1]
    rw [if_neg (by have : (2 : Nat) ^ 20 ≤ 2 ^ 24 := by decide
                   omega)]
    by_cases h0 : n * size = 0
    · have hzc : zc = #[] := by simp only [zc]; rw [if_pos h0]
      rw [hzc] at f1
      rw [if_pos h0]
      simp only [pure_bind, f1, Sem.run_bind, newRow, run_newObj, Result.andThen_ok, Sem.run_pure, a2]
      rfl
    · have hzc : zc = cz.cells := by simp only [zc]; rw [if_neg h0]
      rw [hzc] at f1
      rw [if_neg h0]
      simp only [pure_bind, z1, f1, Sem.run_bind, newRow, run_newObj, Result.andThen_ok, Sem.run_pure, a2]
      rfl
  · refine .sl _ _ _ _ _ _ (Nat.le_refl _) a3 Kr.imm_addImm ⟨rfl, ?_⟩
    show K.low ≤ _
    rw [R.low]; exact R.above
end
end Go.Ab
