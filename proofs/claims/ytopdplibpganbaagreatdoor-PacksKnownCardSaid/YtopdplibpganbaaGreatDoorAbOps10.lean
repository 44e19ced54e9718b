/-
  DERIVED. Each operation of the abstract machine, held against the model's: copy, clear, what is never written again, len, cap, min, max, tuples, interfaces.
-/
import Derived.Test.YtopdplibpganbaaGreatDoorAbOps9
set_option linter.unusedSimpArgs false
set_option linter.unusedVariables false
namespace Go.Ab
open Go.RowKit
section
variable {P : Program} {W0 : World} {base L : Nat} {K : Kr} {s s' : St} {w : World}

theorem opCopy_sim {ts : Array TypeId} {t e ty : TypeId} (ht : ts[0]? = some t) (hd : P.underlying t = some (.slice e)) {agg : Bool} {size : Nat} (hs : sh P e = some (agg, size)) (R : Rel P W0 base L K s.get s.next w)
    {d x : V} {cd cx : Value} (hdv : VR P K d cd) (hx : VR P K x cx) : Sims P W0 base L (Builtin.copy_ ts ty #[cd, cx]) (opCopy agg size d x s) K s w := by
  intro v s' h hL
  unfold opCopy at h
  obtain ⟨m, s1, h1, h2⟩ := bind_ok h
  obtain ⟨E, o1, n1⟩ := elems_sim R hx h1
  have R1 := R.like o1 n1
  have hsize : ∀ w : World, (sizeOf e).run P w = .ok size w := fun w => (sh_spec hs w).2.1
  cases hdv <;> simp only at h2 <;> (try (exact (fail_ok h2).elim))
  case slnil sz =>
    obtain ⟨rfl, rfl⟩ := ret_ok h2
    obtain ⟨arr, a1, a2⟩ := E.first 0 (Nat.zero_le _)
    refine ⟨_, w, K, ?_, by rw [n1]; exact .refl _ _ _, .int _ _, R1⟩
    simp [Builtin.copy_, ht, run_underlying hd, E.len w, hsize, a1 w rfl, Nat.min_def, goInt]
  case sl sz l tp b o cap g1 g2 g3 g4 =>
    cases l with
    | cons u l => cases h2
    | nil =>
      obtain ⟨rfl, rfl⟩ := ret_ok h2
      obtain ⟨arr, a1, a2⟩ := E.first 0 (Nat.zero_le _)
      have h0 : arr = #[] := a2.nil_arr
      subst h0
      refine ⟨_, w, K, ?_, by rw [n1]; exact .refl _ _ _, .int _ _, R1⟩
      simp [Builtin.copy_, ht, run_underlying hd, E.len w, hsize, a1 w rfl, Nat.min_def, goInt, storeCells]
  case rs sz n off len cap b cap' g1 g2 g3 =>
    obtain ⟨⟨cs, ro⟩, s2, h3, h4⟩ := bind_ok h2
    obtain ⟨hg, h5, h6⟩ := cellsOf_ok h3
    simp only at hg h4
    split at h4
    · cases h4
    · rename_i hno
      simp only [Bool.or_eq_true, bne_iff_ne, ne_eq, decide_eq_true_eq, not_or, Decidable.not_not, Bool.not_eq_true, gt_iff_lt, Nat.not_lt] at hno
      obtain ⟨⟨rfl, rfl⟩, hle⟩ := hno
      have R2 := R1.like h5 h6
      have hget2 : s2.get = s1.get := by funext k; simp only [St.get, h5]
      have hg2 : s2.get n = some (.cells cs false) := by rw [hget2]; exact hg
      obtain ⟨u, s3, h7, h8⟩ := bind_ok h4
      obtain ⟨h9, h10⟩ := setO_ok h7
      obtain ⟨rfl, rfl⟩ := ret_ok h8
      have hmin : (m.take len).length = Nat.min m.length len := by rw [List.length_take]; exact Nat.min_comm _ _
      obtain ⟨arr, a1, a2⟩ := E.first (Nat.min m.length len) (Nat.min_le_left _ _)
      have htake : m.take (Nat.min m.length len) = m.take len := by
        rw [show Nat.min m.length len = min len m.length from Nat.min_comm _ _, List.take_eq_take_min (i := len)]
      rw [htake] at a2
      have hflen : (flat (m.take len)).length = (m.take len).length * sz := flat_length fun v hv => (E.each v (List.mem_of_mem_take hv)).1
      have hle2 : (m.take len).length * sz ≤ len * sz := Nat.mul_le_mul_right _ (by rw [List.length_take]; exact Nat.min_le_left _ _)
      obtain ⟨w', r1, r2⟩ := write_core (off := off) R2 hg2 g1 a2 (fun u hu => by
        simp only [flat, List.mem_flatMap] at hu ⊢
        obtain ⟨x, hx, hu⟩ := hu
        exact E.cells u (by simp only [flat, List.mem_flatMap]; exact ⟨x, List.mem_of_mem_take hx, hu⟩)) (by omega)
      refine ⟨_, w', K, ?_, by rw [h10, h6, n1]; exact .refl _ _ _, .int _ _, by rw [h9, h10]; exact r2⟩
      simp [Builtin.copy_, ht, run_underlying hd, E.len w, hsize, a1 w rfl, r1, goInt, hmin]

/-! ### Objects of one word: read and written -/
def noCells : Obj → Bool
  | .cells .. => false
  | _ => true
theorem run_get {b : Nat} {o : Obj} (h : w.heap[b]? = some o) (hn : noCells o = true) : (getObj b).run P w = .ok o w := by
  cases o <;> first | (cases hn; done) | simp [getObj, Sem.run, h]
theorem run_set {b : Nat} {o o' : Obj} (h : w.heap[b]? = some o) (hn : noCells o = true) : (setObj b o').run P w = .ok () { w with heap := w.heap.setIfInBounds b o' } := by
  cases o <;> first | (cases hn; done) | simp [setObj, Sem.run, h]
theorem set_at {b : Nat} {o o' : Obj} (h : w.heap[b]? = some o) : ({ w with heap := w.heap.setIfInBounds b o' } : World).heap[b]? = some o' := by
  have hlt : b < w.heap.size := (Array.getElem?_eq_some_iff.1 h).1
  simp [hlt]

theorem touch_set {b : Nat} {o o' : Obj} (h : w.heap[b]? = some o) (hc : ∀ c t fz, o' ≠ .cells c t fz) : Touch b w { w with heap := w.heap.setIfInBounds b o' } := by
  refine ⟨rfl, rfl, rfl, by simp, fun c t fz e => ?_, fun k hk => ?_⟩
  · rw [set_at h] at e; cases e; exact absurd rfl (hc c t fz)
  · simp only
    rw [Array.getElem?_setIfInBounds_ne (fun e => hk e.symm)]

theorem mapOf_ok {x : V} {r : List Ent × Nat} (h : mapOf x s = .ok r s') : (x = .nilm ∧ r = ([], 0) ∧ s' = s) ∨ ∃ n, x = .map n ∧ s.get n = some (.map r.1 r.2) ∧ s'.objs = s.objs ∧ s'.next = s.next := by
  unfold mapOf at h
  cases x <;> simp only at h <;> (try (exact (fail_ok h).elim))
  case nilm => obtain ⟨rfl, rfl⟩ := ret_ok h; exact .inl ⟨rfl, rfl, rfl⟩
  case map n =>
    obtain ⟨o, s1, h1, h2⟩ := bind_ok h
    obtain ⟨rfl, h3, h4⟩ := getO_ok h1
    right
    cases hg : s.get n with
    | none => rw [hg] at h2; cases h2
    | some o =>
      rw [hg] at h2
      cases o <;> first
        | (cases h2; done)
        | skip
      rename_i es c
      obtain ⟨rfl, rfl⟩ := ret_ok h2
      exact ⟨n, rfl, hg, h3, h4⟩

theorem Rel.mapAt (R : Rel P W0 base L K s.get s.next w) {n b : Nat} {es : List Ent} {c : Nat} (hg : s.get n = some (.map es c)) (hb : K.blk n = some b) :
    base ≤ b ∧ ∃ ces, w.heap[b]? = some (.map ces c) ∧ EntsR P K es ces.toList := by
  obtain ⟨b', h1, h2⟩ := R.obj n _ hg rfl
  rw [h1] at hb; cases hb
  exact h2

theorem map_core (R : Rel P W0 base L K s.get s.next w) {n b : Nat} {es es' : List Ent} {c c' : Nat} {ces ces' : Array MapEntry} (hg : s.get n = some (.map es c)) (hb : K.blk n = some b) (hw : w.heap[b]? = some (.map ces c))
    (hbase : base ≤ b) (he : EntsR P K es' ces'.toList) :
    ∃ w', (setObj b (.map ces' c')).run P w = .ok () w' ∧ Rel P W0 base L K (upd s.get n (some (.map es' c'))) s.next w' :=
  ⟨_, run_set hw rfl, R.write hg rfl rfl hb hbase (touch_set hw (fun _ _ _ h => by cases h)) rfl rfl ⟨hbase, ces', set_at hw, he⟩⟩

theorem opClr_sim {ts : Array TypeId} {t ty : TypeId} (ht : ts[0]? = some t) {d : TypeDesc} (hd : P.underlying t = some d) {zero : List V} (hz : (∃ e z, d = .slice e ∧ zeroA P e = some z ∧ zero = z.cells) ∨ (∃ k e, d = .map k e ∧ zero = []))
    (R : Rel P W0 base L K s.get s.next w)
    {x : V} {cx : Value} (hx : VR P K x cx) {v : V} (h : opClr zero x s = .ok v s') : v = undef ∧ ∃ w', (Builtin.clear_ ts ty #[cx]).run P w = .ok (.tuple #[]) w' ∧ Rel P W0 base L K s'.get s'.next w' ∧ s'.next = s.next := by
  unfold opClr at h
  cases hx <;> simp only at h <;> (try (exact (fail_ok h).elim))
  case nilm => obtain ⟨rfl, rfl⟩ := ret_ok h; exact ⟨rfl, w, by simp [Builtin.clear_, ht, run_underlying hd], R, rfl⟩
  case slnil sz => obtain ⟨rfl, rfl⟩ := ret_ok h; exact ⟨rfl, w, by simp [Builtin.clear_, ht, run_underlying hd], R, rfl⟩
  case sl sz l tp b o cap g1 g2 g3 g4 =>
    cases l with
    | cons u l => cases h
    | nil => obtain ⟨rfl, rfl⟩ := ret_ok h; exact ⟨rfl, w, by simp [Builtin.clear_, ht, run_underlying hd], R, rfl⟩
  case map n b hb =>
    obtain ⟨⟨es, c⟩, s1, h1, h2⟩ := bind_ok h
    rcases mapOf_ok h1 with ⟨h3, _⟩ | ⟨n', h3, h4, h5, h6⟩
    · cases h3
    · cases h3
      obtain ⟨u, s2, h7, h8⟩ := bind_ok h2
      obtain ⟨h9, h10⟩ := setO_ok h7
      obtain ⟨rfl, rfl⟩ := ret_ok h8
      obtain ⟨hbase, ces, hw, _⟩ := R.mapAt h4 hb
      have hget1 : s1.get = s.get := by funext k; simp only [St.get, h5]
      obtain ⟨w', r1, r2⟩ := map_core (es' := []) (c' := c) (ces' := #[]) R h4 hb hw hbase ⟨rfl, fun i e h => by simp at h⟩
      refine ⟨rfl, w', ?_, by rw [h9, h10, hget1, h6]; exact r2, by rw [h10, h6]⟩
      simp [Builtin.clear_, ht, run_underlying hd, run_get hw rfl, r1]
  case rs sz n off len cap b cap' g1 g2 g3 =>
    obtain ⟨⟨cs, ro⟩, s1, h3, h4⟩ := bind_ok h
    obtain ⟨hg, h5, h6⟩ := cellsOf_ok h3
    simp only at hg h4
    split at h4
    · cases h4
    · rename_i hno
      simp only [Bool.or_eq_true, decide_eq_true_eq, not_or, Bool.not_eq_true, gt_iff_lt, Nat.not_lt, beq_eq_false_iff_ne, ne_eq] at hno
      obtain ⟨⟨⟨rfl, hlen⟩, hzz⟩, hle⟩ := hno
      have R1 := R.like h5 h6
      have hget1 : s1.get = s.get := by funext k; simp only [St.get, h5]
      have hg1 : s1.get n = some (.cells cs false) := by rw [hget1]; exact hg
      obtain ⟨u, s2, h7, h8⟩ := bind_ok h4
      obtain ⟨h9, h10⟩ := setO_ok h7
      obtain ⟨rfl, rfl⟩ := ret_ok h8
      rcases hz with ⟨e, z, rfl, hz, rfl⟩ | ⟨k, e, rfl, rfl⟩
      · obtain ⟨cz, z1, z2, z3⟩ := zeroA_spec (P := P) hz K w
        obtain ⟨c1, c2⟩ := zeros_core z2 z3 (size := z.cells.length) rfl len (zc := cz.cells) (fun _ => rfl)
        rw [replicate_flatten] at h9
        obtain ⟨w', r1, r2⟩ := write_core (off := off) R1 hg1 g1 c1 c2 (by
          rw [flat_length (sz := z.cells.length) fun v hv => by obtain ⟨_, rfl⟩ := List.mem_replicate.1 hv; rfl]
          simpa using hle)
        refine ⟨rfl, w', ?_, by rw [h9, h10]; exact r2, by rw [h10, h6]⟩
        have hzc : (Builtin.zeroCells cz.cells len).toList = ((Array.range (len * z.cells.length)).map (fun i => cz.cells[i % cz.cells.size]!)).toList := by
          have := cells_length z2 z3
          simp [Builtin.zeroCells, this]
        cases len with
        | zero => exact absurd rfl hlen
        | succ len => rw [← hzc] at r1; simp [Builtin.clear_, ht, run_underlying hd, z1, r1]
      · cases hzz
end
end Go.Ab
