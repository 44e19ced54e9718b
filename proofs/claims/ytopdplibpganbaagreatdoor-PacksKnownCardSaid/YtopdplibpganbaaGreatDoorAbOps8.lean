/-
  DERIVED. Each operation of the abstract machine, held against the model's: elements, append, copy, new slices.
-/
import Derived.Test.YtopdplibpganbaaGreatDoorAbOps7
set_option linter.unusedSimpArgs false
set_option linter.unusedVariables false
namespace Go.Ab
open Go.RowKit
section
variable {P : Program} {W0 : World} {base L : Nat} {K : Kr} {s s' : St} {w : World}

/-! ### The elements of a slice -/
theorem regroup_spec {agg : Bool} {size : Nat} (hag : agg = true ∨ size = 1) : ∀ {n : Nat} {cs l : List V}, regroup agg size n cs = some l → (∀ u ∈ cs, u.isCell = true) →
    l.length = n ∧ flat l = cs.take (n * size) ∧ n * size ≤ cs.length ∧ ∀ v ∈ l, v.cells.length = size ∧ v.isTup = false
  | 0, cs, l, h, _ => by simp only [regroup, Option.some.injEq] at h; subst h; simp [flat]
  | n + 1, cs, l, h, hc => by
    simp only [regroup] at h
    cases hm : mk agg size cs 0 with
    | none => rw [hm] at h; cases h
    | some v =>
      rw [hm] at h
      simp only [Option.map_eq_some_iff] at h
      obtain ⟨l', h1, rfl⟩ := h
      obtain ⟨a1, a2, a3, a4⟩ := regroup_spec hag h1 (fun u hu => hc u (List.mem_of_mem_drop hu))
      have hv : v.cells = cs.take size ∧ size ≤ cs.length ∧ v.isTup = false := by
        unfold mk at hm
        cases agg with
        | true =>
          simp only [if_true] at hm
          split at hm
          · rename_i hle
            cases hm
            simp only [V.cells, List.drop_zero]
            exact ⟨trivial, by omega, rfl⟩
          · cases hm
        | false =>
          simp only [Bool.false_eq_true, if_false] at hm
          have h1 : size = 1 := by rcases hag with h | h; cases h; exact h
          subst h1
          have hcv := hc v (List.mem_of_getElem? hm)
          cases cs with
          | nil => simp at hm
          | cons u r =>
            simp at hm; subst hm
            refine ⟨?_, by simp, ?_⟩
            · cases u <;> first | rfl | simp [V.isCell] at hcv
            · cases u <;> first | rfl | simp [V.isCell] at hcv
      obtain ⟨v1, v2, v3⟩ := hv
      have h1 : (n + 1) * size = size + n * size := by rw [Nat.add_mul]; omega
      simp only [List.length_drop] at a3
      refine ⟨by simp [a1], ?_, by omega, fun u hu => ?_⟩
      · rw [flat_cons, v1, a2, h1, List.take_add]
      · simp only [List.mem_cons] at hu
        rcases hu with rfl | hu
        · exact ⟨by rw [v1]; simp; omega, v3⟩
        · exact a4 u hu

/-- What of a value is copied or appended. -/
structure ElemsR (P : Program) (K : Kr) (size : Nat) (w : World) (m : List V) (cx : Value) : Prop where
  len : ∀ w' : World, (Builtin.lenOf cx).run P w' = .ok m.length w'
  first : ∀ n, n ≤ m.length → ∃ arr : Array Value, (∀ w' : World, w'.heap = w.heap → (Builtin.firstCells size n cx).run P w' = .ok arr w') ∧ VRL P K (flat (m.take n)) arr.toList
  cells : ∀ u ∈ flat m, u.isCell = true
  each : ∀ v ∈ m, v.cells.length = size ∧ v.isTup = false

theorem loadCells_VRL {b o : Nat} {cs : List V} (hc : ∀ (i : Nat) (u : V), cs[i]? = some u → ∃ cu, w.cell? ⟨b, o + i, none⟩ = some cu ∧ VR P K u cu ∧ u.isCell = true) :
    ∃ arr : Array Value, (∀ w' : World, w'.heap = w.heap → (loadCells ⟨b, o, none⟩ cs.length).run P w' = .ok arr w') ∧ VRL P K cs arr.toList := by
  have key : ∀ (l : List V) (k : Nat), (∀ (i : Nat) (u : V), l[i]? = some u → ∃ cu, w.cell? ⟨b, k + i, none⟩ = some cu ∧ VR P K u cu ∧ u.isCell = true) →
      ∃ l' : List Value, l'.length = l.length ∧ (∀ (j : Nat) (v : Value), l'[j]? = some v → w.cell? ⟨b, k + j, none⟩ = some v) ∧ VRL P K l l' := by
    intro l
    induction l with
    | nil => intro k _; exact ⟨[], rfl, fun j v e => by simp at e, .nil⟩
    | cons u l ih =>
      intro k hk
      obtain ⟨cu, a1, a2, a3⟩ := hk 0 u (by simp)
      obtain ⟨l', b1, b2, b3⟩ := ih (k + 1) (fun i x e => by
        have := hk (i + 1) x (by simpa using e)
        rw [show k + 1 + i = k + (i + 1) from by omega]; exact this)
      refine ⟨cu :: l', by simp [b1], fun j v e => ?_, .cons _ _ _ _ a2 b3⟩
      cases j with
      | zero => simp at e; subst e; simpa using a1
      | succ j => simp at e; have := b2 j v e; rw [show k + (j + 1) = k + 1 + j from by omega]; exact this
  obtain ⟨l', b1, b2, b3⟩ := key cs o hc
  refine ⟨l'.toArray, fun w' hw => run_loadCells b1 fun j v e => ?_, by simpa using b3⟩
  rw [cell_of_block (w := w) (by rw [hw])]; exact b2 j v e

theorem elems_sim {agg : Bool} {size : Nat} {m : List V} {x : V} {cx : Value} (R : Rel P W0 base L K s.get s.next w) (hx : VR P K x cx) (h : elems agg size x s = .ok m s') :
    ElemsR P K size w m cx ∧ s'.objs = s.objs ∧ s'.next = s.next := by
  unfold elems at h
  cases hx <;> simp only at h <;> (try (exact (fail_ok h).elim))
  case str st bs hbs =>
    split at h
    · rename_i hsz
      subst hsz
      obtain ⟨rfl, rfl⟩ := ret_ok h
      have hsize : bs.size = st.length := by rw [← hbs]; exact (Array.length_toList).symm
      refine ⟨⟨fun w' => by simp [Builtin.lenOf, ofBytes, hsize], fun n hn => ?_, fun u hu => ?_, fun v hv => ?_⟩, rfl, rfl⟩
      · refine ⟨_, fun w' _ => rfl, ?_⟩
        have hn' : n ≤ st.length := by simpa [ofBytes] using hn
        have e1 : (bs.extract 0 n).data.toList = st.take n := by
          rw [ByteArray.data_extract, Array.toList_extract, hbs, List.extract_eq_take_drop]
          simp
        have e2 : (ofBytes st).take n = ofBytes (st.take n) := by simp [ofBytes, List.map_take]
        rw [e2, flat_ofBytes]
        simp only [Array.toList_map]
        rw [e1]
        generalize st.take n = t
        induction t with
        | nil => exact .nil
        | cons b t ih => exact .cons _ _ _ _ (.int _ _) ih
      · rw [flat_ofBytes] at hu; simp only [ofBytes, List.mem_map] at hu; obtain ⟨_, _, rfl⟩ := hu; rfl
      · simp only [ofBytes, List.mem_map] at hv; obtain ⟨_, _, rfl⟩ := hv; exact ⟨rfl, rfl⟩
    · cases h
  case slnil sz =>
    split at h
    · obtain ⟨rfl, rfl⟩ := ret_ok h
      exact ⟨⟨fun _ => rfl, fun n hn => ⟨#[], fun _ _ => rfl, by simpa [flat] using .nil⟩, fun u hu => by simp [flat] at hu, fun v hv => by simp at hv⟩, rfl, rfl⟩
    · cases h
  case sl sz l t b o cap g1 g2 g3 g4 =>
    split at h
    · rename_i hsz
      obtain ⟨rfl, rfl⟩ := ret_ok h
      have hsz' : sz = size ∨ m = [] := hsz.imp id (by simp)
      have each : ∀ v ∈ m, v.cells.length = size ∧ v.isTup = false := by
        intro v hv
        rcases hsz' with rfl | rfl
        · exact g2 v hv
        · simp at hv
      refine ⟨⟨fun _ => rfl, fun n hn => ?_, fun u hu => ?_, each⟩, rfl, rfl⟩
      · have e1 := flat_take (fun v hv => (each v hv).1) n
        have e2 : ((flat m).take (n * size)).length = n * size := by
          rw [List.length_take, flat_length fun v hv => (each v hv).1]
          have : n * size ≤ m.length * size := Nat.mul_le_mul_right _ hn
          omega
        obtain ⟨arr, a1, a2⟩ := loadCells_VRL (w := w) (b := b) (o := o) (cs := (flat m).take (n * size)) (R.immCells (g3.take _))
        rw [e2] at a1
        exact ⟨arr, a1, by rw [e1]; exact a2⟩
      · obtain ⟨i, hi, rfl⟩ := List.getElem_of_mem hu
        exact (R.imm _ _ _ (g3 i _ (List.getElem?_eq_getElem hi))).choose_spec.2.2
    · cases h
  case rs sz n off len cap b cap' g1 g2 g3 =>
    split at h
    · rename_i hsz
      obtain ⟨hsz, hag⟩ := hsz
      subst hsz
      obtain ⟨⟨cs, ro⟩, s1, h1, h2⟩ := bind_ok h
      obtain ⟨h3, h4, h5⟩ := cellsOf_ok h1
      obtain ⟨h6, rfl⟩ := need_ok h2
      simp only at h3 h6
      have hcs := R.cells h3 g1
      have hcell : ∀ u ∈ cs, u.isCell = true := fun u hu => by
        obtain ⟨i, hi, rfl⟩ := List.getElem_of_mem hu
        exact (hcs i _ (List.getElem?_eq_getElem hi)).choose_spec.2.2
      obtain ⟨a1, a2, a3, a4⟩ := regroup_spec hag h6 (fun u hu => hcell u (List.mem_of_mem_drop hu))
      refine ⟨⟨fun _ => by simp [Builtin.lenOf, a1], fun k hk => ?_, fun u hu => ?_, a4⟩, h4, h5⟩
      · have e1 := flat_take (fun v hv => (a4 v hv).1) k
        rw [a2, List.take_take] at e1
        have hmin : min (k * sz) (len * sz) = k * sz := by
          have : k * sz ≤ len * sz := Nat.mul_le_mul_right _ (by omega)
          omega
        rw [hmin] at e1
        have e2 : ((cs.drop off).take (k * sz)).length = k * sz := by
          have : k * sz ≤ len * sz := Nat.mul_le_mul_right _ (by omega)
          rw [List.length_take]; omega
        obtain ⟨arr, b1, b2⟩ := loadCells_VRL (w := w) (b := b) (o := off) (cs := (cs.drop off).take (k * sz)) (fun i u e => by
          rw [List.getElem?_take] at e
          split at e
          · rw [List.getElem?_drop] at e; exact hcs _ _ e
          · cases e)
        rw [e2] at b1
        exact ⟨arr, b1, by rw [e1]; exact b2⟩
      · rw [a2] at hu
        exact hcell u (List.mem_of_mem_drop (List.mem_of_mem_take hu))
    · cases h

/-! ### New slices -/
theorem zeros_core {z : V} {cz : Value} (hz : VR P K z cz) (ht : z.isTup = false) {size : Nat} (hzl : z.cells.length = size) (n : Nat) {zc : Array Value} (hzc : n * size ≠ 0 → zc = cz.cells) :
    VRL P K (flat (List.replicate n z)) ((Array.range (n * size)).map (fun i => zc[i % zc.size]!)).toList ∧ ∀ u ∈ flat (List.replicate n z), u.isCell = true := by
  obtain ⟨k1, k2⟩ := hz.cells ht
  have hzsize : cz.cells.size = size := by have := k1.length; simp at this; omega
  have hfl : (flat (List.replicate n z)).length = n * size := by
    rw [flat_length (sz := size) fun v hv => by obtain ⟨_, rfl⟩ := List.mem_replicate.1 hv; exact hzl]; simp
  refine ⟨VRL.of_get (by simp [hfl]) fun i u u' hu hu' => ?_, fun u hu => ?_⟩
  · have hi : i < n * size := by have := (List.getElem?_eq_some_iff.1 hu).1; omega
    have hne : n * size ≠ 0 := by omega
    have hpos : 0 < size := by
      rcases Nat.eq_zero_or_pos size with h0 | h0
      · subst h0; simp at hi
      · exact h0
    rw [flat_replicate hzl n i hi] at hu
    simp only [Array.toList_map, List.getElem?_map, Array.toList_range, List.getElem?_range hi, Option.map_some, Option.some.injEq] at hu'
    subst hu'
    obtain ⟨x, e1, e2⟩ := k1.get _ _ hu
    simp only [Array.getElem?_toList] at e1
    rw [hzc hne, hzsize]
    have hlt : i % size < cz.cells.size := by rw [hzsize]; exact Nat.mod_lt _ hpos
    rw [getElem!_pos cz.cells (i % size) hlt]
    rw [Array.getElem?_eq_getElem hlt, Option.some.injEq] at e1
    rw [e1]; exact e2
  · simp only [flat, List.mem_flatMap] at hu
    obtain ⟨x, hx, hu⟩ := hu
    obtain ⟨_, rfl⟩ := List.mem_replicate.1 hx
    exact k2 u hu

theorem wrap_small (n : Nat) (h : n < most) : IntKind.i64.wrap (n : Int) = n := by
  have : most = 1099511627776 := by decide
  simp only [IntKind.wrap, IntKind.bits, IntKind.signed]
  simp
  omega

theorem replicate_flatten (z : V) (n : Nat) : (List.replicate n z.cells).flatten = flat (List.replicate n z) := by
  induction n with
  | zero => rfl
  | succ n ih => simp only [List.replicate_succ, List.flatten_cons, flat_cons, ih]

theorem mksl_sim {t e : TypeId} (hd : P.underlying t = some (.slice e)) {agg : Bool} {size : Nat} (hs : sh P e = some (agg, size)) {z : V} (hz : zeroA P e = some z) {i : TypeInfo} (hi : P.info? e = some i)
    (R : Rel P W0 base L K s.get s.next w) {len cap : V} {cl cc : Value} (hl : VR P K len cl) (hc : VR P K cap cc) :
    Sims P W0 base L (Instr.makeSlice t cl cc) (opMksl size i.bytes z.cells len cap s) K s w := by
  intro v s' h hL
  unfold opMksl at h
  cases h1 : asNat? len with
  | none => rw [h1] at h; cases h
  | some l =>
    cases h2 : asNat? cap with
    | none => rw [h1, h2] at h; cases h
    | some c =>
      rw [h1, h2] at h
      simp only at h
      split at h
      · rename_i hcond
        obtain ⟨c1, c2, c3⟩ := hcond
        obtain ⟨kl, rfl⟩ := asNat_VR hl h1
        obtain ⟨kc, rfl⟩ := asNat_VR hc h2
        obtain ⟨n, s1, h3, h4⟩ := bind_ok h
        obtain ⟨rfl, h5, h6⟩ := newO_ok h3
        obtain ⟨rfl, rfl⟩ := ret_ok h4
        obtain ⟨cz, z1, z2, z3⟩ := zeroA_spec hz K w
        have hmost : most = 1099511627776 := by decide
        have hcm : c < most := by
          have : c * 1 ≤ c * (i.bytes + size + 1) := Nat.mul_le_mul_left _ (by omega)
          omega
        have hcb : c * i.bytes < most := by
          have : c * i.bytes ≤ c * (i.bytes + size + 1) := Nat.mul_le_mul_left _ (by omega)
          omega
        let zc : Array Value := if c * size = 0 then #[] else cz.cells
        obtain ⟨k1, k2⟩ := zeros_core z2 z3 c3 c (zc := zc) (fun h => by simp only [zc]; rw [if_neg h])
        rw [replicate_flatten] at h5
        obtain ⟨a1, a2⟩ := newCells_core R (by omega) (cs := flat (List.replicate c z)) (c := (Array.range (c * size)).map (fun i => zc[i % zc.size]!)) e none (fun i u hu => by
          obtain ⟨x, e1, e2⟩ := k1.get i u hu
          exact ⟨x, by rw [← Array.getElem?_toList]; exact e1, e2⟩) k2 (fun y hy => by cases hy)
        refine ⟨.slice (some ⟨w.heap.size, 0, none⟩) l c, w.alloc (.cells ((Array.range (c * size)).map (fun i => zc[i % zc.size]!)) e), _, ?_, by rw [h6]; exact a1, ?_, by rw [h5, h6]; exact a2⟩
        · have hinfo : (typeInfo e).run P w = .ok i w := by simp [typeInfo, hi]
          have w1 := wrap_small l (by omega)
          have w2 := wrap_small c hcm
          have tl : ¬ ((i.bytes : Int) * (c : Int) > 2 ^ 48) := by
            have : ((i.bytes : Int) * (c : Int)) = ((c * i.bytes : Nat) : Int) := by rw [Nat.mul_comm]; simp
            rw [this]; omega
          have hno : ¬ ((c : Int) < 0) := by omega
          have hcond : (((decide ((c : Int) < 0) || decide ((i.bytes : Int) * (c : Int) > 2 ^ 48)) || decide ((l : Int) < 0)) || decide ((l : Int) > (c : Int))) = false := by
            simp only [Bool.or_eq_false_iff, decide_eq_false_iff_not]
            exact ⟨⟨⟨hno, tl⟩, by omega⟩, by omega⟩
          unfold Instr.makeSlice
          simp only [Sem.run_bind, run_underlying hd, Result.andThen_ok, asInt, asIntOf, hinfo, Sem.run_pure, w1, w2, (sh_spec hs w).2.1, run_askRoom]
          rw [hcond]
          simp only [Bool.false_eq_true, if_false, Sem.run_bind, run_askRoom, Result.andThen_ok, (sh_spec hs w).2.1, Int.toNat_natCast]
          by_cases h0 : c * size = 0
          · have hzc : zc = #[] := by simp only [zc]; rw [if_pos h0]
            rw [if_pos h0, hzc]
            simp only [pure_bind, Sem.run_bind, newRow, run_newObj, Result.andThen_ok, Sem.run_pure]
            rfl
          · have hzc : zc = cz.cells := by simp only [zc]; rw [if_neg h0]
            rw [if_neg h0, hzc]
            simp only [pure_bind, z1, Sem.run_bind, newRow, run_newObj, Result.andThen_ok, Sem.run_pure]
            rfl
        · exact .rs _ _ _ _ _ _ _ (by simp [Kr.addBlk]) c1 rfl
      · cases h

/-! ### Append -/
theorem nextslicecap_le (need c : Nat) (h : c < need) : Builtin.nextslicecap need c ≤ 8 * need + 2000 := by
  have grow : ∀ r x, x ≤ need + (need + 768) / 4 + 1 → Builtin.growBy need r x ≤ need + (need + (need + 768) / 4 + 1 + 768) / 4 + (need + 768) / 4 + 2 := by
    intro r
    induction r with
    | zero => intro x hx; simp only [Builtin.growBy]; omega
    | succ r ih =>
      intro x hx
      simp only [Builtin.growBy]
      split
      · omega
      · exact ih _ (by omega)
  unfold Builtin.nextslicecap
  split
  · omega
  · split
    · omega
    · have := grow 4 c (by omega)
      omega

/-- Rows of cells of equal size. -/
theorem zeroCells_size (z : Array Value) (n : Nat) : (Builtin.zeroCells z n).size = n * z.size := by simp [Builtin.zeroCells]

/-- What an append comes to in the model: in place. -/
theorem run_append_in {t t1 e : TypeId} (hd : P.underlying t = some (.slice e)) (hd1 : (∃ e1, P.underlying t1 = some (.slice e1)) ∨ P.underlying t1 = some .string) {agg : Bool} {size : Nat} (hs : sh P e = some (agg, size))
    {n : Nat} {cx : Value} (hlen : (Builtin.lenOf cx).run P w = .ok n w) {arr : Array Value} (harr : (Builtin.firstCells size n cx).run P w = .ok arr w) {a : Addr} {sLen sCap : Nat} (hle : sLen + n ≤ sCap) {ht : TypeId} {w' : World}
    (hst : (storeCells (a.add (sLen * size)) arr.toList).run P w = .ok () w') :
    (Builtin.append_ #[t, t1] ht #[.slice (some a) sLen sCap, cx]).run P w = .ok (.slice (some a) (sLen + n) sCap) w' := by
  have hsize := (sh_spec hs w).2.1
  rcases hd1 with ⟨e1, hd1⟩ | hd1 <;> simp [Builtin.append_, run_underlying hd, run_underlying hd1, hsize, hlen, harr, hle, hst]

/-- Nothing appended to what is nil. -/
theorem run_append_nil {t t1 e : TypeId} (hd : P.underlying t = some (.slice e)) (hd1 : (∃ e1, P.underlying t1 = some (.slice e1)) ∨ P.underlying t1 = some .string) {agg : Bool} {size : Nat} (hs : sh P e = some (agg, size))
    {cx : Value} (hlen : (Builtin.lenOf cx).run P w = .ok 0 w) {arr : Array Value} (harr : (Builtin.firstCells size 0 cx).run P w = .ok arr w) {sLen sCap : Nat} (hle : sLen ≤ sCap) {ht : TypeId} :
    (Builtin.append_ #[t, t1] ht #[.slice none sLen sCap, cx]).run P w = .ok (.slice none sLen sCap) w := by
  have hsize := (sh_spec hs w).2.1
  rcases hd1 with ⟨e1, hd1⟩ | hd1 <;> simp [Builtin.append_, run_underlying hd, run_underlying hd1, hsize, hlen, harr, hle]

/-- What an append comes to in the model: in a new row. -/
theorem run_append_new {t t1 e : TypeId} (hd : P.underlying t = some (.slice e)) (hd1 : (∃ e1, P.underlying t1 = some (.slice e1)) ∨ P.underlying t1 = some .string) {agg : Bool} {size : Nat} (hs : sh P e = some (agg, size))
    {i : TypeInfo} (hi : P.info? e = some i) {cz : Value} (hz : ∀ w : World, (zeroValue e).run P w = .ok cz w)
    {n : Nat} {cx : Value} (hlen : (Builtin.lenOf cx).run P w = .ok n w) {arr : Array Value} (harr : (Builtin.firstCells size n cx).run P w.drew = .ok arr w.drew) {base' : Option Addr} {sLen sCap : Nat} (hgt : ¬ sLen + n ≤ sCap)
    (hb : (sLen + n) * (i.bytes + size + 1) < most) (hb2 : i.bytes < 65536) {old : Array Value} (hold : (Builtin.firstCells size sLen (.slice base' sLen sCap)).run P w.drew = .ok old w.drew) {ht : TypeId} :
    (Builtin.append_ #[t, t1] ht #[.slice base' sLen sCap, cx]).run P w = .ok (.slice (some ⟨w.heap.size, 0, none⟩) (sLen + n) (grownCap w (sLen + n) sCap e))
      (w.drew.alloc (.cells (old ++ arr ++ Builtin.zeroCells cz.cells (grownCap w (sLen + n) sCap e - (sLen + n))) e)) := by
  have hsize : ∀ w : World, (sizeOf e).run P w = .ok size w := fun w => (sh_spec hs w).2.1
  have hinfo : ∀ w : World, (typeInfo e).run P w = .ok i w := fun w => by simp [typeInfo, hi]
  have hmost : most = 1099511627776 := by decide
  have hneed : sLen + n < most := by
    have : (sLen + n) * 1 ≤ (sLen + n) * (i.bytes + size + 1) := Nat.mul_le_mul_left _ (by omega)
    omega
  have hnb : (sLen + n) * i.bytes < most := by
    have : (sLen + n) * i.bytes ≤ (sLen + n) * (i.bytes + size + 1) := Nat.mul_le_mul_left _ (by omega)
    omega
  have hcap : Builtin.nextslicecap (sLen + n) sCap * i.bytes ≤ 281474976710656 := by
    have h1 := nextslicecap_le (sLen + n) sCap (by omega)
    have h2 : Builtin.nextslicecap (sLen + n) sCap * i.bytes ≤ (8 * (sLen + n) + 2000) * i.bytes := Nat.mul_le_mul_right _ h1
    have h3 : (8 * (sLen + n) + 2000) * i.bytes = 8 * ((sLen + n) * i.bytes) + 2000 * i.bytes := by rw [Nat.add_mul, Nat.mul_assoc]
    omega
  have hc1 : ¬ (((sLen + n : Nat) : Int) > IntKind.i64.max ∧ (False ∨ i.bytes = 0)) := by
    rintro ⟨h1, _⟩
    simp at h1; omega
  have hc2 : ¬ (Builtin.nextslicecap (sLen + n) sCap * i.bytes > 281474976710656) := by omega
  have hq : (Question.appendCap (sLen + n) sCap e).forced = false := rfl
  have hc3 : ¬ (9223372036854775807 < (sLen : Int) + (n : Int)) := by omega
  have hc4 : ¬ (281474976710656 < Builtin.nextslicecap (sLen + n) sCap * i.bytes) := hc2
  rcases hd1 with ⟨e1, hd1⟩ | hd1 <;>
    simp [Builtin.append_, run_underlying hd, run_underlying hd1, hsize, hlen, hgt, hinfo, hc3, hc4, hq, hold, harr, hz, newRow, grownCap]
end
end Go.Ab
