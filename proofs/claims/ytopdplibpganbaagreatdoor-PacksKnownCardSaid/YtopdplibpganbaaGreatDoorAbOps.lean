/-
  DERIVED. Each operation of the abstract machine, held against the model's: loads, stores, new blocks, structs, slices.
-/
import Derived.Test.YtopdplibpganbaaGreatDoorAbMem
set_option linter.unusedSimpArgs false
set_option linter.unusedVariables false
namespace Go.Ab
open Go.RowKit

/-- More is known, of names from a to b alone. -/
structure Kx (a b : Nat) (K K' : Kr) : Prop where
  le : K.le K'
  same : ∀ n, (n < a ∨ b ≤ n) → K'.blk n = K.blk n ∧ K'.tip n = K.tip n

theorem Kx.refl (a b : Nat) (K : Kr) : Kx a b K K := ⟨.refl K, fun _ _ => ⟨rfl, rfl⟩⟩
theorem Kx.trans {a b c : Nat} {K1 K2 K3 : Kr} (h : Kx a b K1 K2) (k : Kx b c K2 K3) (hab : a ≤ b) (hbc : b ≤ c) : Kx a c K1 K3 :=
  ⟨h.le.trans k.le, fun n hn => ⟨by rw [(k.same n (by omega)).1, (h.same n (by omega)).1], by rw [(k.same n (by omega)).2, (h.same n (by omega)).2]⟩⟩

section
variable (P : Program) (W0 : World) (base L : Nat)

/-- What the abstract operation answers, the model's program comes to. -/
def Sims (sm : Sem Value) (r : R V) (K : Kr) (s : St) (w : World) : Prop :=
  ∀ v s', r = .ok v s' → s'.next ≤ L → ∃ cv w' K', sm.run P w = .ok cv w' ∧ Kx s.next s'.next K K' ∧ VR P K' v cv ∧ Rel P W0 base L K' s'.get s'.next w'
end

section
variable {P : Program} {W0 : World} {base L : Nat} {K : Kr} {s s' : St} {w : World}

theorem bind_ok {α β : Type} {m : M α} {f : α → M β} {b : β} (h : (m.bind f) s = .ok b s') : ∃ a s1, m s = .ok a s1 ∧ f a s1 = .ok b s' := by
  unfold M.bind at h
  cases hm : m s with
  | ok a s1 => rw [hm] at h; exact ⟨a, s1, rfl, h⟩
  | pan v s1 => rw [hm] at h; cases h
  | fail w => rw [hm] at h; cases h
  | ch n k => rw [hm] at h; cases h

theorem ret_ok {α : Type} {a b : α} (h : M.ret a s = .ok b s') : b = a ∧ s' = s := by cases h; exact ⟨rfl, rfl⟩
theorem fail_ok {α : Type} {a : α} {why : String} (h : (M.fail why : M α) s = .ok a s') : False := by cases h
theorem need_ok {α : Type} {o : Option α} {a : α} {why : String} (h : need why o s = .ok a s') : o = some a ∧ s' = s := by
  cases o with
  | none => cases h
  | some x => cases h; exact ⟨rfl, rfl⟩

theorem getO_ok {n : Nat} {o : Option O} (h : getO n s = .ok o s') : o = s.get n ∧ s'.objs = s.objs ∧ s'.next = s.next := by
  unfold getO at h
  split at h
  · cases h
    exact ⟨rfl, by split <;> rfl, by split <;> rfl⟩
  · cases h

theorem setO_ok {n : Nat} {o : Option O} {u : Unit} (h : setO n o s = .ok u s') : s'.get = upd s.get n o ∧ s'.next = s.next := by
  unfold setO at h
  split at h
  · rename_i hn
    cases h
    refine ⟨funext fun m => ?_, by split <;> rfl⟩
    have := St.get_put s n m o (by omega)
    unfold upd
    rw [← this]
    split <;> rfl
  · cases h

theorem newO_ok {o : O} {n : Nat} (h : newO o s = .ok n s') : n = s.next ∧ s'.get = upd s.get s.next (some o) ∧ s'.next = s.next + 1 := by
  unfold newO at h
  split at h
  · rename_i hn
    cases h
    refine ⟨rfl, funext fun m => ?_, rfl⟩
    exact St.get_put s s.next m (some o) (by omega)
  · cases h

theorem get_of_objs (h : s'.objs = s.objs) : s'.get = s.get := by unfold St.get; rw [h]

theorem cellsOf_ok {n : Nat} {r : List V × Bool} (h : cellsOf n s = .ok r s') : s.get n = some (.cells r.1 r.2) ∧ s'.objs = s.objs ∧ s'.next = s.next := by
  unfold cellsOf at h
  obtain ⟨o, s1, h1, h2⟩ := bind_ok h
  obtain ⟨e, h3, h4⟩ := getO_ok h1
  cases o with
  | none => cases h2
  | some o =>
    cases o <;> first
      | (cases h2; done)
      | (obtain ⟨rfl, rfl⟩ := ret_ok h2; exact ⟨e.symm, h3, h4⟩)

theorem Rel.like (h : Rel P W0 base L K s.get s.next w) (h1 : s'.objs = s.objs) (h2 : s'.next = s.next) : Rel P W0 base L K s'.get s'.next w := by
  rw [get_of_objs h1, h2]; exact h

theorem Sims.pure {sm : Sem Value} {v : V} {cv : Value} (R : Rel P W0 base L K s.get s.next w) (hr : sm.run P w = .ok cv w) (hv : VR P K v cv) : Sims P W0 base L sm (M.ret v s) K s w := by
  intro v' s' h _
  obtain ⟨rfl, rfl⟩ := ret_ok h
  exact ⟨cv, w, K, hr, .refl _ _ _, hv, R⟩

/-! ### Loads -/
/-- A value read out of cells. -/
theorem load_core {t : TypeId} {agg : Bool} {size : Nat} (hs : sh P t = some (agg, size)) {cs : List V} {off : Nat} {v : V} (hm : mk agg size cs off = some v) {b o : Nat}
    (hc : ∀ (i : Nat) (u : V), cs[i]? = some u → ∃ cu, w.cell? ⟨b, o + i, none⟩ = some cu ∧ VR P K u cu ∧ u.isCell = true) :
    ∃ cv, (loadVar t ⟨b, o + off, none⟩).run P w = .ok cv w ∧ VR P K v cv := by
  obtain ⟨h1, h2, h3, _⟩ := sh_spec hs w
  unfold mk at hm
  cases agg with
  | true =>
    simp only [if_true] at hm
    split at hm
    · rename_i hle
      cases hm
      have key : ∀ (l : List V) (k : Nat), (∀ (i : Nat) (u : V), l[i]? = some u → ∃ cu, w.cell? ⟨b, k + i, none⟩ = some cu ∧ VR P K u cu ∧ u.isCell = true) →
          ∃ l' : List Value, l'.length = l.length ∧ (∀ (j : Nat) (v : Value), l'[j]? = some v → w.cell? ⟨b, k + j, none⟩ = some v) ∧ VRL P K l l' ∧ ∀ u ∈ l, u.isCell = true := by
        intro l
        induction l with
        | nil => intro k _; exact ⟨[], rfl, fun j v e => by simp at e, .nil, fun u hu => by simp at hu⟩
        | cons u l ih =>
          intro k hk
          obtain ⟨cu, a1, a2, a3⟩ := hk 0 u (by simp)
          obtain ⟨l', b1, b2, b3, b4⟩ := ih (k + 1) (fun i x e => by
            have := hk (i + 1) x (by simpa using e)
            rw [show k + 1 + i = k + (i + 1) from by omega]; exact this)
          refine ⟨cu :: l', by simp [b1], fun j v e => ?_, .cons _ _ _ _ a2 b3, fun x hx => ?_⟩
          · cases j with
            | zero => simp at e; subst e; simpa using a1
            | succ j => simp at e; have := b2 j v e; rw [show k + (j + 1) = k + 1 + j from by omega]; exact this
          · simp only [List.mem_cons] at hx
            rcases hx with rfl | hx
            · exact a3
            · exact b4 x hx
      obtain ⟨l', b1, b2, b3, b4⟩ := key ((cs.drop off).take size) (o + off) (fun i u e => by
        have hi : i < size := by
          have := (List.getElem?_eq_some_iff.1 e).1
          simp at this; omega
        rw [List.getElem?_take_of_lt hi, List.getElem?_drop] at e
        have := hc _ _ e
        rw [show o + off + i = o + (off + i) from by omega]; exact this)
      have hlen : l'.length = size := by rw [b1]; simp; omega
      refine ⟨.agg l'.toArray, ?_, .agg _ _ b4 (by simpa using b3)⟩
      simp only [loadVar, Sem.run_bind, h1, Result.andThen_ok, if_true, h2, run_loadCells hlen b2, Sem.run_pure]
    · cases hm
  | false =>
    simp only [Bool.false_eq_true, if_false] at hm
    obtain ⟨cu, a1, a2, a3⟩ := hc off v hm
    exact ⟨cu, by simp only [loadVar, Sem.run_bind, h1, Result.andThen_ok, Bool.false_eq_true, if_false, run_load, a1], a2⟩

/-- The cells of an object. -/
theorem Rel.cells (R : Rel P W0 base L K s.get s.next w) {n : Nat} {cs : List V} {ro : Bool} (hg : s.get n = some (.cells cs ro)) {b : Nat} (hb : K.blk n = some b) :
    ∀ (i : Nat) (u : V), cs[i]? = some u → ∃ cu, w.cell? ⟨b, i, none⟩ = some cu ∧ VR P K u cu ∧ u.isCell = true := by
  obtain ⟨b', h1, h2⟩ := R.obj n _ hg rfl
  rw [h1] at hb; cases hb
  obtain ⟨c, e, fz, h3, h4, _⟩ := h2
  intro i u hu
  obtain ⟨cv, a1, a2, a3⟩ := h4 i u hu
  exact ⟨cv, by simp [World.cell?, h3, a1], a2, a3⟩

theorem Rel.immCells (R : Rel P W0 base L K s.get s.next w) {b o : Nat} {cs : List V} (h : Imm K b o cs) :
    ∀ (i : Nat) (u : V), cs[i]? = some u → ∃ cu, w.cell? ⟨b, o + i, none⟩ = some cu ∧ VR P K u cu ∧ u.isCell = true :=
  fun i u e => R.imm b (o + i) u (h i u e)

theorem opLoad_sim {t : TypeId} {agg : Bool} {size : Nat} (hs : sh P t = some (agg, size)) (R : Rel P W0 base L K s.get s.next w) {x : V} {cx : Value} (hx : VR P K x cx) :
    Sims P W0 base L (Instr.loadAt t cx) (opLoad agg size x s) K s w := by
  intro v s' h hL
  unfold opLoad at h
  cases hx <;> simp only at h <;> (try (exact (fail_ok h).elim))
  case ptr n off b hb =>
    obtain ⟨⟨cs, ro⟩, s1, h1, h2⟩ := bind_ok h
    obtain ⟨h3, h4, h5⟩ := cellsOf_ok h1
    obtain ⟨h6, rfl⟩ := need_ok h2
    have hc := R.cells h3 hb
    obtain ⟨cv, a1, a2⟩ := load_core hs h6 (b := b) (o := 0) (fun i u e => by simpa using hc i u e)
    rw [Nat.zero_add] at a1
    refine ⟨cv, w, K, ?_, .refl _ _ _, a2, R.like h4 h5⟩
    simpa [Instr.loadAt, Instr.sureAddr] using a1
  case ip cs off b o ho hi =>
    obtain ⟨h6, rfl⟩ := need_ok h
    obtain ⟨cv, a1, a2⟩ := load_core hs h6 (b := b) (o := o - off) (R.immCells hi)
    rw [Nat.sub_add_cancel ho] at a1
    refine ⟨cv, w, K, ?_, .refl _ _ _, a2, R⟩
    simpa [Instr.loadAt, Instr.sureAddr] using a1

/-! ### Objects written -/
theorem splice_get {cs vs : List V} {off : Nat} (h : off + vs.length ≤ cs.length) (i : Nat) : (splice cs off vs)[i]? = if off ≤ i ∧ i < off + vs.length then vs[i - off]? else cs[i]? := by
  unfold splice
  by_cases h1 : i < off
  · rw [List.getElem?_append_left (by simp; omega), if_neg (by omega), List.getElem?_take_of_lt h1]
  · rw [List.getElem?_append_right (by simp; omega)]
    have hl : (cs.take off).length = off := by simp; omega
    rw [hl]
    by_cases h2 : i < off + vs.length
    · rw [List.getElem?_append_left (by omega), if_pos ⟨by omega, h2⟩]
    · rw [List.getElem?_append_right (by omega), if_neg (by omega), List.getElem?_drop]
      congr 1; omega

theorem splice_length {cs vs : List V} {off : Nat} (h : off + vs.length ≤ cs.length) : (splice cs off vs).length = cs.length := by
  unfold splice; simp; omega

/-- An object's cells are written: abstractly and in the model. -/
theorem write_core (R : Rel P W0 base L K s.get s.next w) {n off : Nat} {cs vs : List V} {b : Nat} (hg : s.get n = some (.cells cs false)) (hb : K.blk n = some b) {vs' : List Value}
    (hv : VRL P K vs vs') (hc : ∀ u ∈ vs, u.isCell = true) (hle : off + vs.length ≤ cs.length) :
    ∃ w', (storeCells ⟨b, off, none⟩ vs' 0).run P w = .ok () w' ∧ Rel P W0 base L K (upd s.get n (some (.cells (splice cs off vs) false))) s.next w' := by
  obtain ⟨b', h1, h2⟩ := R.obj n _ hg rfl
  rw [h1] at hb; cases hb
  obtain ⟨c, e, fz, h3, h4, h5⟩ := h2
  obtain ⟨hbase, htip⟩ := h5 rfl
  have hfz := R.fz _ _ _ _ hbase h3
  have hlen := hv.length
  have hcs : cs.length ≤ c.size := by
    rcases Nat.eq_zero_or_pos cs.length with h0 | h0
    · omega
    · have hlt : cs.length - 1 < cs.length := by omega
      obtain ⟨cv, a1, _⟩ := h4 (cs.length - 1) cs[cs.length - 1] (List.getElem?_eq_getElem hlt)
      have := (Array.getElem?_eq_some_iff.1 a1).1
      omega
  have hone : ∀ v ∈ vs', v.oneCell' = true := by
    intro v hm
    obtain ⟨i, hi, rfl⟩ := List.getElem_of_mem hm
    obtain ⟨v', a1, a2⟩ := hv.get i vs[i] (List.getElem?_eq_getElem (by omega))
    rw [List.getElem?_eq_getElem hi] at a1; cases a1
    exact a2.oneCell (hc _ (List.getElem_mem _))
  obtain ⟨w', c', r1, r2, r3, r4, r5⟩ := run_storeCells (P := P) (b := b) (o := off) (e := e) (fz := fz) vs' 0 w c h3 (by omega) hone (fun j hj1 hj2 => by omega)
  refine ⟨w', r1, R.write hg rfl rfl h1 hbase r2 rfl rfl ⟨c', e, fz, r3, fun i u hu => ?_, fun _ => ⟨hbase, fun b' e' z hz => by rw [r4]; exact htip b' e' z hz⟩⟩⟩
  rw [splice_get hle] at hu
  rw [r5 i]
  simp only [Nat.add_zero]
  split at hu
  · rename_i hin
    rw [if_pos (by omega)]
    obtain ⟨v', a1, a2⟩ := hv.get _ _ hu
    exact ⟨v', a1, a2, hc _ (List.mem_of_getElem? hu)⟩
  · rename_i hin
    rw [if_neg (by omega)]
    exact h4 i u hu

theorem opStore_sim {t : TypeId} {agg : Bool} {size : Nat} (hs : sh P t = some (agg, size)) (R : Rel P W0 base L K s.get s.next w) {a x : V} {ca cx : Value} (ha : VR P K a ca) (hx : VR P K x cx)
    {v : V} (h : opStore size a x s = .ok v s') : v = undef ∧ ∃ w', (Instr.storeAt t ca cx).run P w = .ok () w' ∧ Rel P W0 base L K s'.get s'.next w' ∧ s'.next = s.next := by
  unfold opStore at h
  cases ha <;> simp only at h <;> (try (exact (fail_ok h).elim))
  case ptr n off b hb =>
    obtain ⟨⟨cs, ro⟩, s1, h1, h2⟩ := bind_ok h
    obtain ⟨h3, h4, h5⟩ := cellsOf_ok h1
    simp only at h2 h3
    split at h2
    · rename_i hcond
      simp only [Bool.and_eq_true, Bool.not_eq_true', beq_iff_eq, decide_eq_true_eq] at hcond
      obtain ⟨⟨⟨c1, c2⟩, c3⟩, c4⟩ := hcond
      subst c1
      obtain ⟨u, s2, h6, h7⟩ := bind_ok h2
      obtain ⟨h8, h9⟩ := setO_ok h6
      obtain ⟨rfl, rfl⟩ := ret_ok h7
      obtain ⟨k1, k2⟩ := hx.cells c3
      obtain ⟨w', r1, r2⟩ := write_core R h3 hb k1 k2 (off := off) (by omega)
      have hsz := (sh_spec hs w).2.1
      have hlen : cx.cells.size = size := by have := k1.length; simp at this; omega
      refine ⟨rfl, w', ?_, ?_, by rw [h9, h5]⟩
      · simp [Instr.storeAt, Instr.sureAddr, storeVar, hsz, hlen, r1]
      · rw [h8, h9, h5, get_of_objs h4]; exact r2
    · cases h2

/-! ### New blocks -/
theorem VRL.array {cs : List V} {a : Array Value} (h : VRL P K cs a.toList) : ∀ (i : Nat) (u : V), cs[i]? = some u → ∃ cu, a[i]? = some cu ∧ VR P K u cu := by
  intro i u e
  obtain ⟨cu, h1, h2⟩ := h.get i u e
  exact ⟨cu, by simpa using h1, h2⟩

theorem Rel.new_block (R : Rel P W0 base L K s.get s.next w) : (∀ m, K.blk m ≠ some w.heap.size) ∧ (∀ i, K.imm w.heap.size i = none) ∧ (∀ m e z, s.get m = some .tip → K.tip m ≠ some (w.heap.size, e, z)) := by
  refine ⟨fun m e => by have := R.blt m _ e; omega, fun i => ?_, fun m e z _ h => by have := R.tlt m _ _ _ h; omega⟩
  cases hi : K.imm w.heap.size i with
  | none => rfl
  | some v =>
    obtain ⟨cv, h1, _⟩ := R.imm _ _ _ hi
    have := World.block_lt_of_cell? (w := w) (a := ⟨w.heap.size, i, none⟩) h1
    simp at this

theorem alloc_at (w : World) (o : Obj) : (w.alloc o).heap[w.heap.size]? = some o := by
  unfold World.alloc; simp only [Array.getElem?_push_size]

/-- A new object of cells in a new block, that may be longer than what is known of it. -/
theorem newCells_core (R : Rel P W0 base L K s.get s.next w) (hL : s.next < L) {cs : List V} {c : Array Value} (e : TypeId) (x : Option (Nat × Nat))
    (hv : ∀ (i : Nat) (u : V), cs[i]? = some u → ∃ cu, c[i]? = some cu ∧ VR P K u cu) (hc : ∀ u ∈ cs, u.isCell = true) (hz : ∀ y, x = some y → y.2 ≤ c.size) :
    Kx s.next (s.next + 1) K (K.addBlk s.next w.heap.size x) ∧
      Rel P W0 base L (K.addBlk s.next w.heap.size x) (upd s.get s.next (some (.cells cs false))) (s.next + 1) (w.alloc (.cells c e)) := by
  have hf := R.fresh s.next (Nat.le_refl _) hL
  obtain ⟨hK, hI, hT⟩ := R.new_block
  have k := Kr.le_addBlk (K := K) (n := s.next) (b := w.heap.size) (x := x) hf.1 hf.2.1
  refine ⟨⟨k, fun n hn => ⟨by simp only [Kr.addBlk]; rw [if_neg (by omega)], by simp only [Kr.addBlk]; rw [if_neg (by omega)]⟩⟩, ?_⟩
  refine (R.alloc (.cells c e) (fun c' t' fz' h => by cases h; exact .inl rfl)).addObj (Nat.le_refl _) hL (by simp) (fun m _ _ _ => hK m) hI hT rfl
    ⟨c, e, (0, 0), alloc_at w _, fun i u hu => ?_, fun _ => ⟨R.above, fun b' e' z' hz' => ?_⟩⟩
  · obtain ⟨cu, a1, a2⟩ := hv i u hu
    exact ⟨cu, a1, a2.mono k, hc u (List.mem_of_getElem? hu)⟩
  · simp only [Kr.addBlk, if_true] at hz'
    split at hz'
    · rename_i y; cases hz'; exact hz y rfl
    · cases hz'

/-- A new object of another kind. -/
theorem newObj_core (R : Rel P W0 base L K s.get s.next w) (hL : s.next < L) {o : O} {c : Obj} (ht : o.isTip = false) (hcz : ∀ c' t' (fz' : Nat × Nat), c = .cells c' t' fz' → fz'.1 = fz'.2 ∨ c'.size ≤ fz'.1)
    (ho : ∀ K', K.le K' → ORel P K' base s.next o w.heap.size (w.alloc c)) :
    Kx s.next (s.next + 1) K (K.addBlk s.next w.heap.size none) ∧
      Rel P W0 base L (K.addBlk s.next w.heap.size none) (upd s.get s.next (some o)) (s.next + 1) (w.alloc c) := by
  have hf := R.fresh s.next (Nat.le_refl _) hL
  obtain ⟨hK, hI, hT⟩ := R.new_block
  have k := Kr.le_addBlk (K := K) (n := s.next) (b := w.heap.size) (x := none) hf.1 hf.2.1
  exact ⟨⟨k, fun n hn => ⟨by simp only [Kr.addBlk]; rw [if_neg (by omega)], by simp only [Kr.addBlk]; rw [if_neg (by omega)]⟩⟩,
    (R.alloc c hcz).addObj (Nat.le_refl _) hL (by simp) (fun m _ _ _ => hK m) hI hT ht (ho _ k)⟩

/-- A new row that is never written. -/
theorem newImm_core (R : Rel P W0 base L K s.get s.next w) {cs : List V} {c : Array Value} (e : TypeId)
    (hv : ∀ (i : Nat) (u : V), cs[i]? = some u → ∃ cu, c[i]? = some cu ∧ VR P K u cu) (hc : ∀ u ∈ cs, u.isCell = true) :
    K.le (K.addImm w.heap.size 0 cs) ∧ Rel P W0 base L (K.addImm w.heap.size 0 cs) s.get s.next (w.alloc (.cells c e)) := by
  obtain ⟨hK, hI, hT⟩ := R.new_block
  refine ⟨Kr.le_addImm fun i _ => hI _, (R.alloc (.cells c e) (fun c' t' fz' h => by cases h; exact .inl rfl)).addImm (fun i _ => hI _) (fun i u hu => ?_) (fun m o' _ _ _ => hK m) (fun m e z h1 h2 => absurd h2 (hT m e z h1))⟩
  obtain ⟨cu, a1, a2⟩ := hv i u hu
  refine ⟨cu, ?_, a2, hc u (List.mem_of_getElem? hu)⟩
  simp only [World.cell?, alloc_at, Nat.zero_add]
  simpa using a1

/-- A new row that is never written, with room behind its end. -/
theorem newTip_core (R : Rel P W0 base L K s.get s.next w) (hL : s.next < L) {cs : List V} {c : Array Value} (e : TypeId) {z : Nat} (hz : z ≤ c.size)
    (hv : ∀ (i : Nat) (u : V), cs[i]? = some u → ∃ cu, c[i]? = some cu ∧ VR P K u cu) (hc : ∀ u ∈ cs, u.isCell = true) :
    Kx s.next (s.next + 1) K ((K.addImm w.heap.size 0 cs).addTip s.next (w.heap.size, cs.length, z)) ∧
      Rel P W0 base L ((K.addImm w.heap.size 0 cs).addTip s.next (w.heap.size, cs.length, z)) (upd s.get s.next (some .tip)) (s.next + 1) (w.alloc (.cells c e)) := by
  have hf := R.fresh s.next (Nat.le_refl _) hL
  obtain ⟨hK, hI, hT⟩ := R.new_block
  obtain ⟨k, R1⟩ := newImm_core R e hv hc
  have k2 : (K.addImm w.heap.size 0 cs).le ((K.addImm w.heap.size 0 cs).addTip s.next (w.heap.size, cs.length, z)) := Kr.le_addTip hf.2.1
  refine ⟨⟨k.trans k2, fun n hn => ⟨rfl, by simp only [Kr.addTip]; rw [if_neg (by omega)]; rfl⟩⟩, ?_⟩
  refine R1.addTip (Nat.le_refl _) hL R.above (fun i hi => ?_) ⟨c, e, (0, 0), alloc_at w _, hz⟩ (fun m o _ _ => hK m) (fun m e z h1 => hT m e z h1)
  simp only [Kr.addImm]
  rw [if_neg (by omega)]; exact hI i
end
end Go.Ab
