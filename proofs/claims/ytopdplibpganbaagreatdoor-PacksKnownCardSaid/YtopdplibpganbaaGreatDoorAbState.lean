/-
  DERIVED. Rel: how an abstract state stands to a world; and what keeps it.
-/
import Derived.Test.YtopdplibpganbaaGreatDoorAbRel
set_option linter.unusedSimpArgs false
set_option linter.unusedVariables false
namespace Go.Ab
open Go.RowKit

def O.isTip : O → Bool
  | .tip => true
  | _ => false

def O.isRo : O → Bool
  | .cells _ ro => ro
  | _ => false

def EntsR (P : Program) (K : Kr) (es : List Ent) (ces : List MapEntry) : Prop :=
  ces.length = es.length ∧ ∀ (i : Nat) (e : Ent), es[i]? = some e → ∃ ce, ces[i]? = some ce ∧ VR P K e.k ce.key ∧ VR P K e.v ce.val ∧ ce.born = e.born

/-- What an object is, in its block. -/
def ORel (P : Program) (K : Kr) (base n : Nat) (o : O) (b : Nat) (w : World) : Prop :=
  match o with
  | .cells cs ro => ∃ c e fz, w.heap[b]? = some (.cells c e fz) ∧ (∀ (i : Nat) (v : V), cs[i]? = some v → ∃ cv, c[i]? = some cv ∧ VR P K v cv ∧ v.isCell = true) ∧
      (ro = false → base ≤ b ∧ ∀ b' e' z, K.tip n = some (b', e', z) → z ≤ c.size)
  | .map es clock => base ≤ b ∧ ∃ ces, w.heap[b]? = some (.map ces clock) ∧ EntsR P K es ces.toList
  | .sit s pos => base ≤ b ∧ ∃ bs, w.heap[b]? = some (.stringIter bs pos) ∧ bs.data.toList = s
  | .mit m since seen last => base ≤ b ∧ ∃ m' seen', w.heap[b]? = some (.mapIter m' since seen' last) ∧ seen'.toList = seen ∧
      (match m with | none => m' = none | some m => ∃ bm, m' = some bm ∧ K.blk m = some bm)
  | .tip => True

structure Rel (P : Program) (W0 : World) (base L : Nat) (K : Kr) (g : Nat → Option O) (next : Nat) (w : World) : Prop where
  bel : Below base W0 w
  above : base ≤ w.heap.size
  low : K.low = base
  fz : ∀ (b : Nat) c t (fz : Nat × Nat), base ≤ b → w.heap[b]? = some (.cells c t fz) → fz.1 = fz.2 ∨ c.size ≤ fz.1
  obj : ∀ n o, g n = some o → o.isTip = false → ∃ b, K.blk n = some b ∧ ORel P K base n o b w
  inj : ∀ n n' o o' b, g n = some o → g n' = some o' → o.isTip = false → o'.isTip = false → K.blk n = some b → K.blk n' = some b → n = n'
  noimm : ∀ n o b i, g n = some o → o.isTip = false → o.isRo = false → K.blk n = some b → K.imm b i = none
  imm : ∀ b i v, K.imm b i = some v → ∃ cv, w.cell? ⟨b, i, none⟩ = some cv ∧ VR P K v cv ∧ v.isCell = true
  tips : ∀ n b e z, g n = some .tip → K.tip n = some (b, e, z) → base ≤ b ∧ (∀ i, e ≤ i → K.imm b i = none) ∧
    (∃ c t fz, w.heap[b]? = some (.cells c t fz) ∧ z ≤ c.size) ∧ ∀ n' o', g n' = some o' → o'.isTip = false → K.blk n' ≠ some b
  tinj : ∀ n n' b e z e' z', g n = some .tip → g n' = some .tip → K.tip n = some (b, e, z) → K.tip n' = some (b, e', z') → n = n'
  fresh : ∀ n, next ≤ n → n < L → K.blk n = none ∧ K.tip n = none ∧ g n = none
  blt : ∀ n b, K.blk n = some b → b < w.heap.size
  tlt : ∀ n b e z, K.tip n = some (b, e, z) → b < w.heap.size

def upd (g : Nat → Option O) (n : Nat) (o : Option O) : Nat → Option O := fun m => if m = n then o else g m

section
variable {P : Program} {W0 : World} {base L : Nat} {K K' : Kr} {g g' : Nat → Option O} {next : Nat} {w w' : World}

theorem EntsR.mono (k : K.le K') {es : List Ent} {ces : List MapEntry} (h : EntsR P K es ces) : EntsR P K' es ces :=
  ⟨h.1, fun i e he => let ⟨ce, h1, h2, h3, h4⟩ := h.2 i e he; ⟨ce, h1, h2.mono k, h3.mono k, h4⟩⟩

theorem ORel.mono (k : K.le K') {n : Nat} {o : O} {b : Nat} (h : ORel P K base n o b w) (ht : K'.tip n = K.tip n) : ORel P K' base n o b w := by
  cases o with
  | cells cs ro =>
    obtain ⟨c, e, fz, h1, h2, h3⟩ := h
    exact ⟨c, e, fz, h1, fun i v hv => let ⟨cv, a, b, c⟩ := h2 i v hv; ⟨cv, a, b.mono k, c⟩, fun hr => ⟨(h3 hr).1, fun b' e' z hz => (h3 hr).2 b' e' z (by rw [← ht]; exact hz)⟩⟩
  | map es clock => exact ⟨h.1, let ⟨ces, h1, h2⟩ := h.2; ⟨ces, h1, h2.mono k⟩⟩
  | sit s pos => exact h
  | mit m since seen last =>
    obtain ⟨h0, m', seen', h1, h2, h3⟩ := h
    refine ⟨h0, m', seen', h1, h2, ?_⟩
    cases m with
    | none => exact h3
    | some m => obtain ⟨bm, e, h⟩ := h3; exact ⟨bm, e, k.blk _ _ h⟩
  | tip => trivial

theorem ORel.world {n : Nat} {o : O} {b : Nat} (h : ORel P K base n o b w) (hb : w'.heap[b]? = w.heap[b]?) : ORel P K base n o b w' := by
  cases o <;> simp only [ORel] at * <;> (try rw [hb]) <;> exact h

theorem cell_of_block {b i : Nat} (hb : w'.heap[b]? = w.heap[b]?) : w'.cell? ⟨b, i, none⟩ = w.cell? ⟨b, i, none⟩ := by
  simp only [World.cell?, hb]

/-- The world grew, or drew: nothing that was there has turned. -/
theorem Rel.grow (h : Rel P W0 base L K g next w) (hb : Below w.heap.size w w')
    (hz : ∀ (b : Nat) c t (fz : Nat × Nat), w.heap.size ≤ b → w'.heap[b]? = some (.cells c t fz) → fz.1 = fz.2 ∨ c.size ≤ fz.1) : Rel P W0 base L K g next w' where
  bel := h.bel.trans (hb.mono h.above)
  above := Nat.le_trans h.above hb.size
  low := h.low
  fz := fun b c t fz h1 h2 => by
    rcases Nat.lt_or_ge b w.heap.size with h3 | h3
    · rw [hb.block b h3] at h2; exact h.fz b c t fz h1 h2
    · exact hz b c t fz h3 h2
  obj := fun n o e t => let ⟨b, h1, h2⟩ := h.obj n o e t; ⟨b, h1, h2.world (hb.block b (h.blt n b h1))⟩
  inj := h.inj
  noimm := h.noimm
  imm := fun b i v e => let ⟨cv, h1, h2⟩ := h.imm b i v e
    ⟨cv, by rw [cell_of_block (hb.block b (World.block_lt_of_cell? (a := ⟨b, i, none⟩) (w := w) h1))]; exact h1, h2⟩
  tips := fun n b e z h1 h2 => let ⟨a1, a2, ⟨c, t, fz, a3, a4⟩, a5⟩ := h.tips n b e z h1 h2
    ⟨a1, a2, ⟨c, t, fz, by rw [hb.block b (h.tlt n b e z h2)]; exact a3, a4⟩, a5⟩
  tinj := h.tinj
  fresh := h.fresh
  blt := fun n b e => Nat.lt_of_lt_of_le (h.blt n b e) hb.size
  tlt := fun n b e z e' => Nat.lt_of_lt_of_le (h.tlt n b e z e') hb.size

theorem below_drew (w : World) : Below w.heap.size w w.drew := (Below.refl _ _).drew
theorem below_alloc (w : World) (o : Obj) : Below w.heap.size w (w.alloc o) := (Below.refl _ _).alloc (Nat.le_refl _) o

theorem Rel.drew (h : Rel P W0 base L K g next w) : Rel P W0 base L K g next w.drew :=
  h.grow (below_drew w) fun b c t fz h1 h2 => by
    have : b < w.heap.size := (Array.getElem?_eq_some_iff.1 h2).1
    omega

theorem Rel.alloc (h : Rel P W0 base L K g next w) (o : Obj) (ho : ∀ c t (fz : Nat × Nat), o = .cells c t fz → fz.1 = fz.2 ∨ c.size ≤ fz.1) : Rel P W0 base L K g next (w.alloc o) :=
  h.grow (below_alloc w o) fun b c t fz h1 h2 => by
    have hlt : b < w.heap.size + 1 := by have := (Array.getElem?_eq_some_iff.1 h2).1; simpa using this
    have hb : b = w.heap.size := by omega
    subst hb
    unfold World.alloc at h2
    simp only [Array.getElem?_push_size, Option.some.injEq] at h2
    exact ho c t fz h2

/-- Only what is there matters of the objects. -/
theorem Rel.congr (h : Rel P W0 base L K g next w) (e : ∀ n, g' n = g n) : Rel P W0 base L K g' next w := by
  have : g' = g := funext e
  rw [this]; exact h

theorem Rel.del (h : Rel P W0 base L K g next w) (n : Nat) : Rel P W0 base L K (upd g n none) next w := by
  have sub : ∀ m o, upd g n none m = some o → g m = some o := by
    intro m o e; unfold upd at e; split at e
    · cases e
    · exact e
  exact {
    bel := h.bel, above := h.above, low := h.low, fz := h.fz
    obj := fun m o e t => h.obj m o (sub m o e) t
    inj := fun m m' o o' b e e' => h.inj m m' o o' b (sub _ _ e) (sub _ _ e')
    noimm := fun m o b i e => h.noimm m o b i (sub _ _ e)
    imm := h.imm
    tips := fun m b e z h1 h2 => let ⟨a1, a2, a3, a5⟩ := h.tips m b e z (sub _ _ h1) h2
      ⟨a1, a2, a3, fun n' o' e' => a5 n' o' (sub _ _ e')⟩
    tinj := fun m m' b e z e' z' h1 h2 => h.tinj m m' b e z e' z' (sub _ _ h1) (sub _ _ h2)
    fresh := fun m h1 h2 => ⟨(h.fresh m h1 h2).1, (h.fresh m h1 h2).2.1, by unfold upd; split; rfl; exact (h.fresh m h1 h2).2.2⟩
    blt := h.blt, tlt := h.tlt }

/-- A name more: the block of an object. -/
def Kr.addBlk (K : Kr) (n b : Nat) (x : Option (Nat × Nat)) : Kr :=
  { K with blk := fun m => if m = n then some b else K.blk m, tip := fun m => if m = n then (match x with | some x => some (b, x.1, x.2) | none => none) else K.tip m }
def Kr.addTip (K : Kr) (n : Nat) (x : Nat × Nat × Nat) : Kr := { K with tip := fun m => if m = n then some x else K.tip m }
def Kr.addImm (K : Kr) (b o : Nat) (cs : List V) : Kr := { K with imm := fun b' i => if b' = b ∧ o ≤ i ∧ i < o + cs.length then cs[i - o]? else K.imm b' i }

theorem Kr.le_addBlk {n b : Nat} {x : Option (Nat × Nat)} (h : K.blk n = none) (h' : K.tip n = none) : K.le (K.addBlk n b x) := by
  refine ⟨rfl, fun m y e => ?_, fun _ _ _ e => e, fun m y e => ?_⟩
  · unfold addBlk; simp only
    split
    · rename_i hm; subst hm; rw [h] at e; cases e
    · exact e
  · unfold addBlk; simp only
    split
    · rename_i hm; subst hm; rw [h'] at e; cases e
    · exact e
theorem Kr.le_addTip {n : Nat} {x : Nat × Nat × Nat} (h : K.tip n = none) : K.le (K.addTip n x) := by
  refine ⟨rfl, fun _ _ e => e, fun _ _ _ e => e, fun m x e => ?_⟩
  unfold addTip; simp only
  split
  · rename_i h'; subst h'; rw [h] at e; cases e
  · exact e
theorem Kr.le_addImm {b o : Nat} {cs : List V} (h : ∀ i, i < cs.length → K.imm b (o + i) = none) : K.le (K.addImm b o cs) :=
  ⟨rfl, fun _ _ e => e, fun b' i v e => by
    unfold addImm; simp only; split
    · rename_i h'
      obtain ⟨rfl, h1, h2⟩ := h'
      have := h (i - o) (by omega)
      rw [show o + (i - o) = i from by omega] at this
      rw [this] at e; cases e
    · exact e, fun _ _ e => e⟩
theorem Kr.imm_addImm {b o : Nat} {cs : List V} : Imm (K.addImm b o cs) b o cs := by
  intro i v e
  have hi : i < cs.length := (List.getElem?_eq_some_iff.1 e).1
  unfold Kr.addImm; simp only
  rw [if_pos ⟨trivial, by omega, by omega⟩, show o + i - o = i from by omega]
  exact e

/-- The object 'n', new in the state, lies in the block 'b', that nothing spoke of. -/
theorem Rel.addObj (h : Rel P W0 base L K g next w) {n b : Nat} {x : Option (Nat × Nat)} {o : O} (hn : next ≤ n) (hL : n < L) (hb : b < w.heap.size)
    (hb1 : ∀ m o', g m = some o' → o'.isTip = false → K.blk m ≠ some b) (hb2 : ∀ i, K.imm b i = none) (hb3 : ∀ m e z, g m = some .tip → K.tip m ≠ some (b, e, z)) (ht : o.isTip = false)
    (ho : ORel P (K.addBlk n b x) base n o b w) : Rel P W0 base L (K.addBlk n b x) (upd g n (some o)) (n + 1) w := by
  have hf := h.fresh n hn hL
  have k : K.le (K.addBlk n b x) := Kr.le_addBlk hf.1 hf.2.1
  have ne : ∀ m o', g m = some o' → m ≠ n := fun m o' e en => by subst en; rw [hf.2.2] at e; cases e
  have old : ∀ m o', upd g n (some o) m = some o' → (m = n ∧ o' = o) ∨ (m ≠ n ∧ g m = some o') := by
    intro m o' e; unfold upd at e; split at e
    · rename_i hm; exact .inl ⟨hm, by cases e; rfl⟩
    · rename_i hm; exact .inr ⟨hm, e⟩
  have blk_ne : ∀ m, m ≠ n → (K.addBlk n b x).blk m = K.blk m := fun m hm => by simp [Kr.addBlk, hm]
  have blk_n : (K.addBlk n b x).blk n = some b := by simp [Kr.addBlk]
  have tip_ne : ∀ m, m ≠ n → (K.addBlk n b x).tip m = K.tip m := fun m hm => by simp [Kr.addBlk, hm]
  exact {
    bel := h.bel, above := h.above, low := h.low, fz := h.fz
    obj := fun m o' e t => by
      rcases old m o' e with ⟨rfl, rfl⟩ | ⟨hm, e⟩
      · exact ⟨b, blk_n, ho⟩
      · obtain ⟨b', h1, h2⟩ := h.obj m o' e t
        exact ⟨b', by rw [blk_ne m hm]; exact h1, h2.mono k (tip_ne m hm)⟩
    inj := fun m m' o1 o2 b' e e' t t' h1 h2 => by
      rcases old m o1 e with ⟨hm, _⟩ | ⟨hm, c1⟩ <;> rcases old m' o2 e' with ⟨hm', _⟩ | ⟨hm', c2⟩
      · rw [hm, hm']
      · rw [hm, blk_n] at h1; cases h1; rw [blk_ne m' hm'] at h2; exact absurd h2 (hb1 m' o2 c2 t')
      · rw [hm', blk_n] at h2; cases h2; rw [blk_ne m hm] at h1; exact absurd h1 (hb1 m o1 c1 t)
      · rw [blk_ne m hm] at h1; rw [blk_ne m' hm'] at h2; exact h.inj m m' o1 o2 b' c1 c2 t t' h1 h2
    noimm := fun m o' b' i e t r h1 => by
      rcases old m o' e with ⟨rfl, rfl⟩ | ⟨hm, e⟩
      · rw [blk_n] at h1; cases h1; exact hb2 i
      · rw [blk_ne m hm] at h1; exact h.noimm m o' b' i e t r h1
    imm := fun b' i v e => let ⟨cv, h1, h2, h3⟩ := h.imm b' i v e; ⟨cv, h1, h2.mono k, h3⟩
    tips := fun m b' e z h1 h2 => by
      rcases old m .tip h1 with ⟨rfl, rfl⟩ | ⟨hm, e1⟩
      · cases ht
      · rw [tip_ne m hm] at h2
        obtain ⟨a1, a2, a3, a5⟩ := h.tips m b' e z e1 h2
        refine ⟨a1, a2, a3, fun n' o' e' t' => ?_⟩
        rcases old n' o' e' with ⟨rfl, rfl⟩ | ⟨hm', e'⟩
        · rw [blk_n]; intro hh; cases hh; exact hb3 m e z e1 h2
        · rw [blk_ne n' hm']; exact a5 n' o' e' t'
    tinj := fun m m' b' e z e' z' h1 h2 h3 h4 => by
      rcases old m .tip h1 with ⟨rfl, rfl⟩ | ⟨hm, e1⟩
      · cases ht
      · rcases old m' .tip h2 with ⟨rfl, rfl⟩ | ⟨hm', e2⟩
        · cases ht
        · rw [tip_ne m hm] at h3; rw [tip_ne m' hm'] at h4
          exact h.tinj m m' b' e z e' z' e1 e2 h3 h4
    fresh := fun m h1 h2 => by
      have := h.fresh m (by omega) h2
      have hm : m ≠ n := by omega
      exact ⟨by rw [blk_ne m hm]; exact this.1, by rw [tip_ne m hm]; exact this.2.1, by simp [upd, hm, this.2.2]⟩
    blt := fun m b' e => by
      by_cases hm : m = n
      · subst hm; rw [blk_n] at e; cases e; exact hb
      · rw [blk_ne m hm] at e; exact h.blt m b' e
    tlt := fun m b' e z h1 => by
      by_cases hm : m = n
      · subst hm
        simp only [Kr.addBlk, if_true] at h1
        split at h1
        · cases h1; exact hb
        · cases h1
      · rw [tip_ne m hm] at h1; exact h.tlt m b' e z h1 }

/-- An end more, of a block of whose cells behind it nobody speaks. -/
theorem Rel.addTip (h : Rel P W0 base L K g next w) {n b e z : Nat} (hn : next ≤ n) (hL : n < L) (hbase : base ≤ b)
    (himm : ∀ i, e ≤ i → K.imm b i = none) (hc : ∃ c t fz, w.heap[b]? = some (.cells c t fz) ∧ z ≤ c.size)
    (hob : ∀ m o, g m = some o → o.isTip = false → K.blk m ≠ some b) (hti : ∀ m e z, g m = some .tip → K.tip m ≠ some (b, e, z)) :
    Rel P W0 base L (K.addTip n (b, e, z)) (upd g n (some .tip)) (n + 1) w := by
  have hf := h.fresh n hn hL
  have k : K.le (K.addTip n (b, e, z)) := Kr.le_addTip hf.2.1
  have old : ∀ m o', upd g n (some .tip) m = some o' → (m = n ∧ o' = .tip) ∨ (m ≠ n ∧ g m = some o') := by
    intro m o' e; unfold upd at e; split at e
    · rename_i hm; exact .inl ⟨hm, by cases e; rfl⟩
    · rename_i hm; exact .inr ⟨hm, e⟩
  have tip_ne : ∀ m, m ≠ n → (K.addTip n (b, e, z)).tip m = K.tip m := fun m hm => by simp [Kr.addTip, hm]
  have tip_n : (K.addTip n (b, e, z)).tip n = some (b, e, z) := by simp [Kr.addTip]
  exact {
    bel := h.bel, above := h.above, low := h.low, fz := h.fz
    obj := fun m o' e1 t => by
      rcases old m o' e1 with ⟨rfl, rfl⟩ | ⟨hm, e1⟩
      · cases t
      · obtain ⟨b', h1, h2⟩ := h.obj m o' e1 t
        exact ⟨b', h1, h2.mono k (tip_ne m hm)⟩
    inj := fun m m' o1 o2 b' e1 e2 t t' h1 h2 => by
      rcases old m o1 e1 with ⟨rfl, rfl⟩ | ⟨hm, e1⟩
      · cases t
      · rcases old m' o2 e2 with ⟨rfl, rfl⟩ | ⟨hm', e2⟩
        · cases t'
        · exact h.inj m m' o1 o2 b' e1 e2 t t' h1 h2
    noimm := fun m o' b' i e1 t r h1 => by
      rcases old m o' e1 with ⟨rfl, rfl⟩ | ⟨hm, e1⟩
      · cases t
      · exact h.noimm m o' b' i e1 t r h1
    imm := fun b' i v e1 => let ⟨cv, h1, h2, h3⟩ := h.imm b' i v e1; ⟨cv, h1, h2.mono k, h3⟩
    tips := fun m b' e' z' h1 h2 => by
      rcases old m .tip h1 with ⟨rfl, _⟩ | ⟨hm, e1⟩
      · rw [tip_n] at h2; cases h2
        refine ⟨hbase, himm, hc, fun n' o' e2 t' => ?_⟩
        rcases old n' o' e2 with ⟨rfl, rfl⟩ | ⟨hm', e2⟩
        · cases t'
        · exact hob n' o' e2 t'
      · rw [tip_ne m hm] at h2
        obtain ⟨a1, a2, a3, a5⟩ := h.tips m b' e' z' e1 h2
        refine ⟨a1, a2, a3, fun n' o' e2 t' => ?_⟩
        rcases old n' o' e2 with ⟨rfl, rfl⟩ | ⟨hm', e2⟩
        · cases t'
        · exact a5 n' o' e2 t'
    tinj := fun m m' b' e1 z1 e2 z2 h1 h2 h3 h4 => by
      rcases old m .tip h1 with ⟨hm, _⟩ | ⟨hm, k1⟩ <;> rcases old m' .tip h2 with ⟨hm', _⟩ | ⟨hm', k2⟩
      · rw [hm, hm']
      · rw [hm, tip_n] at h3; cases h3; rw [tip_ne m' hm'] at h4; exact absurd h4 (hti m' _ _ k2)
      · rw [hm', tip_n] at h4; cases h4; rw [tip_ne m hm] at h3; exact absurd h3 (hti m _ _ k1)
      · rw [tip_ne m hm] at h3; rw [tip_ne m' hm'] at h4; exact h.tinj m m' b' e1 z1 e2 z2 k1 k2 h3 h4
    fresh := fun m h1 h2 => by
      have := h.fresh m (by omega) h2
      have hm : m ≠ n := by omega
      exact ⟨this.1, by rw [tip_ne m hm]; exact this.2.1, by simp [upd, hm, this.2.2]⟩
    blt := h.blt
    tlt := fun m b' e' z' h1 => by
      by_cases hm : m = n
      · subst hm; rw [tip_n] at h1; cases h1
        obtain ⟨c, t, fz, hh, _⟩ := hc
        exact (Array.getElem?_eq_some_iff.1 hh).1
      · rw [tip_ne m hm] at h1; exact h.tlt m b' e' z' h1 }

/-- Cells of a block that no object and no open end has are never written again. -/
theorem Rel.addImm (h : Rel P W0 base L K g next w) {b o : Nat} {cs : List V} (hno : ∀ i, i < cs.length → K.imm b (o + i) = none)
    (hc : ∀ (i : Nat) (v : V), cs[i]? = some v → ∃ cv, w.cell? ⟨b, o + i, none⟩ = some cv ∧ VR P K v cv ∧ v.isCell = true)
    (hob : ∀ m o', g m = some o' → o'.isTip = false → o'.isRo = false → K.blk m ≠ some b) (hti : ∀ m e z, g m = some .tip → K.tip m = some (b, e, z) → o + cs.length ≤ e) :
    Rel P W0 base L (K.addImm b o cs) g next w := by
  have k : K.le (K.addImm b o cs) := Kr.le_addImm hno
  have cases' : ∀ b' i v, (K.addImm b o cs).imm b' i = some v → (b' = b ∧ o ≤ i ∧ cs[i - o]? = some v ∧ i < o + cs.length) ∨ K.imm b' i = some v := by
    intro b' i v e
    unfold Kr.addImm at e; simp only at e; split at e
    · rename_i h'; exact .inl ⟨h'.1, h'.2.1, e, h'.2.2⟩
    · exact .inr e
  have none' : ∀ b' i, K.imm b' i = none → ¬ (b' = b ∧ o ≤ i ∧ i < o + cs.length) → (K.addImm b o cs).imm b' i = none := by
    intro b' i e hne
    unfold Kr.addImm; simp only; rw [if_neg hne]; exact e
  exact {
    bel := h.bel, above := h.above, low := h.low, fz := h.fz
    obj := fun m o' e t => let ⟨b', h1, h2⟩ := h.obj m o' e t; ⟨b', h1, h2.mono k rfl⟩
    inj := h.inj
    noimm := fun m o' b' i e t r h1 => none' b' i (h.noimm m o' b' i e t r h1) (fun hh => hob m o' e t r (by rw [← hh.1]; exact h1))
    imm := fun b' i v e => by
      rcases cases' b' i v e with ⟨rfl, h1, h2, h3⟩ | e
      · obtain ⟨cv, a, b, c⟩ := hc (i - o) v h2
        rw [show o + (i - o) = i from by omega] at a
        exact ⟨cv, a, b.mono k, c⟩
      · obtain ⟨cv, h1, h2, h3⟩ := h.imm b' i v e; exact ⟨cv, h1, h2.mono k, h3⟩
    tips := fun m b' e z h1 h2 => let ⟨a1, a2, a3, a5⟩ := h.tips m b' e z h1 h2
      ⟨a1, fun i hi => none' b' i (a2 i hi) (fun hh => by have := hti m e z h1 (by rw [← hh.1]; exact h2); omega), a3, a5⟩
    tinj := h.tinj, fresh := h.fresh, blt := h.blt, tlt := h.tlt }

/-- The worlds are alike but for the block b, that lies above the base. -/
structure Touch (b : Nat) (w w' : World) : Prop where
  os : w'.os = w.os
  tape : w'.tape = w.tape
  output : w'.output = w.output
  size : w'.heap.size = w.heap.size
  fz : ∀ c t (fz : Nat × Nat), w'.heap[b]? = some (.cells c t fz) → ∃ c' t', w.heap[b]? = some (.cells c' t' fz) ∧ c.size = c'.size
  block : ∀ k, k ≠ b → w'.heap[k]? = w.heap[k]?

theorem Touch.below {b : Nat} (h : Touch b w w') (hb : base ≤ b) : Below base w w' :=
  ⟨h.os, h.tape, h.output, by rw [h.size]; exact Nat.le_refl _, fun k hk => h.block k (by omega)⟩

theorem Rel.fz_touch (h : Rel P W0 base L K g next w) {b : Nat} (t : Touch b w w') :
    ∀ (b : Nat) c t (fz : Nat × Nat), base ≤ b → w'.heap[b]? = some (.cells c t fz) → fz.1 = fz.2 ∨ c.size ≤ fz.1 := by
  intro b' c ty fz h1 h2
  by_cases hb : b' = b
  · subst hb
    obtain ⟨c', t', h3, h4⟩ := t.fz c ty fz h2
    rw [h4]; exact h.fz _ _ _ _ h1 h3
  · rw [t.block b' hb] at h2; exact h.fz b' c ty fz h1 h2

/-- Another mark behind a row's last cell. -/
theorem Rel.remark (h : Rel P W0 base L K g next w) {b : Nat} (hbase : base ≤ b) {c : Array Value} {e : TypeId} {fz fz' : Nat × Nat} (h1 : w.heap[b]? = some (.cells c e fz)) (h2 : w'.heap[b]? = some (.cells c e fz'))
    (hz : fz'.1 = fz'.2 ∨ c.size ≤ fz'.1) (hos : w'.os = w.os) (htape : w'.tape = w.tape) (hout : w'.output = w.output) (hsize : w'.heap.size = w.heap.size) (hblock : ∀ k, k ≠ b → w'.heap[k]? = w.heap[k]?) :
    Rel P W0 base L K g next w' := by
  have cell' : ∀ b' i, w'.cell? ⟨b', i, none⟩ = w.cell? ⟨b', i, none⟩ := by
    intro b' i
    by_cases hb : b' = b
    · subst hb; simp only [World.cell?, h1, h2]
    · exact cell_of_block (hblock b' hb)
  have bel : Below base w w' := ⟨hos, htape, hout, by rw [hsize]; exact Nat.le_refl _, fun k hk => hblock k (by omega)⟩
  exact {
    bel := h.bel.trans bel
    above := by rw [hsize]; exact h.above
    low := h.low
    fz := fun b' c' t' f' h3 h4 => by
      by_cases hb : b' = b
      · subst hb; rw [h2] at h4; cases h4; exact hz
      · rw [hblock b' hb] at h4; exact h.fz b' c' t' f' h3 h4
    obj := fun n o e1 t => by
      obtain ⟨b', a1, a2⟩ := h.obj n o e1 t
      refine ⟨b', a1, ?_⟩
      by_cases hb : b' = b
      · subst hb
        cases o with
        | cells cs ro =>
          obtain ⟨c1, e1, f1, b1, b2, b3⟩ := a2
          rw [h1] at b1; cases b1
          exact ⟨c, e, fz', h2, b2, b3⟩
        | map es clock => obtain ⟨_, ces, b1, _⟩ := a2; rw [h1] at b1; cases b1
        | sit s pos => obtain ⟨_, bs, b1, _⟩ := a2; rw [h1] at b1; cases b1
        | mit m since seen last => obtain ⟨_, m', seen', b1, _⟩ := a2; rw [h1] at b1; cases b1
        | tip => cases t
      · exact a2.world (hblock b' hb)
    inj := h.inj, noimm := h.noimm
    imm := fun b' i v e1 => let ⟨cv, a1, a2⟩ := h.imm b' i v e1; ⟨cv, by rw [cell']; exact a1, a2⟩
    tips := fun n b' e1 z e2 e3 => by
      obtain ⟨a1, a2, ⟨c1, t1, f1, a3, a4⟩, a5⟩ := h.tips n b' e1 z e2 e3
      refine ⟨a1, a2, ?_, a5⟩
      by_cases hb : b' = b
      · subst hb; rw [h1] at a3; cases a3; exact ⟨c, e, fz', h2, a4⟩
      · exact ⟨c1, t1, f1, by rw [hblock b' hb]; exact a3, a4⟩
    tinj := h.tinj, fresh := h.fresh
    blt := fun n b' e1 => by rw [hsize]; exact h.blt n b' e1
    tlt := fun n b' e1 z h3 => by rw [hsize]; exact h.tlt n b' e1 z h3 }

/-- An object of its own block is written anew. -/
theorem Rel.write (h : Rel P W0 base L K g next w) {n b : Nat} {o o' : O} (hg : g n = some o) (ht : o.isTip = false) (hr : o.isRo = false) (hb : K.blk n = some b) (hbase : base ≤ b)
    (t : Touch b w w') (ht' : o'.isTip = false) (hr' : o'.isRo = false) (ho : ORel P K base n o' b w') : Rel P W0 base L K (upd g n (some o')) next w' := by
  have old : ∀ m o1, upd g n (some o') m = some o1 → (m = n ∧ o1 = o') ∨ (m ≠ n ∧ g m = some o1) := by
    intro m o1 e; unfold upd at e; split at e
    · rename_i hm; exact .inl ⟨hm, by cases e; rfl⟩
    · rename_i hm; exact .inr ⟨hm, e⟩
  exact {
    bel := h.bel.trans (t.below hbase)
    above := by rw [t.size]; exact h.above
    low := h.low
    fz := h.fz_touch t
    obj := fun m o1 e t1 => by
      rcases old m o1 e with ⟨rfl, rfl⟩ | ⟨hm, e⟩
      · exact ⟨b, hb, ho⟩
      · obtain ⟨b', h1, h2⟩ := h.obj m o1 e t1
        refine ⟨b', h1, h2.world (t.block b' fun hh => hm ?_)⟩
        subst hh; exact h.inj m n o1 o _ e hg t1 ht h1 hb
    inj := fun m m' o1 o2 b' e e' t1 t2 h1 h2 => by
      rcases old m o1 e with ⟨hm, _⟩ | ⟨hm, k1⟩ <;> rcases old m' o2 e' with ⟨hm', _⟩ | ⟨hm', k2⟩
      · rw [hm, hm']
      · rw [hm] at h1 ⊢; exact h.inj _ _ o o2 b' hg k2 ht t2 h1 h2
      · rw [hm'] at h2 ⊢; exact h.inj _ _ o1 o b' k1 hg t1 ht h1 h2
      · exact h.inj m m' o1 o2 b' k1 k2 t1 t2 h1 h2
    noimm := fun m o1 b' i e t1 r h1 => by
      rcases old m o1 e with ⟨rfl, rfl⟩ | ⟨hm, e⟩
      · exact h.noimm m o b' i hg ht hr h1
      · exact h.noimm m o1 b' i e t1 r h1
    imm := fun b' i v e => by
      obtain ⟨cv, h1, h2, h3⟩ := h.imm b' i v e
      refine ⟨cv, ?_, h2, h3⟩
      rw [cell_of_block (t.block b' fun hh => ?_)]
      · exact h1
      · subst hh; rw [h.noimm n o _ i hg ht hr hb] at e; cases e
    tips := fun m b' e z h1 h2 => by
      rcases old m .tip h1 with ⟨rfl, hh⟩ | ⟨hm, h1⟩
      · subst hh; cases ht'
      · obtain ⟨a1, a2, ⟨c, t', fz, a3, a4⟩, a5⟩ := h.tips m b' e z h1 h2
        refine ⟨a1, a2, ⟨c, t', fz, ?_, a4⟩, fun n' o1 e' t1 => ?_⟩
        · rw [t.block b' fun hh => ?_]; exact a3
          subst hh; exact a5 n o hg ht hb
        · rcases old n' o1 e' with ⟨rfl, rfl⟩ | ⟨hm', e'⟩
          · exact a5 n' o hg ht
          · exact a5 n' o1 e' t1
    tinj := fun m m' b' e z e' z' h1 h2 => by
      rcases old m .tip h1 with ⟨rfl, hh⟩ | ⟨hm, h1⟩
      · subst hh; cases ht'
      · rcases old m' .tip h2 with ⟨rfl, hh⟩ | ⟨hm', h2⟩
        · subst hh; cases ht'
        · exact h.tinj m m' b' e z e' z' h1 h2
    fresh := fun m h1 h2 => by
      have := h.fresh m h1 h2
      have hm : m ≠ n := fun hh => by subst hh; rw [this.2.2] at hg; cases hg
      exact ⟨this.1, this.2.1, by simp [upd, hm, this.2.2]⟩
    blt := fun m b' e => by rw [t.size]; exact h.blt m b' e
    tlt := fun m b' e z h1 => by rw [t.size]; exact h.tlt m b' e z h1 }

/-- A block of which nothing is known any more. -/
theorem Rel.free (h : Rel P W0 base L K g next w) {b : Nat} (hbase : base ≤ b) (hob : ∀ m o, g m = some o → o.isTip = false → K.blk m ≠ some b) (himm : ∀ i, K.imm b i = none)
    (hti : ∀ m e z, g m = some .tip → K.tip m ≠ some (b, e, z)) (t : Touch b w w') : Rel P W0 base L K g next w' := {
  bel := h.bel.trans (t.below hbase)
  above := by rw [t.size]; exact h.above
  low := h.low
  fz := h.fz_touch t
  obj := fun m o e1 t1 => by
    obtain ⟨b', h1, h2⟩ := h.obj m o e1 t1
    refine ⟨b', h1, h2.world (t.block b' fun hh => ?_)⟩
    subst hh; exact hob m o e1 t1 h1
  inj := h.inj, noimm := h.noimm
  imm := fun b' i v e1 => by
    obtain ⟨cv, h1, h2⟩ := h.imm b' i v e1
    refine ⟨cv, ?_, h2⟩
    rw [cell_of_block (t.block b' fun hh => ?_)]; exact h1
    subst hh; rw [himm i] at e1; cases e1
  tips := fun m b' e z h1 h2 => by
    obtain ⟨a1, a2, ⟨c, t', fz, a3, a4⟩, a5⟩ := h.tips m b' e z h1 h2
    refine ⟨a1, a2, ⟨c, t', fz, ?_, a4⟩, a5⟩
    rw [t.block b' fun hh => ?_]; exact a3
    subst hh; exact hti m e z h1 h2
  tinj := h.tinj, fresh := h.fresh
  blt := fun m b' e => by rw [t.size]; exact h.blt m b' e
  tlt := fun m b' e z h1 => by rw [t.size]; exact h.tlt m b' e z h1 }

/-- Cells of a block at an open end are written, behind that end; the end is used up. -/
theorem Rel.writeTip (h : Rel P W0 base L K g next w) {n b e z : Nat} (hg : g n = some .tip) (hk : K.tip n = some (b, e, z)) (t : Touch b w w')
    (hc : ∀ i, i < e → w'.cell? ⟨b, i, none⟩ = w.cell? ⟨b, i, none⟩) : Rel P W0 base L K (upd g n none) next w' := by
  obtain ⟨hbase, himm, hcc, hob⟩ := h.tips n b e z hg hk
  have d := h.del n
  have sub : ∀ m o, upd g n none m = some o → m ≠ n ∧ g m = some o := by
    intro m o e; unfold upd at e; split at e
    · cases e
    · rename_i hm; exact ⟨hm, e⟩
  exact {
    bel := h.bel.trans (t.below hbase)
    above := by rw [t.size]; exact h.above
    low := h.low
    fz := h.fz_touch t
    obj := fun m o1 e1 t1 => by
      obtain ⟨b', h1, h2⟩ := d.obj m o1 e1 t1
      refine ⟨b', h1, h2.world (t.block b' fun hh => ?_)⟩
      subst hh; exact hob m o1 (sub m o1 e1).2 t1 h1
    inj := d.inj
    noimm := d.noimm
    imm := fun b' i v e1 => by
      obtain ⟨cv, h1, h2, h3⟩ := h.imm b' i v e1
      refine ⟨cv, ?_, h2, h3⟩
      by_cases hb : b' = b
      · subst hb
        by_cases hi : i < e
        · rw [hc i hi]; exact h1
        · rw [himm i (by omega)] at e1; cases e1
      · rw [cell_of_block (t.block b' hb)]; exact h1
    tips := fun m b' e1 z1 h1 h2 => by
      obtain ⟨a1, a2, ⟨c, t', fz, a3, a4⟩, a5⟩ := d.tips m b' e1 z1 h1 h2
      refine ⟨a1, a2, ⟨c, t', fz, ?_, a4⟩, a5⟩
      rw [t.block b' fun hh => ?_]; exact a3
      subst hh
      exact (sub m _ h1).1 (h.tinj m n _ e1 z1 e z (sub m _ h1).2 hg h2 hk)
    tinj := d.tinj
    fresh := d.fresh
    blt := fun m b' e => by rw [t.size]; exact h.blt m b' e
    tlt := fun m b' e z h1 => by rw [t.size]; exact h.tlt m b' e z h1 }
end
end Go.Ab
