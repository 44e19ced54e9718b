/-
  DERIVED. Each operation of the abstract machine, held against the model's: composites, places, conversions.
-/
import Derived.Test.YtopdplibpganbaaGreatDoorAbOps
import Derived.Lib.SlBytesConst
set_option linter.unusedSimpArgs false
set_option linter.unusedVariables false
namespace Go.Ab
open Go.RowKit
section
variable {P : Program} {W0 : World} {base L : Nat} {K : Kr} {s s' : St} {w : World}

theorem run_newVar (t : TypeId) (v : Value) : (newVar t v).run P w = .ok ⟨w.heap.size, 0, none⟩ (w.alloc (.cells v.cells t)) := by
  simp [newVar, newRow]

theorem VRL.vget {l : List V} {c : Array Value} (h : VRL P K l c.toList) : ∀ (i : Nat) (u : V), l[i]? = some u → ∃ cu, c[i]? = some cu ∧ VR P K u cu := h.array

/-- A new variable. -/
theorem newVar_sim {t : TypeId} {cv : Value} {v : V} (R : Rel P W0 base L K s.get s.next w) (hv : VR P K v cv) (ht : v.isTup = false) {r : V}
    (h : (newO (.cells v.cells false)).bind (fun n => M.ret (.ptr n 0)) s = .ok r s') (hL : s'.next ≤ L) :
    ∃ cr w' K', ((newVar t cv).bind fun a => Sem.pure (.pointer (some a))).run P w = .ok cr w' ∧ Kx s.next s'.next K K' ∧ VR P K' r cr ∧ Rel P W0 base L K' s'.get s'.next w' := by
  obtain ⟨n, s1, h1, h2⟩ := bind_ok h
  obtain ⟨rfl, h3, h4⟩ := newO_ok h1
  obtain ⟨rfl, rfl⟩ := ret_ok h2
  obtain ⟨k1, k2⟩ := hv.cells ht
  obtain ⟨a1, a2⟩ := newCells_core R (by omega) (c := cv.cells) t none (fun i u e => VRL.vget k1 i u e) k2 (fun y hy => by cases hy)
  refine ⟨.pointer (some ⟨w.heap.size, 0, none⟩), w.alloc (.cells cv.cells t), K.addBlk s.next w.heap.size none, ?_, by rw [h4]; exact a1, .ptr _ 0 w.heap.size (by simp [Kr.addBlk]), by rw [h3, h4]; exact a2⟩
  have := run_newVar (P := P) (w := w) t cv
  show ((newVar t cv) >>= fun a => Pure.pure (Value.pointer (some a))).run P w = _
  simp only [Sem.run_bind, this, Result.andThen_ok, Sem.run_pure]

theorem alloc_sim {t : TypeId} {z : V} (hz : zeroA P t = some z) (R : Rel P W0 base L K s.get s.next w) :
    Sims P W0 base L (Instr.alloc t true (.tuple #[])) ((newO (.cells z.cells false)).bind (fun n => M.ret (.ptr n 0)) s) K s w := by
  intro v s' h hL
  obtain ⟨cz, h1, h2, h3⟩ := zeroA_spec hz K w
  obtain ⟨cr, w', K', a, b, c, d⟩ := newVar_sim (t := t) R h2 h3 h hL
  refine ⟨cr, w', K', ?_, b, c, d⟩
  simp only [Instr.alloc, Sem.run_bind, h1, Result.andThen_ok]
  exact a

theorem box_sim {t : TypeId} {x : V} {cx : Value} (hx : VR P K x cx) (R : Rel P W0 base L K s.get s.next w) :
    Sims P W0 base L (Instr.box t cx) ((if x.isTup then M.fail "box" else (newO (.cells x.cells false)).bind fun n => M.ret (.ptr n 0)) s) K s w := by
  intro v s' h hL
  split at h
  · cases h
  · rename_i ht
    exact newVar_sim (t := t) R hx (by simpa using ht) h hL

/-! ### Composites -/
theorem cells_length {v : V} {cv : Value} (h : VR P K v cv) (ht : v.isTup = false) : cv.cells.size = v.cells.length := by
  have := (h.cells ht).1.length
  simpa using this

theorem foldl_set (cs : Array Value) (off : Nat) : ∀ (l : List Value) (k : Nat) (a : Array Value), off + k + l.length ≤ a.size →
    ∀ i, ((l.zipIdx k).foldl (fun cs (x : Value × Nat) => cs.setIfInBounds (off + x.2) x.1) a)[i]? = if off + k ≤ i ∧ i < off + k + l.length then l[i - (off + k)]? else a[i]? := by
  intro l
  induction l with
  | nil => intro k a _ i; simp; omega
  | cons v l ih =>
    intro k a hle i
    simp only [List.length_cons] at hle
    simp only [List.zipIdx_cons, List.foldl_cons]
    rw [ih (k + 1) _ (by simp; omega)]
    simp only [List.length_cons]
    by_cases h1 : off + (k + 1) ≤ i ∧ i < off + (k + 1) + l.length
    · rw [if_pos h1, if_pos (by omega), show i - (off + k) = (i - (off + (k + 1))) + 1 from by omega]; simp
    · rw [if_neg h1]
      by_cases h2 : i = off + k
      · subst h2
        have : off + k < a.size := by omega
        rw [if_pos (by omega)]; simp [this]
      · rw [if_neg (by omega), Array.getElem?_setIfInBounds_ne (by omega)]

theorem foldl_size (off : Nat) : ∀ (l : List (Value × Nat)) (a : Array Value), (l.foldl (fun cs (x : Value × Nat) => cs.setIfInBounds (off + x.2) x.1) a).size = a.size := by
  intro l
  induction l with
  | nil => intro a; rfl
  | cons v l ih => intro a; simp only [List.foldl_cons]; rw [ih]; simp

theorem fill_sim {place : Nat → Option (Nat × Nat)} : ∀ (ps : List (Nat × Nat × V)) (cps : List (Nat × Value)) (cells : List V) (cs : Array Value),
    ps.length = cps.length → (∀ (j : Nat) (p : Nat × Nat × V) (q : Nat × Value), ps[j]? = some p → cps[j]? = some q → place q.1 = some (p.1, p.2.1) ∧ VR P K p.2.2 q.2) →
    VRL P K cells cs.toList → (∀ u ∈ cells, u.isCell = true) → ∀ r, fillA cells ps = some r → ∃ cr, Instr.fill place cs cps = some cr ∧ VRL P K r cr.toList ∧ ∀ u ∈ r, u.isCell = true := by
  intro ps
  induction ps with
  | nil =>
    intro cps cells cs hl _ hc hcell r hr
    cases cps with
    | nil => simp only [fillA, Option.some.injEq] at hr; subst hr; exact ⟨cs, rfl, hc, hcell⟩
    | cons _ _ => simp at hl
  | cons p ps ih =>
    intro cps cells cs hl hp hc hcell r hr
    cases cps with
    | nil => simp at hl
    | cons q cps =>
      obtain ⟨off, size, v⟩ := p
      obtain ⟨k, cv⟩ := q
      obtain ⟨h1, h2⟩ := hp 0 (off, size, v) (k, cv) (by simp) (by simp)
      simp only [fillA] at hr
      split at hr
      · rename_i hcond
        obtain ⟨c1, c2, c3⟩ := hcond
        have hsz := cells_length h2 c2
        have hlen := hc.length
        obtain ⟨v1, v2⟩ := h2.cells c2
        have hvl := v1.length
        simp only [Array.length_toList] at hlen hvl
        let cs2 := cv.cells.zipIdx.foldl (fun cs (x : Value × Nat) => cs.setIfInBounds (off + x.2) x.1) cs
        have hget : ∀ i, cs2[i]? = if off ≤ i ∧ i < off + cv.cells.toList.length then cv.cells.toList[i - off]? else cs[i]? := by
          intro i
          have := foldl_set cs off cv.cells.toList 0 cs (by simp; omega) i
          simp only [Nat.add_zero] at this
          rw [← this]
          simp only [cs2]
          rw [← Array.foldl_toList, Array.toList_zipIdx]
        have hsize : cs2.size = cs.size := by
          simp only [cs2]
          rw [← Array.foldl_toList]; exact foldl_size off _ cs
        have hrel : VRL P K (splice cells off v.cells) cs2.toList := by
          refine VRL.of_get (by simp [splice_length (by omega : off + v.cells.length ≤ cells.length), hsize, hlen]) fun i u u' hu hu' => ?_
          rw [splice_get (by omega)] at hu
          simp only [Array.getElem?_toList] at hu'
          rw [hget i] at hu'
          simp only [Array.length_toList] at hu'
          split at hu
          · rename_i hin
            rw [if_pos (by omega)] at hu'
            obtain ⟨x, e1, e2⟩ := v1.get _ _ hu
            rw [e1] at hu'; cases hu'; exact e2
          · rename_i hin
            rw [if_neg (by omega)] at hu'
            obtain ⟨x, e1, e2⟩ := hc.get _ _ hu
            simp only [Array.getElem?_toList] at e1
            rw [e1] at hu'; cases hu'; exact e2
        have hcell2 : ∀ u ∈ splice cells off v.cells, u.isCell = true := by
          intro u hu
          unfold splice at hu
          simp only [List.mem_append] at hu
          rcases hu with hu | hu | hu
          · exact hcell u (List.mem_of_mem_take hu)
          · exact v2 u hu
          · exact hcell u (List.mem_of_mem_drop hu)
        obtain ⟨cr, g1, g2, g3⟩ := ih cps _ cs2 (by simpa using hl) (fun j p q e1 e2 => hp (j + 1) p q (by simpa using e1) (by simpa using e2)) hrel hcell2 r hr
        refine ⟨cr, ?_, g2, g3⟩
        simp only [Instr.fill, h1]
        rw [if_neg (by simp; omega)]
        exact g1
      · cases hr

theorem mapM_run {α β : Type} {f : α → Sem β} {g : α → β} {l : List α} (h : ∀ a ∈ l, (f a).run P w = .ok (g a) w) : (l.mapM f).run P w = .ok (l.map g) w := by
  induction l with
  | nil => simp
  | cons a l ih =>
    rw [List.mapM_cons]
    simp only [Sem.run_bind, h a (by simp), Result.andThen_ok, ih (fun b hb => h b (by simp [hb])), Sem.run_pure, List.map_cons]

theorem amapM_run {α β : Type} {f : α → Sem β} {g : α → β} {a : Array α} (h : ∀ x ∈ a.toList, (f x).run P w = .ok (g x) w) : (a.mapM f).run P w = .ok (a.map g) w := by
  rw [Array.mapM_eq_mapM_toList]
  have := mapM_run (P := P) (w := w) h
  have h' : (List.toArray <$> a.toList.mapM f) = ((a.toList.mapM f) >>= fun l => pure l.toArray) := rfl
  rw [h']
  refine (Sem.run_bind P w (a.toList.mapM f) (fun l => pure l.toArray)).trans ?_
  rw [this]
  have e : (List.map g a.toList).toArray = a.map g := by apply Array.ext'; simp
  rw [← e]; rfl

theorem mapM_get {α β : Type} {f : α → Option β} : ∀ {l : List α} {r : List β}, l.mapM f = some r → ∀ (i : Nat) (a : α), l[i]? = some a → ∃ b, r[i]? = some b ∧ f a = some b
  | [], r, h, i, a, e => by simp at e
  | x :: l, r, h, i, a, e => by
    rw [List.mapM_cons] at h
    cases hx : f x with
    | none => simp [hx] at h
    | some y =>
      cases hl : l.mapM f with
      | none => simp [hx, hl] at h
      | some l' =>
        simp [hx, hl] at h; subst h
        cases i with
        | zero => simp at e; subst e; exact ⟨y, by simp, hx⟩
        | succ i => simp at e; simpa using mapM_get hl i a e

/-- What an operand is, abstractly and in the model. -/
def Ops (P : Program) (K : Kr) (ρ : X → V) (ρc : Operand → Value) : Prop := ∀ (x : Operand) (X : X), cX P x = some X → VR P K (ρ X) (ρc x)

theorem Ops.list {ρ : X → V} {ρc : Operand → Value} (h : Ops P K ρ ρc) {xs : Array Operand} {Xs : List X} (hx : cXs P xs = some Xs) : VRL P K (Xs.map ρ) (xs.map ρc).toList := by
  unfold cXs at hx
  refine VRL.of_get (by have := mapM_length hx; simp [this]) fun i v v' e e' => ?_
  simp only [Array.toList_map, List.getElem?_map, Option.map_eq_some_iff] at e e'
  obtain ⟨X, e1, rfl⟩ := e
  obtain ⟨x, e2, rfl⟩ := e'
  obtain ⟨Y, e3, e4⟩ := mapM_get hx i x e2
  rw [e1] at e3; cases e3
  exact h x X e4

theorem build_struct_sim {t : TypeId} {z : V} (hz : zeroA P t = some z) {fields : Array Field} (hd : P.underlying t = some (.struct fields)) {places : List (Nat × Nat)}
    (hp : (fields.toList.mapM fun f => (sh P f.type).map fun (x : Bool × Nat) => (f.offset, x.2)) = some places) (R : Rel P W0 base L K s.get s.next w)
    {ps : List (Nat × Nat × V)} {cps : Array (Nat × Value)} (hl : ps.length = cps.size)
    (hrel : ∀ (j : Nat) (p : Nat × Nat × V) (q : Nat × Value), ps[j]? = some p → cps.toList[j]? = some q → places[q.1]? = some (p.1, p.2.1) ∧ VR P K p.2.2 q.2) :
    Sims P W0 base L (Instr.build t cps) ((need "build" (fillA z.cells ps)).bind (fun cs => M.ret (.agg cs)) s) K s w := by
  intro v s' h hL
  obtain ⟨cs, s1, h1, h2⟩ := bind_ok h
  obtain ⟨h3, rfl⟩ := need_ok h1
  obtain ⟨rfl, rfl⟩ := ret_ok h2
  obtain ⟨cz, z1, z2, z3⟩ := zeroA_spec hz K w
  obtain ⟨k1, k2⟩ := z2.cells z3
  have hsz : ∀ f ∈ fields.toList, (do pure (f.offset, ← sizeOf f.type) : Sem (Nat × Nat)).run P w = .ok (f.offset, P.cellsOf f.type) w := by
    intro f hf
    obtain ⟨i, hi, rfl⟩ := List.getElem_of_mem hf
    obtain ⟨b, b1, b2⟩ := mapM_get hp i fields.toList[i] (List.getElem?_eq_getElem hi)
    cases hs : sh P fields.toList[i].type with
    | none => rw [hs] at b2; cases b2
    | some x =>
      obtain ⟨agg, size⟩ := x
      obtain ⟨_, r2, _, r4⟩ := sh_spec hs w
      simp only [Sem.run_bind, r2, Result.andThen_ok, Sem.run_pure, r4]
  have hplaces : places = fields.toList.map fun f => (f.offset, P.cellsOf f.type) := by
    apply List.ext_getElem?
    intro i
    simp only [List.getElem?_map]
    cases hi : fields.toList[i]? with
    | none =>
      simp only [Option.map_none]
      rw [List.getElem?_eq_none]
      have := mapM_length hp
      have := List.getElem?_eq_none_iff.1 hi
      omega
    | some f =>
      obtain ⟨b, b1, b2⟩ := mapM_get hp i f hi
      cases hs : sh P f.type with
      | none => simp [hs] at b2
      | some x =>
        obtain ⟨agg, size⟩ := x
        simp only [hs, Option.map_some, Option.some.injEq] at b2
        rw [b1, ← b2]
        simp [(sh_spec hs w).2.2.2]
  obtain ⟨cr, f1, f2, f3⟩ := fill_sim (P := P) (K := K) (place := fun i => (fields.map fun f => (f.offset, P.cellsOf f.type))[i]?) ps cps.toList z.cells cz.cells (by simpa using hl)
    (fun j p q e1 e2 => by
      obtain ⟨g1, g2⟩ := hrel j p q e1 e2
      refine ⟨?_, g2⟩
      rw [hplaces] at g1
      simpa using g1) k1 k2 cs h3
  refine ⟨.agg cr, w, K, ?_, .refl _ _ _, .agg _ _ f3 f2, R⟩
  simp only [Instr.build, Sem.run_bind, z1, Result.andThen_ok, run_underlying hd]
  rw [amapM_run hsz]
  simp only [Result.andThen_ok, f1, Sem.run_pure]

theorem build_array_sim {t : TypeId} {z : V} (hz : zeroA P t = some z) {n : Nat} {e : TypeId} (hd : P.underlying t = some (.array n e)) {agg : Bool} {size : Nat} (hs : sh P e = some (agg, size))
    (R : Rel P W0 base L K s.get s.next w) {ps : List (Nat × Nat × V)} {cps : Array (Nat × Value)} (hl : ps.length = cps.size)
    (hrel : ∀ (j : Nat) (p : Nat × Nat × V) (q : Nat × Value), ps[j]? = some p → cps.toList[j]? = some q → (q.1 * size, size) = (p.1, p.2.1) ∧ VR P K p.2.2 q.2) :
    Sims P W0 base L (Instr.build t cps) ((need "build" (fillA z.cells ps)).bind (fun cs => M.ret (.agg cs)) s) K s w := by
  intro v s' h hL
  obtain ⟨cs, s1, h1, h2⟩ := bind_ok h
  obtain ⟨h3, rfl⟩ := need_ok h1
  obtain ⟨rfl, rfl⟩ := ret_ok h2
  obtain ⟨cz, z1, z2, z3⟩ := zeroA_spec hz K w
  obtain ⟨k1, k2⟩ := z2.cells z3
  obtain ⟨cr, f1, f2, f3⟩ := fill_sim (P := P) (K := K) (place := fun i => some (i * size, size)) ps cps.toList z.cells cz.cells (by simpa using hl)
    (fun j p q e1 e2 => by
      obtain ⟨g1, g2⟩ := hrel j p q e1 e2
      exact ⟨by rw [g1], g2⟩) k1 k2 cs h3
  refine ⟨.agg cr, w, K, ?_, .refl _ _ _, .agg _ _ f3 f2, R⟩
  simp only [Instr.build, Sem.run_bind, z1, Result.andThen_ok, run_underlying hd, (sh_spec hs w).2.1, f1, Sem.run_pure]
end
end Go.Ab
