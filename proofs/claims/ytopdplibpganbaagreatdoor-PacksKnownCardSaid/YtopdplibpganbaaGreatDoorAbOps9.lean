/-
  DERIVED. Each operation of the abstract machine, held against the model's: append, copy, what is never written again.
-/
import Derived.Test.YtopdplibpganbaaGreatDoorAbOps8
set_option linter.unusedSimpArgs false
set_option linter.unusedVariables false
namespace Go.Ab
open Go.RowKit
section
variable {P : Program} {W0 : World} {base L : Nat} {K : Kr} {s s' : St} {w : World}

theorem addr_add (b o k : Nat) : (⟨b, o, none⟩ : Addr).add k = ⟨b, o + k, none⟩ := by
  unfold Addr.add
  split
  · rename_i h; simp_all
  · rfl

theorem VRL.size {cs : List V} {a : Array Value} (h : VRL P K cs a.toList) : a.size = cs.length := by have := h.length; simpa using this

theorem VRL.nil_arr {a : Array Value} (h : VRL P K [] a.toList) : a = #[] := by
  have := h.size
  simpa using this

/-- The row that an append makes. -/
theorem row_get {l m : List V} {old arr rest : Array Value} (ho : VRL P K l old.toList) (ha : VRL P K m arr.toList) :
    ∀ (i : Nat) (u : V), (l ++ m)[i]? = some u → ∃ cu, (old ++ arr ++ rest)[i]? = some cu ∧ VR P K u cu := by
  intro i u e
  have h := (ho.append ha).get i u e
  obtain ⟨cu, h1, h2⟩ := h
  refine ⟨cu, ?_, h2⟩
  have hlt : i < (old ++ arr).size := by
    have := (List.getElem?_eq_some_iff.1 h1).1
    simpa using this
  rw [Array.getElem?_append_left hlt, ← Array.getElem?_toList, Array.toList_append]
  exact h1

/-- A new row behind a draw: nobody writes it but at its end. -/
theorem app_tip (R : Rel P W0 base L K s.get s.next w) (hL : s.next < L) {size : Nat} {l m : List V} {old arr rest : Array Value} {e : TypeId} {cap : Nat} (ho : VRL P K (flat l) old.toList) (ha : VRL P K (flat m) arr.toList)
    (hl : ∀ v ∈ l ++ m, v.cells.length = size ∧ v.isTup = false) (hc : ∀ u ∈ flat (l ++ m), u.isCell = true) (hcap : l.length + m.length ≤ cap) (hr : rest.size = (cap - (l.length + m.length)) * size) :
    ∃ K', Kx s.next (s.next + 1) K K' ∧ VR P K' (.sl size (l ++ m) (.at s.next)) (.slice (some ⟨w.heap.size, 0, none⟩) (l.length + m.length) cap) ∧
      Rel P W0 base L K' (upd s.get s.next (some .tip)) (s.next + 1) (w.drew.alloc (.cells (old ++ arr ++ rest) e)) := by
  have hfl := flat_length (sz := size) fun v hv => (hl v hv).1
  have hsize : (old ++ arr ++ rest).size = cap * size := by
    have h1 := ho.size
    have h2 := ha.size
    simp only [Array.size_append, h1, h2, hr]
    rw [flat_length (sz := size) fun v hv => (hl v (by simp [hv])).1, flat_length (sz := size) fun v hv => (hl v (by simp [hv])).1, ← Nat.add_mul, ← Nat.add_mul]
    congr 1; omega
  have Rd := R.drew
  obtain ⟨a1, a2⟩ := newTip_core (s := s) (w := w.drew) Rd hL (cs := flat (l ++ m)) (c := old ++ arr ++ rest) e (z := cap * size) (by rw [hsize]; exact Nat.le_refl _) (by rw [flat_append]; exact row_get ho ha) hc
  refine ⟨_, a1, ?_, a2⟩
  have := VR.sl (P := P) (K := (K.addImm w.heap.size 0 (flat (l ++ m))).addTip s.next (w.heap.size, (flat (l ++ m)).length, cap * size)) size (l ++ m) (.at s.next) w.heap.size 0 cap (by simp; omega) hl
    (Kr.imm_addImm.mono (Kr.le_addTip (R.fresh s.next (Nat.le_refl _) hL).2.1)) (by left; simp [Kr.addTip, hfl])
  simpa using this

/-- A new row behind a draw that may be written. -/
theorem app_obj (R : Rel P W0 base L K s.get s.next w) (hL : s.next < L) {size k : Nat} {cs : List V} {old arr rest : Array Value} {e : TypeId} {cap : Nat} {co m : List V} (ho : VRL P K co old.toList) (ha : VRL P K (flat m) arr.toList)
    (hcs : cs = co ++ flat m) (hco : co.length = k * size) (hl : ∀ v ∈ m, v.cells.length = size) (hc : ∀ u ∈ cs, u.isCell = true) (hcap : k + m.length ≤ cap) (hr : rest.size = (cap - (k + m.length)) * size) :
    ∃ K', Kx s.next (s.next + 1) K K' ∧ VR P K' (.rs size s.next 0 (k + m.length) none) (.slice (some ⟨w.heap.size, 0, none⟩) (k + m.length) cap) ∧
      Rel P W0 base L K' (upd s.get s.next (some (.cells cs false))) (s.next + 1) (w.drew.alloc (.cells (old ++ arr ++ rest) e)) := by
  subst hcs
  have hsize : (old ++ arr ++ rest).size = cap * size := by
    have h1 := ho.size
    have h2 := ha.size
    simp only [Array.size_append, h1, h2, hr, hco]
    rw [flat_length (sz := size) hl, ← Nat.add_mul, ← Nat.add_mul]
    congr 1; omega
  obtain ⟨a1, a2⟩ := newCells_core (s := s) (w := w.drew) R.drew hL (cs := co ++ flat m) (c := old ++ arr ++ rest) e (some (0, cap * size)) (row_get ho ha) hc (fun y hy => by cases hy; rw [hsize]; exact Nat.le_refl _)
  refine ⟨_, a1, .rs _ _ _ _ _ w.heap.size _ (by simp [Kr.addBlk]) hcap ⟨rfl, by simp [Kr.addBlk]⟩, a2⟩

theorem VRL.ones {vs : List V} {vs' : List Value} (h : VRL P K vs vs') (hc : ∀ u ∈ vs, u.isCell = true) : ∀ v ∈ vs', v.oneCell' = true := by
  intro v hm
  obtain ⟨i, hi, rfl⟩ := List.getElem_of_mem hm
  have hlen := h.length
  obtain ⟨v', a1, a2⟩ := h.get i vs[i] (List.getElem?_eq_getElem (by omega))
  rw [List.getElem?_eq_getElem hi] at a1; cases a1
  exact a2.oneCell (hc _ (List.getElem_mem _))

theorem zeroV_size {e : TypeId} {z : V} (hz : zeroA P e = some z) {size : Nat} (hzl : z.cells.length = size) : ∃ cz, (∀ w : World, (zeroValue e).run P w = .ok cz w) ∧ cz.cells.size = size := by
  obtain ⟨cz, h1, h2, h3⟩ := zeroA_spec (P := P) hz ⟨0, fun _ => none, fun _ _ => none, fun _ => none⟩ default
  refine ⟨cz, fun w => ?_, by rw [cells_length h2 h3]; exact hzl⟩
  obtain ⟨cz', h1', h2', _⟩ := zeroA_spec (P := P) hz ⟨0, fun _ => none, fun _ _ => none, fun _ => none⟩ w
  have hi : ∃ i v, P.info? e = some i ∧ i.zero = some v := by
    unfold zeroA at hz
    cases hi : P.info? e with
    | none => simp [hi] at hz
    | some i => cases hv : i.zero with
      | none => simp [hi, hv] at hz
      | some v => exact ⟨i, v, rfl, hv⟩
  obtain ⟨i, v, e1, e2⟩ := hi
  rw [run_zero e1 e2] at h1
  cases h1
  exact run_zero e1 e2 w

/-- A cut of the state, one step of the machine behind the other. -/
structure AppIn (P : Program) (t t1 e : TypeId) (agg : Bool) (size bytes : Nat) : Prop where
  hd : P.underlying t = some (.slice e)
  hd1 : (∃ e1, P.underlying t1 = some (.slice e1)) ∨ P.underlying t1 = some .string
  hs : sh P e = some (agg, size)
  hi : ∃ i, P.info? e = some i ∧ i.bytes = bytes
  hz : ∃ cz, (∀ w : World, (zeroValue e).run P w = .ok cz w) ∧ cz.cells.size = size

theorem opApp_sim {t t1 e : TypeId} {agg : Bool} {size bytes : Nat} (A : AppIn P t t1 e agg size bytes) (ht : TypeId) {mu : Bool} (R : Rel P W0 base L K s.get s.next w) {sv x : V} {cs cx : Value} (hsv : VR P K sv cs) (hx : VR P K x cx) :
    Sims P W0 base L (Builtin.append_ #[t, t1] ht #[cs, cx]) (opApp mu agg size bytes sv x s) K s w := by
  intro v s' h hL
  obtain ⟨hd, hd1, hs, ⟨i, hi, rfl⟩, ⟨cz, hz, hzs⟩⟩ := A
  unfold opApp at h
  obtain ⟨m, s1, h1, h2⟩ := bind_ok h
  obtain ⟨E, o1, n1⟩ := elems_sim R hx h1
  have R1 := R.like o1 n1
  obtain ⟨arr, harr, harr2⟩ := E.first m.length (Nat.le_refl _)
  rw [List.take_length] at harr2
  have heach := E.each
  have hflm := flat_length (sz := size) fun v hv => (E.each v hv).1
  split at h2
  · -- nothing is appended
    rename_i hemp
    have hm : m = [] := by simpa using hemp
    subst hm
    have harr0 : arr = #[] := harr2.nil_arr
    subst harr0
    cases hsv <;> simp only at h2 <;> (try (exact (fail_ok h2).elim))
    case slnil sz =>
      obtain ⟨rfl, rfl⟩ := ret_ok h2
      exact ⟨_, w, K, run_append_nil hd hd1 hs (E.len w) (harr w rfl) (Nat.le_refl _), by rw [n1]; exact .refl _ _ _, .slnil sz, R1⟩
    case sl sz l tp b o cap g1 g2 g3 g4 =>
      obtain ⟨rfl, rfl⟩ := ret_ok h2
      exact ⟨_, w, K, run_append_in hd hd1 hs (E.len w) (harr w rfl) (by simpa using g1) (by simp [storeCells]), by rw [n1]; exact .refl _ _ _, .sl _ _ _ _ _ _ g1 g2 g3 g4, R1⟩
    case rs sz n off len cap b cap' g1 g2 g3 =>
      obtain ⟨rfl, rfl⟩ := ret_ok h2
      exact ⟨_, w, K, run_append_in hd hd1 hs (E.len w) (harr w rfl) (by simpa using g2) (by simp [storeCells]), by rw [n1]; exact .refl _ _ _, .rs _ _ _ _ _ _ _ g1 g2 g3, R1⟩
  · rename_i hemp
    have hmne : m ≠ [] := by simpa using hemp
    have hmpos : 0 < m.length := List.length_pos_iff.2 hmne
    cases hsv <;> simp only at h2 <;> (try (exact (fail_ok h2).elim))
    case slnil sz =>
      split at h2
      · cases h2
      · rename_i hlim
        simp only [List.length_nil, Nat.zero_add, not_or, Nat.not_le, ge_iff_le] at hlim
        obtain ⟨hl1, hl2, _⟩ := hlim
        have hnew := fun (w : World) => run_append_new (w := w) hd hd1 hs hi hz (n := m.length) (cx := cx) (base' := none) (sLen := 0) (sCap := 0) (arr := arr) (old := #[]) (ht := ht)
        have hrest : (Builtin.zeroCells cz.cells (grownCap w (0 + m.length) 0 e - (0 + m.length))).size = (grownCap w (0 + m.length) 0 e - (0 + m.length)) * size := by rw [zeroCells_size, hzs]
        have hrun := hnew w (E.len w) (harr w.drew rfl) (by omega) (by rw [Nat.zero_add]; exact hl1) hl2 rfl
        have hcapge := grownCap_ge w (0 + m.length) 0 e
        simp only [List.nil_append] at h2
        split at h2
        · obtain ⟨n, s2, h3, h4⟩ := bind_ok h2
          obtain ⟨rfl, h5, h6⟩ := newO_ok h3
          obtain ⟨rfl, rfl⟩ := ret_ok h4
          obtain ⟨K', k1, k2, k3⟩ := app_obj (s := s1) (k := 0) (cs := flat m) (e := e) R1 (by omega) (co := []) (m := m) (old := #[]) .nil harr2 (by simp) (by simp) (fun v hv => (E.each v hv).1) E.cells hcapge hrest
          refine ⟨_, _, K', hrun, by rw [h6, ← n1]; exact k1, ?_, by rw [h5, h6]; exact k3⟩
          simp only [List.length_nil] at *
          exact k2
        · obtain ⟨n, s2, h3, h4⟩ := bind_ok h2
          obtain ⟨rfl, h5, h6⟩ := newO_ok h3
          obtain ⟨rfl, rfl⟩ := ret_ok h4
          obtain ⟨K', k1, k2, k3⟩ := app_tip (s := s1) (e := e) (cap := grownCap w (0 + m.length) 0 e) (rest := Builtin.zeroCells cz.cells (grownCap w (0 + m.length) 0 e - (0 + m.length))) R1 (by omega) (l := []) (m := m) (old := #[]) .nil harr2 (by simpa using E.each) (by simpa using E.cells) (by simpa using hcapge) (by simpa using hrest)
          refine ⟨_, _, K', hrun, by rw [h6, ← n1]; exact k1, ?_, by rw [h5, h6]; exact k3⟩
          simpa using k2
    case sl sz l tp b o cap g1 g2 g3 g4 =>
      split at h2
      · cases h2
      · rename_i hlim
        simp only [not_or, not_and, Nat.not_le, ge_iff_le, ne_eq] at hlim
        obtain ⟨hl1, hl2, hl3⟩ := hlim
        have htn : tp ≠ .nil := by rintro rfl; exact g4
        have hsz : sz = size := by
          rcases Nat.decEq sz size with hh | hh
          · exact absurd htn (hl3 hh)
          · exact hh
        subst hsz
        have heach2 : ∀ v ∈ l ++ m, v.cells.length = sz ∧ v.isTup = false := fun v hv => by
          rcases List.mem_append.1 hv with hv | hv
          · exact g2 v hv
          · exact E.each v hv
        have hfll := flat_length (sz := sz) fun v hv => (g2 v hv).1
        have hlcell : ∀ u ∈ flat l, u.isCell = true := fun u hu => by
          obtain ⟨i, hi, rfl⟩ := List.getElem_of_mem hu
          exact (R1.imm _ _ _ (g3 i _ (List.getElem?_eq_getElem hi))).choose_spec.2.2
        have hcell2 : ∀ u ∈ flat (l ++ m), u.isCell = true := fun u hu => by
          rw [flat_append] at hu
          rcases List.mem_append.1 hu with hu | hu
          · exact hlcell u hu
          · exact E.cells u hu
        obtain ⟨old, hold, hold2⟩ := loadCells_VRL (w := w) (b := b) (o := o) (cs := flat l) (R1.immCells g3)
        rw [hfll] at hold
        have hcapge := grownCap_ge w (l.length + m.length) cap e
        have hrest : (Builtin.zeroCells cz.cells (grownCap w (l.length + m.length) cap e - (l.length + m.length))).size = (grownCap w (l.length + m.length) cap e - (l.length + m.length)) * sz := by rw [zeroCells_size, hzs]
        have hrun : ¬ l.length + m.length ≤ cap → _ := fun hgt => run_append_new (w := w) hd hd1 hs hi hz (n := m.length) (cx := cx) (base' := some ⟨b, o, none⟩) (sLen := l.length) (sCap := cap) (arr := arr) (old := old) (ht := ht)
          (E.len w) (harr w.drew rfl) hgt hl1 hl2 (by have := hold w.drew rfl; simpa [Builtin.firstCells] using this)
        have newTip : ∀ (s2 : St), Rel P W0 base L K s2.get s2.next w → s2.next = s.next → s2.next < L → ¬ l.length + m.length ≤ cap → ∀ {s' : St} {v : V}, ((newO .tip).bind fun n' => .ret (.sl sz (l ++ m) (.at n'))) s2 = .ok v s' →
            ∃ cv w' K', (Builtin.append_ #[t, t1] ht #[.slice (some ⟨b, o, none⟩) l.length cap, cx]).run P w = .ok cv w' ∧ Kx s.next s'.next K K' ∧ VR P K' v cv ∧ Rel P W0 base L K' s'.get s'.next w' := by
          intro s2 R2 hn2 hL2 hgt s' v h2
          obtain ⟨n, s3, h3, h4⟩ := bind_ok h2
          obtain ⟨rfl, h5, h6⟩ := newO_ok h3
          obtain ⟨rfl, rfl⟩ := ret_ok h4
          obtain ⟨K', k1, k2, k3⟩ := app_tip (s := s2) (e := e) R2 hL2 (l := l) (m := m) hold2 harr2 heach2 hcell2 hcapge hrest
          exact ⟨_, _, K', hrun hgt, by rw [h6, ← hn2]; exact k1, k2, by rw [h5, h6]; exact k3⟩
        split at h2
        · cases h2
        · -- a row with a room of its own name
          rename_i n
          split at h2
          · cases h2
          · obtain ⟨o?, s2, h3, h4⟩ := bind_ok h2
            obtain ⟨rfl, h5, h6⟩ := getO_ok h3
            by_cases hg1 : s1.get n = some .tip
            · rw [hg1] at h4
              obtain ⟨u, s3, h7, h8⟩ := bind_ok h4
              obtain ⟨h9, h10⟩ := setO_ok h7
              have hget2 : s2.get = s1.get := by funext k; simp only [St.get, h5]
              have hn3 : s3.next = s.next := by rw [h10, h6, n1]
              by_cases hroom : l.length + m.length ≤ cap
              · have htip : K.tip n = some (b, o + l.length * sz, o + cap * sz) := by
                  rcases g4 with g4 | g4
                  · exact g4
                  · omega
                obtain ⟨n', s4, h11, h12⟩ := bind_ok h8
                obtain ⟨rfl, h13, h14⟩ := newO_ok h11
                obtain ⟨rfl, rfl⟩ := ret_ok h12
                obtain ⟨t1', t2, ⟨c, ty, fz, t3, t4⟩, t5⟩ := R1.tips n _ _ _ hg1 htip
                have hasz := harr2.size
                have hroom2 : (l.length + m.length) * sz ≤ cap * sz := Nat.mul_le_mul_right _ hroom
                rw [Nat.add_mul] at hroom2
                have hfz := R1.fz _ _ _ _ t1' t3
                obtain ⟨w', c', r1, r2, r3, r4, r5⟩ := run_storeCells (P := P) (b := b) (o := o + l.length * sz) (e := ty) (fz := fz) arr.toList 0 w c t3 (by simp; omega) (harr2.ones E.cells) (fun j hj1 hj2 => by simp at hj2; omega)
                have hcold : ∀ i, i < o + l.length * sz → w'.cell? ⟨b, i, none⟩ = w.cell? ⟨b, i, none⟩ := by
                  intro i hi
                  simp only [World.cell?, t3, r3, Option.isSome_none, Bool.false_eq_true, if_false]
                  rw [r5 i, if_neg (by omega)]
                have R2 := R1.writeTip hg1 htip r2 hcold
                have sub : ∀ k o', upd s1.get n none k = some o' → k ≠ n ∧ s1.get k = some o' := by
                  intro k o' ee; unfold upd at ee; split at ee
                  · cases ee
                  · rename_i hm; exact ⟨hm, ee⟩
                have R3 := R2.addImm (b := b) (o := o + l.length * sz) (cs := flat m) (fun i _ => t2 _ (by omega)) (fun i v hv => by
                    obtain ⟨cv, a1, a2⟩ := harr2.get i v hv
                    refine ⟨cv, ?_, a2, E.cells v (List.mem_of_getElem? hv)⟩
                    have hi : i < (flat m).length := (List.getElem?_eq_some_iff.1 hv).1
                    simp only [World.cell?, r3, Option.isSome_none, Bool.false_eq_true, if_false]
                    rw [r5 _, if_pos (by simp; omega), show o + l.length * sz + i - (o + l.length * sz + 0) = i from by omega, a1])
                  (fun k o' e1 e2 _ => t5 k o' (sub k o' e1).2 e2)
                  (fun k e1 z1 e2 e3 => absurd (R1.tinj k n _ _ _ _ _ (sub k _ e2).2 hg1 e3 htip) (sub k _ e2).1)
                have hL' : s1.next < L := by rw [h14, hn3] at hL; omega
                have R4 := R3.addTip (n := s1.next) (b := b) (e := o + l.length * sz + (flat m).length) (z := o + cap * sz) (Nat.le_refl _) hL' t1'
                  (fun i hi => by
                    unfold Kr.addImm; simp only; rw [if_neg (by omega)]; exact t2 i (by omega))
                  ⟨c', ty, fz, r3, by omega⟩ (fun k o' e1 e2 => t5 k o' (sub k o' e1).2 e2)
                  (fun k e1 z1 e2 e3 => absurd (R1.tinj k n _ _ _ _ _ (sub k _ e2).2 hg1 e3 htip) (sub k _ e2).1)
                have k1 : K.le (K.addImm b (o + l.length * sz) (flat m)) := Kr.le_addImm fun i _ => t2 _ (by omega)
                have k2 : (K.addImm b (o + l.length * sz) (flat m)).le ((K.addImm b (o + l.length * sz) (flat m)).addTip s1.next (b, o + l.length * sz + (flat m).length, o + cap * sz)) :=
                  Kr.le_addTip (R1.fresh s1.next (Nat.le_refl _) hL').2.1
                have hst : (storeCells ((⟨b, o, none⟩ : Addr).add (l.length * sz)) arr.toList).run P w = .ok () w' := by rw [addr_add]; exact r1
                refine ⟨_, w', (K.addImm b (o + l.length * sz) (flat m)).addTip s1.next (b, o + l.length * sz + (flat m).length, o + cap * sz), run_append_in hd hd1 hs (E.len w) (harr w rfl) hroom hst, ?_, ?_, ?_⟩
                · rw [h14, hn3]
                  exact ⟨k1.trans k2, fun k hk => ⟨rfl, by simp only [Kr.addTip]; rw [if_neg (by omega)]; rfl⟩⟩
                · have hl12 : (l ++ m).length = l.length + m.length := by simp
                  rw [← hl12]
                  refine .sl sz (l ++ m) _ b o cap (by omega) heach2 ?_ ?_
                  · rw [flat_append]
                    exact Imm.append (g3.mono (k1.trans k2)) (by rw [hfll]; exact Kr.imm_addImm.mono k2)
                  · left
                    simp only [Kr.addTip]
                    rw [if_pos (by omega), hflm, hl12, Nat.add_mul, Nat.add_assoc]
                · rw [h13, h14, h9, hget2, hn3, ← n1]; exact R4
              · have R3 : Rel P W0 base L K s3.get s3.next w := by
                  rw [h9, hget2, hn3, ← n1]; exact R1.del n
                have hn' : s3.next < L := by
                  obtain ⟨n', s4, h11, h12⟩ := bind_ok h8
                  obtain ⟨_, _, h14⟩ := newO_ok h11
                  obtain ⟨_, rfl⟩ := ret_ok h12
                  omega
                exact newTip s3 R3 hn3 hn' hroom h8
            · exfalso
              cases hx : s1.get n with
              | none => rw [hx] at h4; cases h4
              | some ox => rw [hx] at h4; cases ox <;> first | exact hg1 hx | cases h4
        · rename_i hno hat
          have hcap : cap = l.length := by
            cases tp <;> simp only [TipOk] at g4
            · exact g4.1
            · exact g4
            · exact absurd rfl hno
            · exact absurd rfl (hat _)
          have hgt : ¬ l.length + m.length ≤ cap := by omega
          split at h2
          · obtain ⟨n, s2, h3, h4⟩ := bind_ok h2
            obtain ⟨rfl, h5, h6⟩ := newO_ok h3
            obtain ⟨rfl, rfl⟩ := ret_ok h4
            obtain ⟨K', k1, k2, k3⟩ := app_obj (s := s1) (k := l.length) (cs := flat (l ++ m)) (e := e) R1 (by omega) (co := flat l) (m := m) (old := old) hold2 harr2 (flat_append _ _) hfll (fun v hv => (E.each v hv).1) hcell2 hcapge hrest
            exact ⟨_, _, K', hrun hgt, by rw [h6, ← n1]; exact k1, k2, by rw [h5, h6]; exact k3⟩
          · have hL1 : s1.next < L := by
              obtain ⟨n', s4, h11, h12⟩ := bind_ok h2
              obtain ⟨_, _, h14⟩ := newO_ok h11
              obtain ⟨_, rfl⟩ := ret_ok h12
              omega
            exact newTip s1 R1 n1 hL1 hgt h2
    case rs sz n off len cap b cap' g1 g2 g3 =>
      split at h2
      · cases h2
      · rename_i hlim
        simp only [not_or, Nat.not_le, ge_iff_le, ne_eq, Decidable.not_not] at hlim
        obtain ⟨hl1, hl2, rfl⟩ := hlim
        obtain ⟨⟨cs, ro⟩, s2, h3, h4⟩ := bind_ok h2
        obtain ⟨hg, h5, h6⟩ := cellsOf_ok h3
        simp only at hg h4
        split at h4
        · cases h4
        · rename_i hro
          have hro : ro = false := by simpa using hro
          subst hro
          have R2 := R1.like h5 h6
          have hn2 : s2.next = s.next := by rw [h6, n1]
          have hget2 : s2.get = s1.get := by funext k; simp only [St.get, h5]
          have hg2 : s2.get n = some (.cells cs false) := by rw [hget2]; exact hg
          have hcs := R2.cells hg2 g1
          have hcell : ∀ u ∈ cs, u.isCell = true := fun u hu => by
            obtain ⟨i, hi, rfl⟩ := List.getElem_of_mem hu
            exact (hcs i _ (List.getElem?_eq_getElem hi)).choose_spec.2.2
          have hasz := harr2.size
          have hrow : off + len * sz ≤ cs.length → ∃ old : Array Value, (∀ w' : World, w'.heap = w.heap → (loadCells ⟨b, off, none⟩ (len * sz)).run P w' = .ok old w') ∧ VRL P K ((cs.drop off).take (len * sz)) old.toList ∧ ((cs.drop off).take (len * sz)).length = len * sz := by
            intro hle
            have e2 : ((cs.drop off).take (len * sz)).length = len * sz := by
              rw [List.length_take, List.length_drop]; omega
            obtain ⟨old, b1, b2⟩ := loadCells_VRL (w := w) (b := b) (o := off) (cs := (cs.drop off).take (len * sz)) (fun i u ee => by
              rw [List.getElem?_take] at ee
              split at ee
              · rw [List.getElem?_drop] at ee; exact hcs _ _ ee
              · cases ee)
            rw [e2] at b1
            exact ⟨old, b1, b2, e2⟩
          have hcapge := grownCap_ge w (len + m.length) cap' e
          have hrest : (Builtin.zeroCells cz.cells (grownCap w (len + m.length) cap' e - (len + m.length))).size = (grownCap w (len + m.length) cap' e - (len + m.length)) * sz := by rw [zeroCells_size, hzs]
          have newObj : ∀ (s3 : St), Rel P W0 base L K s3.get s3.next w → s3.next = s.next → s3.next < L → off + len * sz ≤ cs.length → ¬ len + m.length ≤ cap' → ∀ {s' : St} {v : V},
              ((newO (.cells ((cs.drop off).take (len * sz) ++ flat m) false)).bind fun n' => .ret (.rs sz n' 0 (len + m.length) none)) s3 = .ok v s' →
              ∃ cv w' K', (Builtin.append_ #[t, t1] ht #[.slice (some ⟨b, off, none⟩) len cap', cx]).run P w = .ok cv w' ∧ Kx s.next s'.next K K' ∧ VR P K' v cv ∧ Rel P W0 base L K' s'.get s'.next w' := by
            intro s3 R3 hn3 hL3 hle hgt s' v h2
            obtain ⟨n', s4, h3, h4⟩ := bind_ok h2
            obtain ⟨rfl, h5, h6⟩ := newO_ok h3
            obtain ⟨rfl, rfl⟩ := ret_ok h4
            obtain ⟨old, b1, b2, b3⟩ := hrow hle
            obtain ⟨K', k1, k2, k3⟩ := app_obj (s := s3) (k := len) (cs := (cs.drop off).take (len * sz) ++ flat m) (e := e) R3 hL3 (co := (cs.drop off).take (len * sz)) (m := m) (old := old) b2 harr2 rfl b3 (fun v hv => (E.each v hv).1)
              (fun u hu => by
                rcases List.mem_append.1 hu with hu | hu
                · exact hcell u (List.mem_of_mem_drop (List.mem_of_mem_take hu))
                · exact E.cells u hu) hcapge hrest
            exact ⟨_, _, K', run_append_new (w := w) hd hd1 hs hi hz (n := m.length) (cx := cx) (base' := some ⟨b, off, none⟩) (sLen := len) (sCap := cap') (arr := arr) (old := old) (ht := ht)
              (E.len w) (harr w.drew rfl) hgt hl1 hl2 (by have := b1 w.drew rfl; simpa [Builtin.firstCells] using this), by rw [h6, ← hn3]; exact k1, k2, by rw [h5, h6]; exact k3⟩
          have hLof : ∀ (s3 : St) {c : O} {f : Nat → V} {s' : St} {v : V}, ((newO c).bind fun n' => .ret (f n')) s3 = .ok v s' → s'.next = s3.next + 1 := by
            intro s3 c f s' v hh
            obtain ⟨n', s4, h3, h4⟩ := bind_ok hh
            obtain ⟨_, _, h6⟩ := newO_ok h3
            obtain ⟨_, rfl⟩ := ret_ok h4
            exact h6
          split at h4
          · -- the room is known
            rename_i c
            subst g3
            split at h4
            · rename_i hroom
              split at h4
              · rename_i hle
                obtain ⟨u, s3, h7, h8⟩ := bind_ok h4
                obtain ⟨h9, h10⟩ := setO_ok h7
                obtain ⟨rfl, rfl⟩ := ret_ok h8
                rw [Nat.add_mul] at hle
                obtain ⟨w', r1, r2⟩ := write_core (off := off + len * sz) R2 hg2 g1 harr2 E.cells (by omega)
                exact ⟨_, w', K, run_append_in hd hd1 hs (E.len w) (harr w rfl) hroom (by rw [addr_add]; exact r1), by rw [h10, hn2]; exact .refl _ _ _, .rs _ _ _ _ _ _ _ g1 hroom rfl, by rw [h9, h10]; exact r2⟩
              · cases h4
            · rename_i hroom
              split at h4
              · rename_i hle
                have := hLof _ h4
                exact newObj s2 R2 hn2 (by omega) hle hroom h4
              · cases h4
          · split at h4
            · rename_i hle
              obtain ⟨rfl, hle⟩ := hle
              obtain ⟨u, s3, h7, h8⟩ := bind_ok h4
              obtain ⟨h9, h10⟩ := setO_ok h7
              have hn3 : s3.next = s.next := by rw [h10, hn2]
              have hlast := hLof _ h8
              have hL3 : s3.next < L := by omega
              have R3 : Rel P W0 base L K s3.get s3.next w := by rw [h9, h10]; exact R2.del n
              by_cases hroom : len + m.length ≤ cap'
              · -- in place, under a new name
                obtain ⟨n', s4, h11, h12⟩ := bind_ok h8
                obtain ⟨rfl, h13, h14⟩ := newO_ok h11
                obtain ⟨rfl, rfl⟩ := ret_ok h12
                obtain ⟨b2, p1, c, ty, fz, p3, p4, p5⟩ := R2.obj n _ hg2 rfl
                rw [p1] at g1; cases g1
                obtain ⟨hbase, p6⟩ := p5 rfl
                have p7 := p6 _ _ _ g3.2
                have hfz := R2.fz _ _ _ _ hbase p3
                have hroom2 : (len + m.length) * sz ≤ cap' * sz := Nat.mul_le_mul_right _ hroom
                rw [Nat.add_mul] at hroom2
                obtain ⟨w', c', r1, r2, r3, r4, r5⟩ := run_storeCells (P := P) (b := b) (o := len * sz) (e := ty) (fz := fz) arr.toList 0 w c p3 (by simp; omega) (harr2.ones E.cells) (fun j hj1 hj2 => by simp at hj2; omega)
                have sub : ∀ k o', s3.get k = some o' → k ≠ n ∧ s2.get k = some o' := by
                  intro k o' ee; rw [h9] at ee; unfold upd at ee; split at ee
                  · cases ee
                  · rename_i hm; exact ⟨hm, ee⟩
                have hob : ∀ k o', s3.get k = some o' → o'.isTip = false → K.blk k ≠ some b := fun k o' e1 e2 e3 =>
                  (sub k o' e1).1 (R2.inj k n o' _ b (sub k o' e1).2 hg2 e2 rfl e3 p1)
                have himm : ∀ i, K.imm b i = none := fun i => R2.noimm n _ b i hg2 rfl rfl p1
                have hti : ∀ k e1 z1, s3.get k = some .tip → K.tip k ≠ some (b, e1, z1) := fun k e1 z1 e2 e3 =>
                  (R2.tips k b e1 z1 (sub k _ e2).2 e3).2.2.2 n _ hg2 rfl p1
                have R4 := R3.free hbase hob himm hti r2
                have hf := R3.fresh s3.next (Nat.le_refl _) hL3
                have k1 : K.le (K.addBlk s3.next b (some (0, cap' * sz))) := Kr.le_addBlk hf.1 hf.2.1
                have R5 := R4.addObj (n := s3.next) (b := b) (x := some (0, cap' * sz)) (o := .cells (cs.take (len * sz) ++ flat m) false) (Nat.le_refl _) hL3
                  (by have := (Array.getElem?_eq_some_iff.1 r3).1; exact this) hob himm hti rfl
                  ⟨c', ty, fz, r3, fun i v hv => by
                    have e2 : (cs.take (len * sz)).length = len * sz := by rw [List.length_take]; omega
                    rw [r5 i]
                    by_cases hi : i < len * sz
                    · rw [List.getElem?_append_left (by omega), List.getElem?_take, if_pos hi] at hv
                      rw [if_neg (by omega)]
                      obtain ⟨cv, a1, a2, a3⟩ := p4 i v hv
                      exact ⟨cv, a1, a2.mono k1, a3⟩
                    · rw [List.getElem?_append_right (by omega), e2] at hv
                      have hi2 : i - len * sz < (flat m).length := (List.getElem?_eq_some_iff.1 hv).1
                      rw [if_pos (by simp; omega)]
                      obtain ⟨cv, a1, a2⟩ := harr2.get _ _ hv
                      exact ⟨cv, by simpa using a1, a2.mono k1, E.cells v (List.mem_of_getElem? hv)⟩,
                    fun _ => ⟨hbase, fun b1 e1 z1 hz1 => by
                      simp only [Kr.addBlk, if_true, Option.some.injEq, Prod.mk.injEq] at hz1
                      omega⟩⟩
                have hst : (storeCells ((⟨b, 0, none⟩ : Addr).add (len * sz)) arr.toList).run P w = .ok () w' := by
                  rw [addr_add, Nat.zero_add]; exact r1
                refine ⟨_, w', K.addBlk s3.next b (some (0, cap' * sz)), run_append_in hd hd1 hs (E.len w) (harr w rfl) hroom hst, ?_, ?_, ?_⟩
                · rw [h14, ← hn3]
                  exact ⟨k1, fun k hk => ⟨by simp only [Kr.addBlk]; rw [if_neg (by omega)], by simp only [Kr.addBlk]; rw [if_neg (by omega)]⟩⟩
                · exact .rs _ _ _ _ _ b _ (by simp [Kr.addBlk]) hroom ⟨rfl, by simp [Kr.addBlk]⟩
                · rw [h13, h14]; exact R5
              · have := newObj s3 R3 hn3 hL3 (by omega) hroom (s' := s') (v := v)
                simp only [List.drop_zero] at this
                exact this h8
            · cases h4
end
end Go.Ab
