/-
  DERIVED. Each operation of the abstract machine, held against the model's: conversions, new slices and maps, append, copy.
-/
import Derived.Test.YtopdplibpganbaaGreatDoorAbOps6
import Derived.Laws.IdiomStrings
import Derived.Laws.BytesArg
set_option linter.unusedSimpArgs false
set_option linter.unusedVariables false
namespace Go.Ab
open Go.RowKit
section
variable {P : Program} {W0 : World} {base L : Nat} {K : Kr} {s s' : St} {w : World}

/-! ### Conversions -/
theorem toBytes_spec : ∀ {l : List V} {b : List UInt8}, toBytes l = some b → ∃ ns : List Int, l = ns.map (V.int .u8) ∧ b = ns.map fun n => UInt8.ofNat n.toNat
  | [], b, h => by simp only [toBytes, Option.some.injEq] at h; subst h; exact ⟨[], rfl, rfl⟩
  | v :: l, b, h => by
    simp only [toBytes] at h
    cases hv : toByte v with
    | none => rw [hv] at h; cases h
    | some x =>
      rw [hv] at h
      simp only [Option.map_eq_some_iff] at h
      obtain ⟨b', h1, rfl⟩ := h
      obtain ⟨ns, rfl, rfl⟩ := toBytes_spec h1
      unfold toByte at hv
      split at hv
      · rename_i n
        cases hv
        exact ⟨n :: ns, rfl, rfl⟩
      · cases hv

theorem grownCap_ge (w : World) (need old : Nat) (e : TypeId) : need ≤ grownCap w need old e := by
  unfold grownCap Question.cut; simp only; omega

theorem conv_num_bytes {src dst e : TypeId} (hs : P.underlying src = some (.slice e)) (he : P.underlying e = some (.int .u8)) (hd : P.underlying dst = some .string) {b off len cap : Nat} {l : List V} (hl : l.length = len) {r : List UInt8}
    (hb : toBytes l = some r) (hc : ∀ (i : Nat) (u : V), l[i]? = some u → ∃ cu, w.cell? ⟨b, off + i, none⟩ = some cu ∧ VR P K u cu ∧ u.isCell = true) :
    ∃ cv, (convert src dst (.slice (some ⟨b, off, none⟩) len cap)).run P w = .ok cv w ∧ VR P K (.str r) cv := by
  obtain ⟨ns, rfl, rfl⟩ := toBytes_spec hb
  simp only [List.length_map] at hl
  refine ⟨_, run_convert_bytes_arg w src e hs he b off len cap ns hl (fun i hi => ?_) dst hd, .str _ _ rfl⟩
  obtain ⟨cu, a1, a2, _⟩ := hc i (.int .u8 ns[i]) (by simp)
  cases a2
  rw [a1]
  simp [List.getD, List.getElem?_eq_getElem (by omega : i < ns.length)]

theorem flat_ints (ns : List Int) : flat (ns.map (V.int .u8)) = ns.map (V.int .u8) := by
  induction ns with
  | nil => rfl
  | cons n ns ih => simp only [List.map_cons, flat_cons, ih, V.cells]; rfl

theorem flat_ofBytes (st : List UInt8) : flat (ofBytes st) = ofBytes st := by
  induction st with
  | nil => rfl
  | cons n ns ih => simp only [ofBytes, List.map_cons, flat_cons, V.cells] at *; rw [ih]; rfl

theorem conv_sim {src dst : TypeId} {c : Cv} (hc : cConv P src dst = some c) (R : Rel P W0 base L K s.get s.next w) {x : V} {cx : Value} (hx : VR P K x cx) :
    Sims P W0 base L (convert src dst cx) (opConv c x s) K s w := by
  intro v s' h hL
  unfold cConv at hc
  cases hs : P.underlying src with
  | none => simp [hs] at hc
  | some ds =>
    cases hd : P.underlying dst with
    | none => simp [hs, hd] at hc
    | some dd =>
      simp only [hs, hd, Option.bind_eq_bind, Option.bind_some] at hc
      split at hc
      · -- to a whole number
        cases hc
        unfold opConv at h
        cases x <;> simp only at h <;> (try (exact (fail_ok h).elim))
        obtain ⟨rfl, rfl⟩ := ret_ok h
        cases hx
        exact ⟨_, w, K, by simp [convert, run_underlying hs, run_underlying hd, Conv.intToInt], .refl _ _ _, .int _ _, R⟩
      · cases hc
        unfold opConv at h
        cases x <;> simp only at h <;> (try (exact (fail_ok h).elim))
        obtain ⟨rfl, rfl⟩ := ret_ok h
        cases hx with | str _ b hb =>
        exact ⟨.string b, w, K, by simp [convert, run_underlying hs, run_underlying hd], .refl _ _ _, .str _ _ hb, R⟩
      · -- bytes to a string
        rename_i e
        split at hc
        · rename_i he
          cases hc
          unfold opConv at h
          cases hx <;> simp only at h <;> (try (exact (fail_ok h).elim))
          case slnil sz =>
            obtain ⟨r, s1, h1, h2⟩ := bind_ok h
            obtain ⟨h3, rfl⟩ := need_ok h1
            obtain ⟨rfl, rfl⟩ := ret_ok h2
            simp only [toBytes, Option.some.injEq] at h3; subst h3
            exact ⟨_, w, K, run_convert_bytes_nil w src e hs he 0 0 dst hd, .refl _ _ _, .str _ _ rfl, R⟩
          case sl sz l t b o cap g1 g2 g3 g4 =>
            obtain ⟨r, s1, h1, h2⟩ := bind_ok h
            obtain ⟨h3, rfl⟩ := need_ok h1
            obtain ⟨rfl, rfl⟩ := ret_ok h2
            obtain ⟨ns, rfl, rfl⟩ := toBytes_spec h3
            rw [flat_ints] at g3
            obtain ⟨cv, a1, a2⟩ := conv_num_bytes (w := w) hs he hd (b := b) (off := o) (cap := cap) rfl h3 (R.immCells g3)
            exact ⟨cv, w, K, a1, .refl _ _ _, a2, R⟩
          case rs sz n off len cap b cap' g1 g2 g3 =>
            obtain ⟨⟨cs, ro⟩, s1, h1, h2⟩ := bind_ok h
            obtain ⟨h3, h4, h5⟩ := cellsOf_ok h1
            simp only at h2 h3
            split at h2
            · rename_i hle
              obtain ⟨r, s2, h6, h7⟩ := bind_ok h2
              obtain ⟨h8, rfl⟩ := need_ok h6
              obtain ⟨rfl, rfl⟩ := ret_ok h7
              have hcs := R.cells h3 g1
              obtain ⟨cv, a1, a2⟩ := conv_num_bytes (w := w) hs he hd (b := b) (off := off) (cap := cap') (len := len) (by simp; omega) h8 (fun i u e => by
                have hi : i < len := by have := (List.getElem?_eq_some_iff.1 e).1; simp at this; omega
                rw [List.getElem?_take_of_lt hi, List.getElem?_drop] at e
                exact hcs _ _ e)
              exact ⟨cv, w, K, a1, .refl _ _ _, a2, R.like h4 h5⟩
            · cases h2
        · cases hc
      · -- a string to bytes
        rename_i e
        split at hc
        · rename_i he
          cases hc
          unfold opConv at h
          cases x <;> simp only at h <;> (try (exact (fail_ok h).elim))
          rename_i st
          split at h
          · rename_i hlt
            obtain ⟨n, s1, h1, h2⟩ := bind_ok h
            obtain ⟨rfl, h3, h4⟩ := newO_ok h1
            obtain ⟨rfl, rfl⟩ := ret_ok h2
            cases hx with | str _ b hb =>
            have hbs : b.size = st.length := by rw [← hb]; exact (Array.length_toList).symm
            have hrun := run_bytes_of_string (P := P) w src dst e b hs hd he
            let cap := grownCap w b.size 0 e
            have hcap : b.size ≤ cap := grownCap_ge _ _ _ _
            have hrow : (bytesRow b cap).size = cap := by
              unfold bytesRow
              have : b.data.size = b.size := rfl
              simp [this]; omega
            have Rd := R.drew
            -- the new row
            have hf := R.fresh s.next (Nat.le_refl _) (by omega)
            obtain ⟨hK, hI, hT⟩ := R.new_block
            have hcells : ∀ (i : Nat) (u : V), (ofBytes st)[i]? = some u → ∃ cu, (w.drew.alloc (.cells (bytesRow b cap) e ((bytesRow b cap).size, (bytesRow b cap).size + 1))).cell? ⟨w.heap.size, 0 + i, none⟩ = some cu ∧ VR P K u cu ∧ u.isCell = true := by
              intro i u hu
              have hi : i < st.length := by have := (List.getElem?_eq_some_iff.1 hu).1; simpa [ofBytes] using this
              have h1 := World.cell?_alloc_mark w.drew (bytesRow b cap) e ((bytesRow b cap).size, (bytesRow b cap).size + 1) i
              have h2 := bytesRow_at b cap i (show i < b.data.size from by have : b.data.size = b.size := rfl; omega)
              have hst : st[i] = b.data[i]'(by have : b.data.size = b.size := rfl; omega) := by subst hb; simp
              refine ⟨.int .u8 (st[i].toNat : Int), ?_, ?_, ?_⟩
              · rw [Nat.zero_add, hst, ← h2]; exact h1
              · have : u = .int .u8 (st[i].toNat : Int) := by
                  simp only [ofBytes, List.getElem?_map, List.getElem?_eq_getElem hi, Option.map_some, Option.some.injEq] at hu
                  exact hu.symm
                rw [this]; exact .int _ _
              · have : u = .int .u8 (st[i].toNat : Int) := by
                  simp only [ofBytes, List.getElem?_map, List.getElem?_eq_getElem hi, Option.map_some, Option.some.injEq] at hu
                  exact hu.symm
                rw [this]; rfl
            have R1 := Rd.alloc (.cells (bytesRow b cap) e ((bytesRow b cap).size, (bytesRow b cap).size + 1)) (fun c' t' fz' hh => by cases hh; exact .inr (Nat.le_refl _))
            have R2 := R1.addImm (b := w.heap.size) (o := 0) (cs := ofBytes st) (fun i _ => hI _) hcells (fun m o' _ _ _ => hK m) (fun m e z h1 h2 => absurd h2 (hT m e z h1))
            have k1 : K.le (K.addImm w.heap.size 0 (ofBytes st)) := Kr.le_addImm fun i _ => hI _
            have k2 := Kr.le_addTip (K := K.addImm w.heap.size 0 (ofBytes st)) (n := s.next) (x := (w.heap.size, st.length, cap)) hf.2.1
            have R3 := R2.addTip (n := s.next) (b := w.heap.size) (e := st.length) (z := cap) (Nat.le_refl _) (by omega) R.above (fun i hi => by
                simp only [Kr.addImm]
                rw [if_neg (by simp [ofBytes]; omega)]; exact hI i)
              ⟨_, _, _, alloc_at w.drew _, by rw [hrow]; exact Nat.le_refl _⟩ (fun m o _ _ => hK m) (fun m e z h1 => hT m e z h1)
            refine ⟨.slice (some ⟨w.heap.size, 0, none⟩) b.size cap, _, _, hrun, ⟨k1.trans k2, fun n hn => ⟨rfl, ?_⟩⟩, ?_, by rw [h3, h4]; exact R3⟩
            · simp only [Kr.addTip]; rw [if_neg (by rw [h4] at hn; omega)]; rfl
            · have := VR.sl (P := P) (K := (K.addImm w.heap.size 0 (ofBytes st)).addTip s.next (w.heap.size, st.length, cap)) 1 (ofBytes st) (.at s.next) w.heap.size 0 cap (by simp [ofBytes]; omega)
                (fun v hv => by simp only [ofBytes, List.mem_map] at hv; obtain ⟨b, _, rfl⟩ := hv; exact ⟨rfl, rfl⟩) (by rw [flat_ofBytes]; exact Kr.imm_addImm.mono k2)
                (by left; simp [Kr.addTip, ofBytes])
              have hlen : (ofBytes st).length = b.size := by simp [ofBytes, hbs]
              rw [hlen] at this
              exact this
          · cases h
        · cases hc
      · -- a literal's bytes
        rename_i e1 e
        split at hc
        · rename_i he1 he
          cases hc
          have hsd : src = dst := of_decide_eq_true he1
          subst hsd
          unfold opConv at h
          cases hx <;> simp only at h <;> (try (exact (fail_ok h).elim))
          case sl sz l t b o cap g1 g2 g3 g4 =>
            cases t <;> simp only at h <;> (try (exact (fail_ok h).elim))
            obtain ⟨rfl, rfl⟩ := ret_ok h
            obtain ⟨g4, g5⟩ := g4
            rw [R.low] at g5
            have hv : VR P K (.sl sz l .full) (.slice (some ⟨b, o, none⟩) l.length cap) := .sl _ _ _ _ _ _ g1 g2 g3 g4
            have hrun : ∀ w', (markStringish ⟨b, o, none⟩).run P w = .ok () w' → (convert src src (.slice (some ⟨b, o, none⟩) l.length cap)).run P w = .ok (.slice (some ⟨b, o, none⟩) l.length cap) w' := by
              intro w' hm
              have he' : e1 = e := by rw [hs] at hd; cases hd; rfl
              subst he'
              simp [convert, run_underlying hs, run_underlying he, hm]
            by_cases hblk : ∃ c e fz, w.heap[b]? = some (.cells c e fz)
            · obtain ⟨c, e, fz, hb⟩ := hblk
              have hsh : w.shape? b = some (e, c.size) := by simp [World.shape?, hb]
              let fz' : Nat × Nat := if fz.1 == fz.2 then (c.size, c.size + 1) else (min fz.1 c.size, max fz.2 (c.size + 1))
              have hz : fz'.1 = fz'.2 ∨ c.size ≤ fz'.1 := by
                right
                simp only [fz']
                split
                · exact Nat.le_refl _
                · rename_i hne
                  have hne : fz.1 ≠ fz.2 := by simpa using hne
                  rcases R.fz b c e fz g5 hb with h1 | h1
                  · exact absurd h1 hne
                  · show c.size ≤ min fz.1 c.size
                    omega
              have hat : (w.freeze ⟨b, c.size, none⟩ 1).heap[b]? = some (.cells c e fz') := by
                obtain ⟨lo, hi⟩ := fz
                simp only [World.freeze, Nat.succ_ne_zero, Nat.one_ne_zero, if_false, Array.getElem?_modify, if_true, hb, Option.map_some]
                rfl
              have hother : ∀ k, k ≠ b → (w.freeze ⟨b, c.size, none⟩ 1).heap[k]? = w.heap[k]? := by
                intro k hk
                simp only [World.freeze, Nat.one_ne_zero, if_false, Array.getElem?_modify]
                rw [if_neg (fun h => hk h.symm)]
              refine ⟨_, w.freeze ⟨b, c.size, none⟩ 1, K, hrun _ ?_, .refl _ _ _, hv, R.remark g5 hb hat hz (by simp [World.freeze]) (by simp [World.freeze]) (by simp [World.freeze]) (by simp [World.freeze]) hother⟩
              simp [markStringish, hsh]
            · refine ⟨_, w, K, hrun w ?_, .refl _ _ _, hv, R⟩
              have hsh : w.shape? b = none := by
                unfold World.shape?
                cases hb : w.heap[b]? with
                | none => rfl
                | some ob =>
                  cases ob <;> first | rfl | exact absurd ⟨_, _, _, hb⟩ hblk
              simp [markStringish, hsh]
        · cases hc
      · cases hc
end
end Go.Ab
