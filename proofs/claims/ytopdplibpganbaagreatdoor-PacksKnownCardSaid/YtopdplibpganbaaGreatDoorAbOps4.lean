/-
  DERIVED. Each operation of the abstract machine, held against the model's: slice expressions, indexes, fields.
-/
import Derived.Test.YtopdplibpganbaaGreatDoorAbOps3
set_option linter.unusedSimpArgs false
set_option linter.unusedVariables false
namespace Go.Ab
open Go.RowKit
section
variable {P : Program} {W0 : World} {base L : Nat} {K : Kr} {s s' : St} {w : World}

theorem asNat_VR {v : V} {cv : Value} (h : VR P K v cv) {n : Nat} (e : asNat? v = some n) : ∃ k, cv = .int k (n : Int) := by
  cases h <;> simp only [asNat?] at e <;> try cases e
  case int k i =>
    split at e
    · rename_i hi; cases e; exact ⟨k, by rw [Int.toNat_of_nonneg hi]⟩
    · cases e

theorem run_sliceBound (k : IntKind) (n y : Nat) (code : BoundsCode) (h : n ≤ y) : (Instr.sliceBound (.int k (n : Int)) y code).run P w = .ok n w := by
  have h' : (0 : Int) ≤ n ∧ (n : Int) ≤ y := ⟨by omega, by omega⟩
  simp [Instr.sliceBound, asIntOf, h']

/-- Two values, or none. -/
def VRo (P : Program) (K : Kr) (o : Option V) (c : Option Value) : Prop := match o, c with
  | none, none => True
  | some v, some cv => VR P K v cv
  | _, _ => False

theorem VRo.none' {c : Option Value} (h : VRo P K none c) : c = none := by cases c <;> simp [VRo] at h ⊢
theorem VRo.some' {v : V} {c : Option Value} (h : VRo P K (some v) c) : ∃ cv, c = some cv ∧ VR P K v cv := by
  cases c with
  | none => simp [VRo] at h
  | some cv => exact ⟨cv, rfl, h⟩

theorem bnd_sim {o : Option V} {c : Option Value} (ho : VRo P K o c) {y d n : Nat} (h : bnd y o d = some n) (hd : d ≤ y) (code : BoundsCode) :
    n ≤ y ∧ (c = none → n = d) ∧ ∀ v, c = some v → (Instr.sliceBound v y code).run P w = .ok n w := by
  cases o with
  | none =>
    obtain rfl := ho.none'
    simp only [bnd, Option.some.injEq] at h
    subst h
    exact ⟨hd, fun _ => rfl, fun v e => by cases e⟩
  | some x =>
    obtain ⟨cv, rfl, hx⟩ := ho.some'
    simp only [bnd] at h
    cases hn : asNat? x with
    | none => rw [hn] at h; cases h
    | some k =>
      rw [hn] at h; simp only at h
      split at h
      · rename_i hle
        cases h
        obtain ⟨kd, rfl⟩ := asNat_VR hx hn
        refine ⟨hle, ?_, ?_⟩
        · intro e; cases e
        · intro v e; cases e; exact run_sliceBound kd _ _ _ hle
      · cases h

theorem bounds_sim {isS : Bool} {lim clen cap l h : Nat} {m : Option Nat} {lo hi mx : Option V} {clo chi cmx : Option Value} (hlo : VRo P K lo clo) (hhi : VRo P K hi chi) (hmx : VRo P K mx cmx)
    (hb : bounds lim lo hi mx = some (l, h, m)) (hlen : hi = none → clen = lim) (hcap : lim ≤ cap) :
    (Instr.sliceBounds isS clen cap clo chi cmx).run P w = .ok (l, h, m.getD cap) w ∧ l ≤ h ∧ h ≤ m.getD lim ∧ m.getD lim ≤ lim ∧ (m = none → cmx = none) ∧ (m = none → hi = none → h = lim) := by
  unfold bounds at hb
  cases mx with
  | none =>
    obtain rfl := hmx.none'
    simp only at hb
    cases hh : bnd lim hi lim with
    | none => rw [hh] at hb; cases hb
    | some H =>
      rw [hh] at hb; simp only [Option.map_eq_some_iff] at hb
      obtain ⟨l', hl, e⟩ := hb
      simp only [Prod.mk.injEq] at e
      obtain ⟨rfl, rfl, rfl⟩ := e
      obtain ⟨a1, a2, a3⟩ := bnd_sim (P := P) (K := K) (w := w) hhi hh (Nat.le_refl _) (if isS then .sliceAcap else .sliceAlen)
      obtain ⟨b1, b2, b3⟩ := bnd_sim (P := P) (K := K) (w := w) hlo hl (Nat.zero_le _) .sliceB
      have cap' : ∀ v, chi = some v → (Instr.sliceBound v cap (if isS then .sliceAcap else .sliceAlen)).run P w = .ok H w := by
        intro v e
        cases hi with
        | none => rw [hhi.none'] at e; cases e
        | some x =>
          obtain ⟨cv, e', hx⟩ := hhi.some'
          rw [e'] at e; cases e
          simp only [bnd] at hh
          cases hn : asNat? x with
          | none => rw [hn] at hh; cases hh
          | some k =>
            rw [hn] at hh; simp only at hh
            split at hh
            · cases hh
              obtain ⟨kd, rfl⟩ := asNat_VR hx hn
              exact run_sliceBound kd _ _ _ (by omega)
            · cases hh
      refine ⟨?_, b1, by simpa using a1, by simp, fun _ => rfl, fun _ e => by subst e; simp only [bnd, Option.some.injEq] at hh; exact hh.symm⟩
      unfold Instr.sliceBounds
      cases chi with
      | none =>
        have hn : hi = none := by cases hi with
          | none => rfl
          | some _ => obtain ⟨_, e, _⟩ := hhi.some'; cases e
        have e1 := a2 rfl
        have e2 := hlen hn
        subst e1
        subst e2
        cases clo with
        | none => have := b2 rfl; subst this; simp
        | some v => have := b3 v rfl; simp [this]
      | some hv =>
        have e1 := cap' hv rfl
        cases clo with
        | none => have := b2 rfl; subst this; simp [e1]
        | some v => have := b3 v rfl; simp [e1, this]
  | some mv =>
    simp only at hb
    split at hb
    · cases hb
    · rename_i hnn
      cases hm : bnd lim (some mv) 0 with
      | none => rw [hm] at hb; cases hb
      | some M =>
        rw [hm] at hb; simp only at hb
        cases hh : bnd M hi 0 with
        | none => rw [hh] at hb; cases hb
        | some H =>
          rw [hh] at hb; simp only [Option.map_eq_some_iff] at hb
          obtain ⟨l', hl, e⟩ := hb
          simp only [Prod.mk.injEq] at e
          obtain ⟨rfl, rfl, rfl⟩ := e
          obtain ⟨cmv, rfl, hmv⟩ := hmx.some'
          cases hi with
          | none => simp at hnn
          | some hv =>
            obtain ⟨chv, rfl, hhv⟩ := hhi.some'
            obtain ⟨a1, a2, a3⟩ := bnd_sim (P := P) (K := K) (w := w) hhi hh (Nat.zero_le _) .slice3B
            obtain ⟨b1, b2, b3⟩ := bnd_sim (P := P) (K := K) (w := w) hlo hl (Nat.zero_le _) .slice3C
            obtain ⟨c1, _, _⟩ := bnd_sim (P := P) (K := K) (w := w) hmx hm (Nat.zero_le _) .slice3B
            have e0 : (Instr.sliceBound cmv cap (if isS then .slice3Acap else .slice3Alen)).run P w = .ok M w := by
              simp only [bnd] at hm
              cases hn : asNat? mv with
              | none => rw [hn] at hm; cases hm
              | some k =>
                rw [hn] at hm; simp only at hm
                split at hm
                · cases hm
                  obtain ⟨kd, rfl⟩ := asNat_VR hmv hn
                  exact run_sliceBound kd _ _ _ (by omega)
                · cases hm
            refine ⟨?_, b1, by simpa using a1, by simpa using c1, ?_, ?_⟩
            rotate_left
            · intro e; cases e
            · intro e; cases e
            unfold Instr.sliceBounds
            have e1 := a3 _ rfl
            cases clo with
            | none => have := b2 rfl; subst this; simp [e0, e1]
            | some v => have := b3 v rfl; simp [e0, e1, this]

/-! ### Slice expressions -/
theorem VR_sub {sz : Nat} {xs : List V} {b o cap : Nat} (hcap : xs.length ≤ cap) (hsz : ∀ v ∈ xs, v.cells.length = sz ∧ v.isTup = false) (himm : Imm K b o (flat xs)) {size : Nat} (hs : sz = size ∨ xs = [])
    {l h : Nat} {m : Nat} {t' : Tip} (hl : l ≤ h) (hh : h ≤ xs.length) (hm : h ≤ m) (ht : TipOk K t' sz b (if m = l then o else o + l * size) ((if m = l then o else o + l * size) + (h - l) * sz) (h - l) (m - l)) :
    VR P K (.sl sz ((xs.take h).drop l) t') (.slice (some (if m = l then ⟨b, o, none⟩ else Addr.add ⟨b, o, none⟩ (l * size))) (h - l) (m - l)) := by
  have hlen : ((xs.take h).drop l).length = h - l := by simp; omega
  have key := VR.sl (P := P) (K := K) sz ((xs.take h).drop l) t' b (if m = l then o else o + l * size) (m - l) (by rw [hlen]; omega)
    (fun v hv => hsz v (List.mem_of_mem_take (List.mem_of_mem_drop hv))) ?_ (by rw [hlen]; exact ht)
  · rw [hlen] at key
    split
    · rename_i e; simpa [e] using key
    · rename_i e; simpa [e, add_none] using key
  · by_cases e : m = l
    · have : (xs.take h).drop l = [] := by rw [List.drop_eq_nil_iff]; simp; omega
      rw [this]; simpa [flat] using Imm.nil K _ _
    · rw [if_neg e, flat_drop (sz := sz) (fun v hv => (hsz v (List.mem_of_mem_take hv)).1), flat_take fun v hv => (hsz v hv).1]
      have := (himm.take (h * sz)).drop (l * sz)
      rcases hs with rfl | rfl
      · exact this
      · simpa [flat] using Imm.nil K _ _

theorem opSlice_sim {t : TypeId} {k : Sk} (hk : match k with
      | .str => P.underlying t = some .string
      | .sl agg size => ∃ e, P.underlying t = some (.slice e) ∧ sh P e = some (agg, size)
      | .arr n size => ∃ e agg, P.underlying t = some (.array n e) ∧ sh P e = some (agg, size))
    (R : Rel P W0 base L K s.get s.next w) {x : V} {cx : Value} (hx : VR P K x cx) {lo hi mx : Option V} {clo chi cmx : Option Value} (hlo : VRo P K lo clo) (hhi : VRo P K hi chi) (hmx : VRo P K mx cmx) :
    Sims P W0 base L (Instr.sliceAt t cx clo chi cmx) (opSlice k x lo hi mx s) K s w := by
  intro v s' h hL
  cases k with
  | str =>
    simp only at hk
    unfold opSlice at h
    cases hx <;> simp only at h <;> (try (exact (fail_ok h).elim))
    case str st bs hbs =>
      obtain ⟨⟨l, hh, m⟩, s1, h1, h2⟩ := bind_ok h
      obtain ⟨h3, rfl⟩ := need_ok h1
      cases m with
      | some m => cases h2
      | none =>
        obtain ⟨rfl, rfl⟩ := ret_ok h2
        have hsz : bs.size = st.length := by rw [← hbs]; exact (Array.length_toList).symm
        obtain ⟨r1, r2, r3, r4, r5, r6⟩ := bounds_sim (P := P) (K := K) (w := w) (isS := false) (clen := bs.size) (cap := bs.size) hlo hhi hmx h3 (fun _ => hsz) (by omega)
        have hmxn : cmx = none := r5 rfl
        subst hmxn
        refine ⟨.string (bs.extract l hh), w, K, ?_, .refl _ _ _, .str _ _ ?_, R⟩
        · simp only [Option.getD_none] at r1
          simp [Instr.sliceAt, Instr.slice, run_underlying hk, r1]
        · rw [← hbs, ByteArray.data_extract, Array.toList_extract, List.drop_take, List.extract_eq_take_drop]
  | sl agg size =>
    obtain ⟨e, hk1, hk2⟩ := hk
    obtain ⟨_, hsize, _, _⟩ := sh_spec hk2 w
    unfold opSlice at h
    cases hx <;> simp only at h <;> (try (exact (fail_ok h).elim))
    case slnil sz =>
      simp only [List.isEmpty_nil, Bool.not_true, Bool.false_eq_true, and_false, if_false] at h
      obtain ⟨⟨l, hh, m⟩, s1, h1, h2⟩ := bind_ok h
      obtain ⟨h3, rfl⟩ := need_ok h1
      obtain ⟨r1, r2, r3, r4, r5, r6⟩ := bounds_sim (P := P) (K := K) (w := w) (isS := true) (clen := 0) (cap := 0) hlo hhi hmx h3 (fun _ => rfl) (by simp)
      simp only [List.length_nil] at r3 r4
      obtain ⟨rfl, rfl⟩ := ret_ok h2
      have hm : m.getD 0 = 0 := by omega
      have e1 : hh = 0 := by omega
      have e2 : l = 0 := by omega
      subst e1; subst e2
      refine ⟨.slice none 0 0, w, K, ?_, .refl _ _ _, by simpa [cutTip] using VR.slnil sz, R⟩
      rw [hm] at r1
      simp [Instr.sliceAt, Instr.slice, run_underlying hk1, r1, hsize]
    case sl sz xs tp b o cap g1 g2 g3 g4 =>
      split at h
      · cases h
      · rename_i hszc
        have hsz' : sz = size ∨ xs = [] := by
          by_cases e : sz = size
          · exact .inl e
          · right
            cases xs with
            | nil => rfl
            | cons _ _ => exact absurd ⟨e, rfl⟩ hszc
        obtain ⟨⟨l, hh, m⟩, s1, h1, h2⟩ := bind_ok h
        obtain ⟨h3, rfl⟩ := need_ok h1
        obtain ⟨r1, r2, r3, r4, r5, r6⟩ := bounds_sim (P := P) (K := K) (w := w) (isS := true) (clen := xs.length) (cap := cap) hlo hhi hmx h3 (fun _ => rfl) g1
        obtain ⟨rfl, rfl⟩ := ret_ok h2
        have hne : tp ≠ .nil := by rintro rfl; exact g4
        have hhl : hh ≤ xs.length := by omega
        have hhm : hh ≤ m.getD cap := by cases m <;> simp at r3 r4 ⊢ <;> omega
        have key := VR_sub (P := P) (K := K) g1 g2 g3 hsz' (l := l) (h := hh) (m := m.getD cap)
          (t' := cutTip tp xs.length hh m) r2 hhl hhm (by
          unfold cutTip
          rw [if_neg hne]
          cases m with
          | some m =>
            simp only [Option.getD_some]
            split
            · rename_i e; simp only [TipOk]; omega
            · trivial
          | none =>
            simp only [Option.getD_none]
            split
            · rename_i e
              subst e
              cases tp with
              | nil => exact absurd rfl hne
              | lit => simp only [if_true, TipOk]; simp only [TipOk] at g4; omega
              | full => simp only [TipOk] at g4 ⊢; rw [if_neg (by simp)]; simp only [TipOk]; omega
              | no => rw [if_neg (by simp)]; trivial
              | «at» n =>
                rw [if_neg (by simp)]
                simp only [TipOk] at g4 ⊢
                rcases g4 with g4 | g4
                · by_cases ec : cap = l
                  · right; omega
                  · left
                    rw [if_neg ec, g4]
                    rcases hsz' with rfl | rfl
                    · have e1 : l * sz + (xs.length - l) * sz = xs.length * sz := by rw [← Nat.add_mul]; congr 1; omega
                      have e2 : l * sz + (cap - l) * sz = cap * sz := by rw [← Nat.add_mul]; congr 1; omega
                      rw [Nat.add_assoc, e1, Nat.add_assoc, e2]
                    · have : l = 0 := by simp only [List.length_nil] at r2; omega
                      subst this; simp
                · right; omega
            · trivial)
        refine ⟨_, w, K, ?_, .refl _ _ _, key, R⟩
        simp only [Instr.sliceAt, Sem.run_bind, run_underlying hk1, Result.andThen_ok, Instr.slice, r1, hsize, Sem.run_pure]
        congr 2
        split <;> rfl
    case rs sz n off len cap b cap' g1 g2 g3 =>
      split at h
      · cases h
      · rename_i hszc
        have hsz' : sz = size := by simpa using hszc
        subst hsz'
        obtain ⟨⟨l, hh, m⟩, s1, h1, h2⟩ := bind_ok h
        obtain ⟨h3, rfl⟩ := need_ok h1
        cases cap with
        | some c =>
          simp only at g3 h3 h2
          subst g3
          obtain ⟨r1, r2, r3, r4, r5, r6⟩ := bounds_sim (P := P) (K := K) (w := w) (isS := true) (clen := len) (cap := c) hlo hhi hmx h3 (fun e => by subst e; simp) (by split <;> omega)
          have hlim : (if hi.isNone = true then len else c) ≤ c := by split <;> omega
          cases m with
          | some m =>
            simp only [Option.getD_some] at r1 r3 r4 h2
            obtain ⟨rfl, rfl⟩ := ret_ok h2
            refine ⟨.slice (some ⟨b, if m = l then off else off + l * sz, none⟩) (hh - l) (m - l), w, K, ?_, .refl _ _ _, .rs _ _ _ _ _ _ _ g1 (by omega) rfl, R⟩
            simp only [Instr.sliceAt, Sem.run_bind, run_underlying hk1, Result.andThen_ok, Instr.slice, r1, hsize, Sem.run_pure]
            congr 2
            split <;> simp [add_none]
          | none =>
            simp only [Option.getD_none] at r1 r3 r4 h2
            obtain ⟨rfl, rfl⟩ := ret_ok h2
            have := Nat.le_trans r3 hlim
            refine ⟨.slice (some ⟨b, if c = l then off else off + l * sz, none⟩) (hh - l) (c - l), w, K, ?_, .refl _ _ _, .rs _ _ _ _ _ _ _ g1 (by omega) rfl, R⟩
            simp only [Instr.sliceAt, Sem.run_bind, run_underlying hk1, Result.andThen_ok, Instr.slice, r1, hsize, Sem.run_pure]
            congr 2
            split <;> simp [add_none]
        | none =>
          simp only at g3 h3 h2
          obtain ⟨g3, g4⟩ := g3
          subst g3
          obtain ⟨r1, r2, r3, r4, r5, r6⟩ := bounds_sim (P := P) (K := K) (w := w) (isS := true) (clen := len) (cap := cap') hlo hhi hmx h3 (fun _ => rfl) g2
          cases m with
          | some m =>
            simp only [Option.getD_some] at r1 r3 r4 h2
            obtain ⟨rfl, rfl⟩ := ret_ok h2
            refine ⟨.slice (some ⟨b, if m = l then 0 else 0 + l * sz, none⟩) (hh - l) (m - l), w, K, ?_, .refl _ _ _, .rs _ _ _ _ _ _ _ g1 (by omega) rfl, R⟩
            simp only [Instr.sliceAt, Sem.run_bind, run_underlying hk1, Result.andThen_ok, Instr.slice, r1, hsize, Sem.run_pure]
            congr 2
            split <;> simp [add_none]
          | none =>
            simp only [Option.getD_none] at r1 r3 r4 h2
            split at h2
            · rename_i e; subst e
              obtain ⟨rfl, rfl⟩ := ret_ok h2
              refine ⟨.slice (some ⟨b, 0, none⟩) hh cap', w, K, ?_, .refl _ _ _, .rs _ _ _ _ _ _ _ g1 (by omega) ⟨rfl, g4⟩, R⟩
              simp only [Instr.sliceAt, Sem.run_bind, run_underlying hk1, Result.andThen_ok, Instr.slice, r1, hsize, Sem.run_pure]
              simp [add_none]
            · cases h2
  | arr n size =>
    obtain ⟨e, agg, hk1, hk2⟩ := hk
    obtain ⟨_, hsize, _, _⟩ := sh_spec hk2 w
    unfold opSlice at h
    cases hx <;> simp only at h <;> (try (exact (fail_ok h).elim))
    case ptr nm off b g1 =>
      obtain ⟨⟨l, hh, m⟩, s1, h1, h2⟩ := bind_ok h
      obtain ⟨h3, rfl⟩ := need_ok h1
      obtain ⟨r1, r2, r3, r4, r5, r6⟩ := bounds_sim (P := P) (K := K) (w := w) (isS := false) (clen := n) (cap := n) hlo hhi hmx h3 (fun _ => rfl) (Nat.le_refl _)
      dsimp only at h2
      obtain ⟨rfl, rfl⟩ := ret_ok h2
      refine ⟨.slice (some ⟨b, if m.getD n = l then off else off + l * size, none⟩) (hh - l) (m.getD n - l), w, K, ?_, .refl _ _ _, .rs _ _ _ _ _ _ _ g1 (by omega) rfl, R⟩
      simp only [Instr.sliceAt, Sem.run_bind, run_underlying hk1, Result.andThen_ok, Instr.sureAddr, r1, hsize, Sem.run_pure]
      congr 2
      split <;> simp [add_none]

/-! ### Places of elements and fields -/
theorem opIaddr_sim {t e : TypeId} {arr : Option Nat} {agg : Bool} {size : Nat} (hk : match arr with
      | none => P.underlying t = some (.slice e)
      | some n => P.underlying t = some (.array n e)) (hs : sh P e = some (agg, size))
    (R : Rel P W0 base L K s.get s.next w) {x i : V} {cx ci : Value} (hx : VR P K x cx) (hi : VR P K i ci) :
    Sims P W0 base L (Instr.indexAt t cx ci) (opIaddr arr size x i s) K s w := by
  intro v s' h hL
  obtain ⟨_, hsize, _, _⟩ := sh_spec hs w
  unfold opIaddr at h
  obtain ⟨n, s1, h1, h2⟩ := bind_ok h
  obtain ⟨h3, rfl⟩ := need_ok h1
  obtain ⟨k, rfl⟩ := asNat_VR hi h3
  cases arr with
  | none =>
    cases hx <;> simp only at h2 <;> (try (exact (fail_ok h2).elim))
    case slnil sz =>
      split at h2
      · cases h2
      · simp only [List.getElem?_nil] at h2; cases h2
    case sl sz xs tp b o cap g1 g2 g3 g4 =>
      split at h2
      · cases h2
      · rename_i hsz
        have hsz : sz = size := by simpa using hsz
        subst hsz
        cases hu : xs[n]? with
        | some u =>
          rw [hu] at h2
          obtain ⟨rfl, rfl⟩ := ret_ok h2
          have hlt := (List.getElem?_eq_some_iff.1 hu).1
          refine ⟨.pointer (some ⟨b, o + n * sz, none⟩), w, K, ?_, .refl _ _ _, .ip _ _ _ _ (Nat.zero_le _) ?_, R⟩
          · simp [Instr.indexAt, asIntOf, run_underlying hk, hlt, hsize, add_none]
          · rw [← flat_get (fun v hv => (g2 v hv).1) hu]
            exact ((g3.drop (n * sz)).take sz)
        | none => rw [hu] at h2; cases h2
    case rs sz nm off len cap b cap' g1 g2 g3 =>
      split at h2
      · cases h2
      · rename_i hszc
        split at h2
        · rename_i hlt
          obtain ⟨rfl, rfl⟩ := ret_ok h2
          refine ⟨.pointer (some ⟨b, off + n * size, none⟩), w, K, ?_, .refl _ _ _, .ptr _ _ _ g1, R⟩
          simp [Instr.indexAt, asIntOf, run_underlying hk, hlt, hsize, add_none]
        · cases h2
  | some a =>
    cases hx <;> simp only at h2 <;> (try (exact (fail_ok h2).elim))
    case ptr nm off b g1 =>
      split at h2
      · rename_i hlt
        obtain ⟨rfl, rfl⟩ := ret_ok h2
        refine ⟨.pointer (some ⟨b, off + n * size, none⟩), w, K, ?_, .refl _ _ _, .ptr _ _ _ g1, R⟩
        simp [Instr.indexAt, asIntOf, run_underlying hk, hlt, hsize, add_none, Instr.sureAddr]
      · cases h2
    case ip cs off b o g1 g2 =>
      split at h2
      · rename_i hlt
        obtain ⟨rfl, rfl⟩ := ret_ok h2
        refine ⟨.pointer (some ⟨b, o + n * size, none⟩), w, K, ?_, .refl _ _ _, .ip _ _ _ _ (by omega) (by rw [show o + n * size - (off + n * size) = o - off from by omega]; exact g2), R⟩
        simp [Instr.indexAt, asIntOf, run_underlying hk, hlt, hsize, add_none, Instr.sureAddr]
      · cases h2

theorem faddr_sim {t : TypeId} {fields : Array Field} (hd : P.underlying t = some (.struct fields)) {i : Nat} {f : Field} (hf : fields[i]? = some f) {agg : Bool} {size : Nat} (hs : sh P f.type = some (agg, size)) (hsz : size ≠ 0)
    (R : Rel P W0 base L K s.get s.next w) {x : V} {cx : Value} (hx : VR P K x cx) :
    Sims P W0 base L (Instr.fieldAt t cx i) (opFaddr f.offset x s) K s w := by
  intro v s' h hL
  obtain ⟨_, hsize, _, _⟩ := sh_spec hs w
  unfold opFaddr at h
  cases hx <;> simp only at h <;> (try (exact (fail_ok h).elim))
  case ptr nm off b g1 =>
    obtain ⟨rfl, rfl⟩ := ret_ok h
    exact ⟨.pointer (some ⟨b, off + f.offset, none⟩), w, K, by simp [Instr.fieldAt, run_underlying hd, hf, Instr.sureAddr, fieldPlace, hsize, hsz, add_none], .refl _ _ _, .ptr _ _ _ g1, R⟩
  case ip cs off b o g1 g2 =>
    obtain ⟨rfl, rfl⟩ := ret_ok h
    refine ⟨.pointer (some ⟨b, o + f.offset, none⟩), w, K, by simp [Instr.fieldAt, run_underlying hd, hf, Instr.sureAddr, fieldPlace, hsize, hsz, add_none], .refl _ _ _, .ip _ _ _ _ (by omega) ?_, R⟩
    rw [show o + f.offset - (off + f.offset) = o - off from by omega]; exact g2

/-- A part of a struct or an array that is a value. -/
theorem part_sim {t : TypeId} {agg : Bool} {size : Nat} (hs : sh P t = some (agg, size)) {cs : List V} {c : Array Value} (hc : VRL P K cs c.toList) (hcell : ∀ u ∈ cs, u.isCell = true) {off : Nat} {v : V}
    (hm : mk agg size cs off = some v) : ∃ cv, (part t c off).run P w = .ok cv w ∧ VR P K v cv := by
  obtain ⟨h1, h2, _, _⟩ := sh_spec hs w
  unfold mk at hm
  cases agg with
  | true =>
    simp only [if_true] at hm
    split at hm
    · cases hm
      refine ⟨.agg (c.extract off (off + size)), by simp [part, h1, h2], .agg _ _ (fun u hu => hcell u (List.mem_of_mem_drop (List.mem_of_mem_take hu))) ?_⟩
      rw [Array.toList_extract, List.extract_eq_take_drop, show off + size - off = size from by omega]
      exact (hc.drop off).take size
    · cases hm
  | false =>
    simp only [Bool.false_eq_true, if_false] at hm
    obtain ⟨cu, a1, a2⟩ := hc.array _ _ hm
    exact ⟨cu, by simp [part, h1, a1], a2⟩

theorem fld_sim {t : TypeId} {fields : Array Field} (hd : P.underlying t = some (.struct fields)) {i : Nat} {f : Field} (hf : fields[i]? = some f) {agg : Bool} {size : Nat} (hs : sh P f.type = some (agg, size))
    (R : Rel P W0 base L K s.get s.next w) {x : V} {cx : Value} (hx : VR P K x cx) :
    Sims P W0 base L (Instr.field t cx i) (opFld agg size f.offset x s) K s w := by
  intro v s' h hL
  unfold opFld at h
  cases hx <;> simp only at h <;> (try (exact (fail_ok h).elim))
  case agg cs c g1 g2 =>
    obtain ⟨h3, rfl⟩ := need_ok h
    obtain ⟨cv, a1, a2⟩ := part_sim (w := w) hs g2 g1 h3
    exact ⟨cv, w, K, by simp [Instr.field, run_underlying hd, hf, asAgg, a1], .refl _ _ _, a2, R⟩

theorem idxs_sim {t : TypeId} (hd : P.underlying t = some .string) (R : Rel P W0 base L K s.get s.next w) {x i : V} {cx ci : Value} (hx : VR P K x cx) (hi : VR P K i ci) :
    Sims P W0 base L (Instr.index t cx ci) (opIdxs x i s) K s w := by
  intro v s' h hL
  unfold opIdxs at h
  cases hx <;> simp only at h <;> (try (exact (fail_ok h).elim))
  case str st bs hbs =>
    obtain ⟨n, s1, h1, h2⟩ := bind_ok h
    obtain ⟨h3, rfl⟩ := need_ok h1
    obtain ⟨k, rfl⟩ := asNat_VR hi h3
    obtain ⟨b, s2, h4, h5⟩ := bind_ok h2
    obtain ⟨h6, rfl⟩ := need_ok h4
    obtain ⟨rfl, rfl⟩ := ret_ok h5
    have : bs[n]? = some b := by
      rw [← hbs] at h6
      rw [← h6, Array.getElem?_toList]
      rfl
    exact ⟨.int .u8 b.toNat, w, K, by simp [Instr.index, asIntOf, run_underlying hd, this], .refl _ _ _, .int _ _, R⟩

theorem idxa_sim {t e : TypeId} {len : Nat} (hd : P.underlying t = some (.array len e)) {agg : Bool} {size : Nat} (hs : sh P e = some (agg, size)) (R : Rel P W0 base L K s.get s.next w) {x i : V} {cx ci : Value} (hx : VR P K x cx) (hi : VR P K i ci) :
    Sims P W0 base L (Instr.index t cx ci) (opIdxa len agg size x i s) K s w := by
  intro v s' h hL
  obtain ⟨_, hsize, _, _⟩ := sh_spec hs w
  unfold opIdxa at h
  cases hx <;> simp only at h <;> (try (exact (fail_ok h).elim))
  case agg cs c g1 g2 =>
    obtain ⟨n, s1, h1, h2⟩ := bind_ok h
    obtain ⟨h3, rfl⟩ := need_ok h1
    obtain ⟨k, rfl⟩ := asNat_VR hi h3
    split at h2
    · rename_i hlt
      obtain ⟨h4, rfl⟩ := need_ok h2
      obtain ⟨cv, a1, a2⟩ := part_sim (w := w) hs g2 g1 h4
      exact ⟨cv, w, K, by simp [Instr.index, asIntOf, run_underlying hd, hlt, hsize, a1], .refl _ _ _, a2, R⟩
    · cases h2
end
end Go.Ab
