/-
  DERIVED. Each operation of the abstract machine, held against the model's: what is never written again, len, cap, min, max, tuples, interfaces.
-/
import Derived.Test.YtopdplibpganbaaGreatDoorAbOps10
set_option linter.unusedSimpArgs false
set_option linter.unusedVariables false
namespace Go.Ab
open Go.RowKit
section
variable {P : Program} {W0 : World} {base L : Nat} {K : Kr} {s s' : St} {w : World}

theorem freeze_sim {h : Option (Bool × Nat)} {v v' : V} {cv : Value} (hv : VR P K v cv) (R : Rel P W0 base L K s.get s.next w) (e : freeze h v s = .ok v' s') :
    ∃ K', Kx s.next s'.next K K' ∧ VR P K' v' cv ∧ Rel P W0 base L K' s'.get s'.next w := by
  have same : v' = v → s' = s → ∃ K', Kx s.next s'.next K K' ∧ VR P K' v' cv ∧ Rel P W0 base L K' s'.get s'.next w := by
    rintro rfl rfl; exact ⟨K, .refl _ _ _, hv, R⟩
  unfold freeze at e
  cases h with
  | none => obtain ⟨rfl, rfl⟩ := ret_ok e; exact same rfl rfl
  | some h =>
    obtain ⟨agg, size⟩ := h
    cases hv <;> simp only at e <;> (try (obtain ⟨rfl, rfl⟩ := ret_ok e; exact same rfl rfl))
    case rs sz n off len cap b cap' g1 g2 g3 =>
      obtain ⟨⟨cs, ro⟩, s1, h3, h4⟩ := bind_ok e
      obtain ⟨hg, h5, h6⟩ := cellsOf_ok h3
      simp only at hg h4
      split at h4
      · cases h4
      · rename_i hno
        simp only [not_or, Bool.not_eq_true, not_and, Decidable.not_not] at hno
        obtain ⟨rfl, hsz, hag⟩ := hno
        have hsz : sz = size := by simpa using hsz
        subst hsz
        have hag : agg = true ∨ sz = 1 := by cases agg with
          | true => exact .inl rfl
          | false => exact .inr (hag rfl)
        obtain ⟨l, s2, h7, h8⟩ := bind_ok h4
        obtain ⟨h9, h9s⟩ := need_ok h7
        subst h9s
        obtain ⟨u, s3, h10, h11⟩ := bind_ok h8
        obtain ⟨h12, h13⟩ := setO_ok h10
        obtain ⟨rfl, rfl⟩ := ret_ok h11
        have hget1 : s2.get = s.get := by funext k; simp only [St.get, h5]
        obtain ⟨b', p1, c, ty, fz, p3, p4, p5⟩ := R.obj n _ hg rfl
        rw [p1] at g1; cases g1
        have hcs := R.cells hg p1
        have hcell : ∀ u ∈ cs, u.isCell = true := fun u hu => by
          obtain ⟨i, hi, rfl⟩ := List.getElem_of_mem hu
          exact (hcs i _ (List.getElem?_eq_getElem hi)).choose_spec.2.2
        obtain ⟨a1, a2, a3, a4⟩ := regroup_spec hag h9 (fun u hu => hcell u (List.mem_of_mem_drop hu))
        have sub : ∀ k o', upd s.get n none k = some o' → k ≠ n ∧ s.get k = some o' := by
          intro k o' ee; unfold upd at ee; split at ee
          · cases ee
          · rename_i hm; exact ⟨hm, ee⟩
        have himm : ∀ i, K.imm b i = none := fun i => R.noimm n _ b i hg rfl rfl p1
        have R2 := (R.del n).addImm (b := b) (o := off) (cs := flat l) (fun i _ => himm _) (fun i v hv => by
            rw [a2, List.getElem?_take] at hv
            split at hv
            · rw [List.getElem?_drop] at hv; exact hcs _ _ hv
            · cases hv)
          (fun k o' e1 e2 _ e3 => (sub k o' e1).1 (R.inj k n o' _ b (sub k o' e1).2 hg e2 rfl e3 p1))
          (fun k e1 z1 e2 e3 => absurd p1 ((R.tips k b e1 z1 (sub k _ e2).2 e3).2.2.2 n _ hg rfl))
        have k1 : K.le (K.addImm b off (flat l)) := Kr.le_addImm fun i _ => himm _
        refine ⟨K.addImm b off (flat l), ⟨k1, fun k _ => ⟨rfl, rfl⟩⟩, ?_, by rw [h12, h13, hget1, h6]; exact R2⟩
        have := VR.sl (P := P) (K := K.addImm b off (flat l)) sz l .no b off cap' (by omega) a4 Kr.imm_addImm trivial
        rw [a1] at this
        exact this

def Lk.fits : Lk → TypeDesc → Bool
  | .str, .string => true
  | .sl, .slice _ => true
  | .map, .map _ _ => true
  | _, _ => false

theorem opLen_sim {ts : Array TypeId} {t ty : TypeId} (ht : ts[0]? = some t) {d : TypeDesc} (hd : P.underlying t = some d) {k : Lk} (hk : k.fits d = true)
    (R : Rel P W0 base L K s.get s.next w) {x : V} {cx : Value} (hx : VR P K x cx) :
    Sims P W0 base L (Builtin.len_ ts ty #[cx]) (opLen k x s) K s w := by
  intro v s' h hL
  cases k <;> cases d <;> simp only [Lk.fits, Bool.false_eq_true] at hk <;> cases hx <;> simp only [opLen] at h <;> (try (exact (fail_ok h).elim))
  case str.string.str st bs hbs =>
    obtain ⟨rfl, rfl⟩ := ret_ok h
    have hsize : bs.size = st.length := by rw [← hbs]; exact (Array.length_toList).symm
    exact ⟨_, w, K, by simp [Builtin.len_, ht, run_underlying hd, goInt, hsize], .refl _ _ _, .int _ _, R⟩
  case sl.slice.slnil e sz =>
    obtain ⟨rfl, rfl⟩ := ret_ok h
    exact ⟨_, w, K, by simp [Builtin.len_, ht, run_underlying hd, goInt], .refl _ _ _, .int _ _, R⟩
  case sl.slice.sl e sz l tp b o cap g1 g2 g3 g4 =>
    obtain ⟨rfl, rfl⟩ := ret_ok h
    exact ⟨_, w, K, by simp [Builtin.len_, ht, run_underlying hd, goInt], .refl _ _ _, .int _ _, R⟩
  case sl.slice.rs e sz n off len cap b cap' g1 g2 g3 =>
    obtain ⟨rfl, rfl⟩ := ret_ok h
    exact ⟨_, w, K, by simp [Builtin.len_, ht, run_underlying hd, goInt], .refl _ _ _, .int _ _, R⟩
  case map.map.nilm k e =>
    obtain ⟨rfl, rfl⟩ := ret_ok h
    exact ⟨_, w, K, by simp [Builtin.len_, ht, run_underlying hd, goInt], .refl _ _ _, .int _ _, R⟩
  case map.map.map k e n b hb =>
    obtain ⟨⟨es, c⟩, s1, h1, h2⟩ := bind_ok h
    rcases mapOf_ok h1 with ⟨h3, _⟩ | ⟨n', h3, h4, h5, h6⟩
    · cases h3
    · cases h3
      obtain ⟨rfl, rfl⟩ := ret_ok h2
      obtain ⟨hbase, ces, hw, he⟩ := R.mapAt h4 hb
      have := he.1
      simp only [Array.length_toList] at this
      exact ⟨_, w, K, by simp [Builtin.len_, ht, run_underlying hd, goInt, run_get hw rfl, this], by rw [h6]; exact .refl _ _ _, .int _ _, R.like h5 h6⟩

theorem opCap_sim {ts : Array TypeId} {t e ty : TypeId} (ht : ts[0]? = some t) (hd : P.underlying t = some (.slice e))
    (R : Rel P W0 base L K s.get s.next w) {x : V} {cx : Value} (hx : VR P K x cx) {v : V} {s' : St}
    (h : opCap x s = .ok v s') : ∃ cv, (Builtin.cap_ ts ty #[cx]).run P w = .ok cv w ∧ VR P K v cv ∧ s' = s := by
  unfold opCap at h
  cases hx <;> simp only at h <;> (try (exact (fail_ok h).elim))
  case slnil sz =>
    obtain ⟨rfl, rfl⟩ := ret_ok h
    exact ⟨_, by simp [Builtin.cap_, ht, run_underlying hd, goInt], .int _ _, rfl⟩
  case sl sz l tp b o cap g1 g2 g3 g4 =>
    cases tp <;> simp only [TipOk] at h g4 <;> (try (exact (fail_ok h).elim))
    · obtain ⟨rfl, rfl⟩ := ret_ok h
      obtain ⟨rfl, _⟩ := g4
      exact ⟨_, by simp [Builtin.cap_, ht, run_underlying hd, goInt], .int _ _, rfl⟩
    · obtain ⟨rfl, rfl⟩ := ret_ok h
      subst g4
      exact ⟨_, by simp [Builtin.cap_, ht, run_underlying hd, goInt], .int _ _, rfl⟩
  case rs sz n off len cap b cap' g1 g2 g3 =>
    cases cap with
    | none => exact (fail_ok h).elim
    | some c =>
      subst g3
      obtain ⟨rfl, rfl⟩ := ret_ok h
      exact ⟨_, by simp [Builtin.cap_, ht, run_underlying hd, goInt], .int _ _, rfl⟩

theorem mm2_sim {mx : Bool} {x y r : V} {cx cy : Value} (hx : VR P K x cx) (hy : VR P K y cy) (h : mm2 mx x y = some r) :
    ∃ cr, (∀ w : World, ((if mx then Builtin.max2 else Builtin.min2) cx cy).run P w = .ok cr w) ∧ VR P K r cr := by
  cases hx <;> cases hy <;> simp only [mm2] at h <;> (try cases h)
  rename_i k a k' b
  cases mx <;> exact ⟨_, fun w => rfl, .int _ _⟩

theorem mmAll_sim {mx : Bool} : ∀ {xs : List V} {x r : V} {cx : Value} {cxs : List Value}, VR P K x cx → VRL P K xs cxs → mmAll mx x xs = some r →
    ∃ cr, (∀ w : World, (cxs.foldlM (if mx then Builtin.max2 else Builtin.min2) cx).run P w = .ok cr w) ∧ VR P K r cr
  | [], x, r, cx, cxs, hx, hxs, h => by
    cases hxs
    simp only [mmAll, Option.some.injEq] at h; subst h
    exact ⟨cx, fun w => by simp, hx⟩
  | y :: xs, x, r, cx, cxs, hx, hxs, h => by
    cases hxs; rename_i cy cxs hy hxs
    simp only [mmAll] at h
    cases hz : mm2 mx x y with
    | none => rw [hz] at h; cases h
    | some z =>
      rw [hz] at h
      obtain ⟨cz, a1, a2⟩ := mm2_sim hx hy hz
      obtain ⟨cr, b1, b2⟩ := mmAll_sim a2 hxs h
      exact ⟨cr, fun w => by simp only [List.foldlM_cons]; simp [a1, b1], b2⟩

theorem ext_sim {vs : List V} {v : V} {i : Nat} {cx : Value} (hx : VR P K (.tup vs) cx) (h : vs[i]? = some v) : ∃ cv, (∀ w : World, (Instr.extract cx i).run P w = .ok cv w) ∧ VR P K v cv := by
  cases hx; rename_i cs' hl
  obtain ⟨cv, a1, a2⟩ := hl.get i v h
  refine ⟨cv, fun w => ?_, a2⟩
  simp only [Array.getElem?_toList] at a1
  simp [Instr.extract, a1]

theorem tup2 {K : Kr} {a b : V} {ca cb : Value} (ha : VR P K a ca) (hb : VR P K b cb) : VR P K (.tup [a, b]) (.tuple #[ca, cb]) := .tup _ _ (.cons _ _ _ _ ha (.cons _ _ _ _ hb .nil))

theorem tass_sim {t xt : TypeId} {d : TypeDesc} (hd : P.underlying t = some d) (hn : ∀ ms, d ≠ .interface ms) {z : V} (hz : zeroA P t = some z) {ok : Bool} (R : Rel P W0 base L K s.get s.next w) {x : V} {cx : Value} (hx : VR P K x cx) :
    Sims P W0 base L (Instr.typeAssert cx xt t ok) (opTassC t z ok x s) K s w := by
  intro v s' h hL
  unfold opTassC at h
  obtain ⟨cz, z1, z2, z3⟩ := zeroA_spec (P := P) hz K w
  cases hx <;> simp only at h <;> (try (exact (fail_ok h).elim))
  case iface u v1 v' hv =>
    unfold opTass at h
    by_cases hu : u = t
    · subst hu
      rw [if_pos (by simp)] at h
      obtain ⟨rfl, rfl⟩ := ret_ok h
      cases ok with
      | true => exact ⟨.tuple #[v', .bool true], w, K, by cases d <;> first | exact absurd rfl (hn _) | simp [Instr.typeAssert, run_underlying hd], .refl _ _ _, tup2 hv (.bool _), R⟩
      | false => exact ⟨v', w, K, by cases d <;> first | exact absurd rfl (hn _) | simp [Instr.typeAssert, run_underlying hd], .refl _ _ _, hv, R⟩
    · rw [if_neg (by simpa using hu)] at h
      cases ok with
      | false => cases h
      | true =>
        obtain ⟨rfl, rfl⟩ := ret_ok h
        exact ⟨.tuple #[cz, .bool false], w, K, by cases d <;> first | exact absurd rfl (hn _) | simp [Instr.typeAssert, run_underlying hd, hu, z1], .refl _ _ _, tup2 z2 (.bool _), R⟩
  case nili =>
    unfold opTass at h
    rw [if_neg (by simp)] at h
    cases ok with
    | false => cases h
    | true =>
      obtain ⟨rfl, rfl⟩ := ret_ok h
      exact ⟨.tuple #[cz, .bool false], w, K, by cases d <;> first | exact absurd rfl (hn _) | simp [Instr.typeAssert, run_underlying hd, z1], .refl _ _ _, tup2 z2 (.bool _), R⟩

theorem tassi_sim {t xt : TypeId} {want : Array (String × TypeId)} (hd : P.underlying t = some (.interface want)) {z : V} (hz : zeroA P t = some z) {ok : Bool} {yes no : List TypeId}
    (hy : ∀ u ∈ yes, ∃ i, P.info? u = some i ∧ Instr.missingMethod want i.methods = none) (hno : ∀ u ∈ no, ∃ i m, P.info? u = some i ∧ Instr.missingMethod want i.methods = some m)
    (R : Rel P W0 base L K s.get s.next w) {x : V} {cx : Value} (hx : VR P K x cx) :
    Sims P W0 base L (Instr.typeAssert cx xt t ok) (opTassI yes no z ok x s) K s w := by
  intro v s' h hL
  unfold opTassI at h
  obtain ⟨cz, z1, z2, z3⟩ := zeroA_spec (P := P) hz K w
  have hinfo : ∀ {u : TypeId} {i : TypeInfo}, P.info? u = some i → ∀ w : World, (typeInfo u).run P w = .ok i w := fun hi w => by simp [typeInfo, hi]
  cases hx <;> simp only at h <;> (try (exact (fail_ok h).elim))
  case iface u v1 v' hv =>
    split at h
    · rename_i hu
      obtain ⟨i, hi, hm⟩ := hy u (by simpa using hu)
      unfold opTass at h
      rw [if_pos rfl] at h
      obtain ⟨rfl, rfl⟩ := ret_ok h
      cases ok with
      | true => exact ⟨.tuple #[.iface u v', .bool true], w, K, by simp [Instr.typeAssert, run_underlying hd, hinfo hi, hm], .refl _ _ _, tup2 (.iface _ _ _ hv) (.bool _), R⟩
      | false => exact ⟨.iface u v', w, K, by simp [Instr.typeAssert, run_underlying hd, hinfo hi, hm], .refl _ _ _, .iface _ _ _ hv, R⟩
    · split at h
      · rename_i hu
        obtain ⟨i, m, hi, hm⟩ := hno u (by simpa using hu)
        unfold opTass at h
        rw [if_neg (by simp)] at h
        cases ok with
        | false => cases h
        | true =>
          obtain ⟨rfl, rfl⟩ := ret_ok h
          exact ⟨.tuple #[cz, .bool false], w, K, by simp [Instr.typeAssert, run_underlying hd, hinfo hi, hm, z1], .refl _ _ _, tup2 z2 (.bool _), R⟩
      · cases h
  case nili =>
    unfold opTass at h
    rw [if_neg (by simp)] at h
    cases ok with
    | false => cases h
    | true =>
      obtain ⟨rfl, rfl⟩ := ret_ok h
      exact ⟨.tuple #[cz, .bool false], w, K, by simp [Instr.typeAssert, run_underlying hd, z1], .refl _ _ _, tup2 z2 (.bool _), R⟩
end
end Go.Ab
