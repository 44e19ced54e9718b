/-
  DERIVED. Each operation of the abstract machine, held against the model's: maps and what ranges over them.
-/
import Derived.Test.YtopdplibpganbaaGreatDoorAbOps11
set_option linter.unusedSimpArgs false
set_option linter.unusedVariables false
namespace Go.Ab
open Go.RowKit

/-- Every end that the abstract answer leaves open. -/
inductive R.All {α : Type} (Q : α → St → Prop) (Qp : V → St → Prop) : R α → Prop
  | ok (a : α) (s : St) : Q a s → R.All Q Qp (.ok a s)
  | pan (v : V) (s : St) : Qp v s → R.All Q Qp (.pan v s)
  | ch (n : Nat) (k : Nat → R α) : (∀ i, i < n → R.All Q Qp (k i)) → R.All Q Qp (.ch n k)

section
variable {P : Program} {W0 : World} {base L : Nat} {K : Kr} {s s' : St} {w : World}

def EntR (P : Program) (K : Kr) (e : Ent) (ce : MapEntry) : Prop := VR P K e.k ce.key ∧ VR P K e.v ce.val ∧ ce.born = e.born

theorem EntsR.cons_iff {e : Ent} {es : List Ent} {ce : MapEntry} {ces : List MapEntry} : EntsR P K (e :: es) (ce :: ces) ↔ EntR P K e ce ∧ EntsR P K es ces := by
  constructor
  · intro h
    refine ⟨?_, by have := h.1; simpa using this, fun i e' he => ?_⟩
    · obtain ⟨ce', a1, a2⟩ := h.2 0 e rfl
      cases a1; exact a2
    · obtain ⟨ce', a1, a2⟩ := h.2 (i + 1) e' he
      exact ⟨ce', a1, a2⟩
  · rintro ⟨h1, h2, h3⟩
    refine ⟨by simp [h2], fun i e' he => ?_⟩
    cases i with
    | zero => cases he; exact ⟨ce, rfl, h1⟩
    | succ i => exact h3 i e' he

theorem EntsR.nil_left {ces : List MapEntry} (h : EntsR P K [] ces) : ces = [] := List.eq_nil_of_length_eq_zero h.1
theorem EntsR.nil : EntsR P K [] [] := ⟨rfl, fun i e h => by simp at h⟩
theorem EntsR.exists_cons {e : Ent} {es : List Ent} {ces : List MapEntry} (h : EntsR P K (e :: es) ces) : ∃ ce r, ces = ce :: r ∧ EntR P K e ce ∧ EntsR P K es r := by
  cases ces with
  | nil => have := h.1; simp at this
  | cons ce r => exact ⟨ce, r, rfl, EntsR.cons_iff.1 h⟩

theorem EntsR.filter {p : Nat → Bool} : ∀ {es : List Ent} {ces : List MapEntry}, EntsR P K es ces → EntsR P K (es.filter fun e => p e.born) (ces.filter fun e => p e.born)
  | [], ces, h => by rw [h.nil_left]; exact .nil
  | e :: es, ces, h => by
    obtain ⟨ce, r, rfl, h1, h2⟩ := h.exists_cons
    have ih := EntsR.filter (p := p) h2
    simp only [List.filter_cons, h1.2.2]
    cases p e.born with
    | true => simp only [if_true]; exact EntsR.cons_iff.2 ⟨h1, ih⟩
    | false => simpa using ih

theorem EntsR.append : ∀ {es : List Ent} {ces : List MapEntry} {es' : List Ent} {ces' : List MapEntry}, EntsR P K es ces → EntsR P K es' ces' → EntsR P K (es ++ es') (ces ++ ces')
  | [], ces, es', ces', h, k => by rw [h.nil_left]; exact k
  | e :: es, ces, es', ces', h, k => by
    obtain ⟨ce, r, rfl, h1, h2⟩ := h.exists_cons
    exact EntsR.cons_iff.2 ⟨h1, EntsR.append h2 k⟩

theorem EntsR.eraseIdx : ∀ {es : List Ent} {ces : List MapEntry} (i : Nat), EntsR P K es ces → EntsR P K (es.eraseIdx i) (ces.eraseIdx i)
  | [], ces, i, h => by rw [h.nil_left]; exact .nil
  | e :: es, ces, i, h => by
    obtain ⟨ce, r, rfl, h1, h2⟩ := h.exists_cons
    cases i with
    | zero => exact h2
    | succ i => exact EntsR.cons_iff.2 ⟨h1, EntsR.eraseIdx i h2⟩

theorem EntsR.setAt {k v : V} {ck cv : Value} (hk : VR P K k ck) (hv : VR P K v cv) : ∀ {es : List Ent} {ces : List MapEntry} (i : Nat), EntsR P K es ces →
    EntsR P K (setAt es i k v) (ces.modify i fun e => { e with key := ck, val := cv })
  | [], ces, i, h => by rw [h.nil_left]; simp [Ab.setAt]; exact .nil
  | e :: es, ces, i, h => by
    obtain ⟨ce, r, rfl, h1, h2⟩ := h.exists_cons
    cases i with
    | zero => simp only [Ab.setAt, List.modify_zero_cons]; exact EntsR.cons_iff.2 ⟨⟨hk, hv, h1.2.2⟩, h2⟩
    | succ i => simp only [Ab.setAt, List.modify_succ_cons]; exact EntsR.cons_iff.2 ⟨h1, EntsR.setAt hk hv i h2⟩

theorem EntsR.all {p : Nat → Bool} : ∀ {es : List Ent} {ces : List MapEntry}, EntsR P K es ces → (ces.all fun e => p e.born) = es.all fun e => p e.born
  | [], ces, h => by rw [h.nil_left]; rfl
  | e :: es, ces, h => by
    obtain ⟨ce, r, rfl, h1, h2⟩ := h.exists_cons
    simp only [List.all_cons, h1.2.2, EntsR.all h2]

theorem EntsR.find {p : Nat → Bool} : ∀ {es : List Ent} {ces : List MapEntry}, EntsR P K es ces →
    (match es.find? fun e => p e.born with
      | none => (ces.find? fun e => p e.born) = none
      | some e => ∃ ce, (ces.find? fun e => p e.born) = some ce ∧ EntR P K e ce)
  | [], ces, h => by rw [h.nil_left]; rfl
  | e :: es, ces, h => by
    obtain ⟨ce, r, rfl, h1, h2⟩ := h.exists_cons
    have ih := EntsR.find (p := p) h2
    simp only [List.find?_cons, h1.2.2]
    cases p e.born with
    | true => exact ⟨ce, rfl, h1⟩
    | false => exact ih

theorem findK_sim {kd : Kd} {d : TypeDesc} (hd : kd.fits d = true) {k : V} {ck : Value} (hk : VR P K k ck) : ∀ {es : List Ent} {ces : List MapEntry} {i : Nat} {r : Option (Nat × V)}, EntsR P K es ces → findK kd k es i = some r →
    (r = none ∧ Instr.findNow d ck ces i = some none) ∨
    ∃ j v cv ce, r = some (i + j, v) ∧ Instr.findNow d ck ces i = some (some (i + j, cv)) ∧ VR P K v cv ∧ ces[j]? = some ce ∧ Instr.sameBits 10000 ce.key ck = true
  | [], ces, i, r, h, e => by
    rw [h.nil_left]
    simp only [findK, Option.some.injEq] at e
    exact .inl ⟨e.symm, rfl⟩
  | e1 :: es, ces, i, r, h, e => by
    obtain ⟨ce, rr, rfl, h1, h2⟩ := h.exists_cons
    simp only [findK] at e
    cases hq : keq kd k e1.k with
    | none => rw [hq] at e; cases e
    | some b =>
      rw [hq] at e
      obtain ⟨a1, a2, _⟩ := keq_sim (w := default) hk h1.1 hq hd
      cases b with
      | true =>
        simp only [Option.some.injEq] at e; subst e
        exact .inr ⟨0, _, ce.val, ce, rfl, by simp [Instr.findNow, a1], h1.2.1, rfl, a2 rfl⟩
      | false =>
        rcases findK_sim hd hk h2 e with ⟨b1, b2⟩ | ⟨j, v, cv, ce', b1, b2, b3, b4, b5⟩
        · exact .inl ⟨b1, by simp [Instr.findNow, a1, b2]⟩
        · exact .inr ⟨j + 1, v, cv, ce', by rw [b1]; congr 2; omega, by simp only [Instr.findNow, a1, b2]; congr 3; omega, b3, by simpa using b4, b5⟩

theorem run_checkKey' {kd : Kd} {kt : TypeId} {d : TypeDesc} (hd : P.underlying kt = some d) (hk : kd.fits d = true) (e : Bool) (n : Nat) (k : Value) (w : World) : (Instr.checkKey e (n + 1) kt k).run P w = .ok () w := by
  cases kd <;> cases d <;> simp only [Kd.fits, Bool.false_eq_true] at hk <;> cases k <;> simp [Instr.checkKey, run_underlying hd]

theorem run_findKey' {kt : TypeId} {d : TypeDesc} (hd : P.underlying kt = some d) {ck : Value} {ces : List MapEntry} {r : Option (Nat × Value)} (h : Instr.findNow d ck ces 0 = some r) (w : World) : (Instr.findKey kt ck ces).run P w = .ok r w := by
  simp [Instr.findKey, run_underlying hd, h]

theorem opLook_sim {t kt e : TypeId} (ht : P.underlying t = some (.map kt e)) {d : TypeDesc} (hd : P.underlying kt = some d) {kd : Kd} (hk : kd.fits d = true) {z : V} (hz : zeroA P e = some z) {ok : Bool}
    (R : Rel P W0 base L K s.get s.next w) {x k : V} {cx ck : Value} (hx : VR P K x cx) (hkv : VR P K k ck) : Sims P W0 base L (Instr.lookup t cx ck ok) (opLook kd z x k ok s) K s w := by
  intro v s' h hL
  unfold opLook at h
  obtain ⟨⟨es, c⟩, s1, h1, h2⟩ := bind_ok h
  obtain ⟨r, s2, h3, h4⟩ := bind_ok h2
  obtain ⟨h5, h5s⟩ := need_ok h3
  subst h5s
  obtain ⟨rfl, rfl⟩ := ret_ok h4
  obtain ⟨cz, z1, z2, z3⟩ := zeroA_spec (P := P) hz K w
  rcases mapOf_ok h1 with ⟨rfl, h3, rfl⟩ | ⟨n', rfl, h6, h7, h8⟩
  · cases h3
    cases hx
    simp only [findK, Option.some.injEq] at h5
    subst h5
    have hf : (Instr.findKey kt ck []).run P w = .ok none w := run_findKey' hd rfl w
    cases ok with
    | true => exact ⟨.tuple #[cz, .bool false], w, K, by simp [Instr.lookup, run_underlying ht, run_checkKey' hd hk, hf, z1], .refl _ _ _, tup2 z2 (.bool _), R⟩
    | false => exact ⟨cz, w, K, by simp [Instr.lookup, run_underlying ht, run_checkKey' hd hk, hf, z1], .refl _ _ _, z2, R⟩
  · cases hx; rename_i b hb
    obtain ⟨hbase, ces, hw, he⟩ := R.mapAt h6 hb
    have R1 := R.like h7 h8
    rcases findK_sim hk hkv he h5 with ⟨rfl, a2⟩ | ⟨j, v1, cv1, ce, rfl, a2, a3, a4, a5⟩
    · cases ok with
      | true => exact ⟨.tuple #[cz, .bool false], w, K, by simp [Instr.lookup, run_underlying ht, run_get hw rfl, run_checkKey' hd hk, run_findKey' hd a2, z1], by rw [h8]; exact .refl _ _ _, tup2 z2 (.bool _), R1⟩
      | false => exact ⟨cz, w, K, by simp [Instr.lookup, run_underlying ht, run_get hw rfl, run_checkKey' hd hk, run_findKey' hd a2, z1], by rw [h8]; exact .refl _ _ _, z2, R1⟩
    · cases ok with
      | true => exact ⟨.tuple #[cv1, .bool true], w, K, by simp [Instr.lookup, run_underlying ht, run_get hw rfl, run_checkKey' hd hk, run_findKey' hd a2], by rw [h8]; exact .refl _ _ _, tup2 a3 (.bool _), R1⟩
      | false => exact ⟨cv1, w, K, by simp [Instr.lookup, run_underlying ht, run_get hw rfl, run_checkKey' hd hk, run_findKey' hd a2], by rw [h8]; exact .refl _ _ _, a3, R1⟩

theorem opMapup_sim {t kt e : TypeId} (ht : P.underlying t = some (.map kt e)) {d : TypeDesc} (hd : P.underlying kt = some d) {kd : Kd} (hk : kd.fits d = true)
    (R : Rel P W0 base L K s.get s.next w) {m k x : V} {cm ck cx : Value} (hm : VR P K m cm) (hkv : VR P K k ck) (hx : VR P K x cx) {v : V} (h : opMapup kd m k x s = .ok v s') :
    v = undef ∧ ∃ w', (Instr.mapUpdate t cm ck cx).run P w = .ok () w' ∧ Rel P W0 base L K s'.get s'.next w' ∧ s'.next = s.next := by
  unfold opMapup at h
  cases hm <;> simp only at h <;> (try (exact (fail_ok h).elim))
  rename_i n b hb
  obtain ⟨⟨es, c⟩, s1, h1, h2⟩ := bind_ok h
  rcases mapOf_ok h1 with ⟨h3, _⟩ | ⟨n', h3, h4, h5, h6⟩
  · cases h3
  cases h3
  obtain ⟨r, s2, h7, h8⟩ := bind_ok h2
  obtain ⟨h9, h9s⟩ := need_ok h7
  subst h9s
  obtain ⟨hbase, ces, hw, he⟩ := R.mapAt h4 hb
  have hget1 : s2.get = s.get := by funext k; simp only [St.get, h5]
  rcases findK_sim hk hkv he h9 with ⟨rfl, a2⟩ | ⟨j, v1, cv1, ce, rfl, a2, a3, a4, a5⟩
  · obtain ⟨u, s3, h10, h11⟩ := bind_ok h8
    obtain ⟨h12, h13⟩ := setO_ok h10
    obtain ⟨rfl, rfl⟩ := ret_ok h11
    obtain ⟨w', r1, r2⟩ := map_core (es' := es ++ [⟨k, x, c⟩]) (c' := c + 1) (ces' := ces.push { key := ck, val := cx, born := c }) R h4 hb hw hbase
      (by rw [Array.toList_push]; exact he.append (EntsR.cons_iff.2 ⟨⟨hkv, hx, rfl⟩, .nil⟩))
    refine ⟨rfl, w', ?_, by rw [h12, h13, hget1, h6]; exact r2, by rw [h13, h6]⟩
    simp [Instr.mapUpdate, run_underlying ht, run_get hw rfl, run_checkKey' hd hk, run_findKey' hd a2, r1]
  · simp only [Nat.zero_add] at h8 a2
    obtain ⟨u, s3, h10, h11⟩ := bind_ok h8
    obtain ⟨h12, h13⟩ := setO_ok h10
    obtain ⟨rfl, rfl⟩ := ret_ok h11
    obtain ⟨w', r1, r2⟩ := map_core (es' := setAt es j k x) (c' := c) (ces' := ces.modify j fun e => { e with key := ck, val := cx }) R h4 hb hw hbase
      (by rw [Array.toList_modify]; exact he.setAt hkv hx j)
    refine ⟨rfl, w', ?_, by rw [h12, h13, hget1, h6]; exact r2, by rw [h13, h6]⟩
    have hj : (ces[j]?).map (·.key) = some ce.key := by rw [← Array.getElem?_toList, a4]; rfl
    have hstay : (Instr.keyThatStays (((ces[j]?).map (·.key)).getD ck) ck).run P w = .ok ck w := by
      rw [hj]; simp [Instr.keyThatStays, a5]
    simp [Instr.mapUpdate, run_underlying ht, run_get hw rfl, run_checkKey' hd hk, run_findKey' hd a2, hstay, r1]

theorem opDel_sim {ts : Array TypeId} {t kt e ty : TypeId} (hts : ts[0]? = some t) (ht : P.underlying t = some (.map kt e)) {d : TypeDesc} (hd : P.underlying kt = some d) {kd : Kd} (hk : kd.fits d = true)
    (R : Rel P W0 base L K s.get s.next w) {m k : V} {cm ck : Value} (hm : VR P K m cm) (hkv : VR P K k ck) {v : V} (h : opDel kd m k s = .ok v s') :
    v = undef ∧ ∃ w', (Builtin.delete_ ts ty #[cm, ck]).run P w = .ok (.tuple #[]) w' ∧ Rel P W0 base L K s'.get s'.next w' ∧ s'.next = s.next := by
  unfold opDel at h
  cases hm <;> simp only at h <;> (try (exact (fail_ok h).elim))
  case nilm =>
    obtain ⟨rfl, rfl⟩ := ret_ok h
    exact ⟨rfl, w, by simp [Builtin.delete_, hts, run_underlying ht, run_checkKey' hd hk], R, rfl⟩
  rename_i n b hb
  obtain ⟨⟨es, c⟩, s1, h1, h2⟩ := bind_ok h
  rcases mapOf_ok h1 with ⟨h3, _⟩ | ⟨n', h3, h4, h5, h6⟩
  · cases h3
  cases h3
  obtain ⟨r, s2, h7, h8⟩ := bind_ok h2
  obtain ⟨h9, h9s⟩ := need_ok h7
  subst h9s
  obtain ⟨hbase, ces, hw, he⟩ := R.mapAt h4 hb
  have hget1 : s2.get = s.get := by funext k; simp only [St.get, h5]
  rcases findK_sim hk hkv he h9 with ⟨rfl, a2⟩ | ⟨j, v1, cv1, ce, rfl, a2, a3, a4, a5⟩
  · obtain ⟨u, s3, h10, h11⟩ := bind_ok h8
    obtain ⟨h12, h13⟩ := setO_ok h10
    obtain ⟨rfl, rfl⟩ := ret_ok h11
    obtain ⟨w', r1, r2⟩ := map_core (es' := es) (c' := c) (ces' := ces) R h4 hb hw hbase he
    refine ⟨rfl, w', ?_, by rw [h12, h13, hget1, h6]; exact r2, by rw [h13, h6]⟩
    simp [Builtin.delete_, hts, run_underlying ht, run_get hw rfl, run_checkKey' hd hk, run_findKey' hd a2, r1]
  · simp only [Nat.zero_add] at h8 a2
    obtain ⟨u, s3, h10, h11⟩ := bind_ok h8
    obtain ⟨h12, h13⟩ := setO_ok h10
    obtain ⟨rfl, rfl⟩ := ret_ok h11
    obtain ⟨w', r1, r2⟩ := map_core (es' := es.eraseIdx j) (c' := c) (ces' := ces.eraseIdxIfInBounds j) R h4 hb hw hbase
      (by rw [Array.toList_eraseIdxIfInBounds]; exact he.eraseIdx j)
    refine ⟨rfl, w', ?_, by rw [h12, h13, hget1, h6]; exact r2, by rw [h13, h6]⟩
    simp [Builtin.delete_, hts, run_underlying ht, run_get hw rfl, run_checkKey' hd hk, run_findKey' hd a2, r1]

theorem run_newObj' (o : Obj) (w : World) : (newObj o).run P w = .ok w.heap.size (w.alloc o) := rfl

/-- A map, made. -/
theorem newMap_sim {t : TypeId} {kt e : TypeId} (ht : P.underlying t = some (.map kt e)) {r : Option V} {cr : Option Value} (hr : (r = none ∧ cr = none) ∨ ∃ k i, r = some (.int k i) ∧ cr = some (.int k i))
    (R : Rel P W0 base L K s.get s.next w) : Sims P W0 base L (Instr.makeMap t cr) (opMkmap r s) K s w := by
  intro v s' h hL
  unfold opMkmap at h
  have h' : ((newO (.map [] 0)).bind fun n => M.ret (V.map n)) s = .ok v s' := by
    rcases hr with ⟨rfl, _⟩ | ⟨k, i, rfl, _⟩ <;> exact h
  obtain ⟨n, s1, h1, h2⟩ := bind_ok h'
  obtain ⟨rfl, h3, h4⟩ := newO_ok h1
  obtain ⟨rfl, rfl⟩ := ret_ok h2
  obtain ⟨k1, k2⟩ := newObj_core (s := s) (w := w) R (by omega) (o := .map [] 0) (c := .map #[] 0) rfl (fun c t fz e => by cases e) (fun K' hK' => ⟨R.above, #[], alloc_at w _, .nil⟩)
  refine ⟨.map (some w.heap.size), _, _, ?_, by rw [h4]; exact k1, .map _ _ (by simp [Kr.addBlk]), by rw [h3, h4]; exact k2⟩
  rcases hr with ⟨rfl, rfl⟩ | ⟨k, i, rfl, rfl⟩
  · simp [Instr.makeMap, run_newObj']
  · simp [Instr.makeMap, run_underlying ht, asInt, asIntOf, run_newObj']

theorem opRange_sim {t : TypeId} {d : TypeDesc} (ht : P.underlying t = some d) {isMap : Bool} (hd : match isMap with | false => d = .string | true => ∃ k e, d = .map k e)
    (R : Rel P W0 base L K s.get s.next w) {x : V} {cx : Value} (hx : VR P K x cx) : Sims P W0 base L (Instr.range t cx) (opRange isMap x s) K s w := by
  intro v s' h hL
  unfold opRange at h
  cases isMap with
  | false =>
    subst hd
    cases hx <;> simp only at h <;> (try (exact (fail_ok h).elim))
    rename_i st bs hbs
    obtain ⟨n, s1, h1, h2⟩ := bind_ok h
    obtain ⟨rfl, h3, h4⟩ := newO_ok h1
    obtain ⟨rfl, rfl⟩ := ret_ok h2
    obtain ⟨k1, k2⟩ := newObj_core (s := s) (w := w) R (by omega) (o := .sit st 0) (c := .stringIter bs 0) rfl (fun c t fz e => by cases e) (fun K' hK' => ⟨R.above, bs, alloc_at w _, hbs⟩)
    refine ⟨.pointer (some ⟨w.heap.size, 0, none⟩), _, _, ?_, by rw [h4]; exact k1, .ptr _ _ _ (by simp [Kr.addBlk]), by rw [h3, h4]; exact k2⟩
    simp [Instr.range, run_underlying ht, run_newObj']
  | true =>
    obtain ⟨k, e, rfl⟩ := hd
    cases hx <;> simp only at h <;> (try (exact (fail_ok h).elim))
    case nilm =>
      obtain ⟨n, s1, h1, h2⟩ := bind_ok h
      obtain ⟨rfl, h3, h4⟩ := newO_ok h1
      obtain ⟨rfl, rfl⟩ := ret_ok h2
      obtain ⟨k1, k2⟩ := newObj_core (s := s) (w := w) R (by omega) (o := .mit none 0 [] 0) (c := .mapIter none 0 #[] 0) rfl (fun c t fz e => by cases e) (fun K' hK' => ⟨R.above, none, #[], alloc_at w _, rfl, rfl⟩)
      refine ⟨.pointer (some ⟨w.heap.size, 0, none⟩), _, _, ?_, by rw [h4]; exact k1, .ptr _ _ _ (by simp [Kr.addBlk]), by rw [h3, h4]; exact k2⟩
      simp [Instr.range, run_underlying ht, run_newObj']
    case map m b hb =>
      obtain ⟨⟨es, c⟩, s0, h0, h⟩ := bind_ok h
      rcases mapOf_ok h0 with ⟨h5, _⟩ | ⟨n', h5, h6, h7, h8⟩
      · cases h5
      cases h5
      obtain ⟨hbase, ces, hw, he⟩ := R.mapAt h6 hb
      have R0 := R.like h7 h8
      obtain ⟨n, s1, h1, h2⟩ := bind_ok h
      obtain ⟨rfl, h3, h4⟩ := newO_ok h1
      obtain ⟨rfl, rfl⟩ := ret_ok h2
      obtain ⟨k1, k2⟩ := newObj_core (s := s0) (w := w) R0 (by omega) (o := .mit (some m) c [] c) (c := .mapIter (some b) c #[] c) rfl (fun c t fz e => by cases e)
        (fun K' hK' => ⟨R.above, some b, #[], alloc_at w _, rfl, b, rfl, hK'.blk _ _ hb⟩)
      refine ⟨.pointer (some ⟨w.heap.size, 0, none⟩), _, _, ?_, by rw [h4, ← h8]; exact k1, .ptr _ _ _ (by simp [Kr.addBlk]), by rw [h3, h4]; exact k2⟩
      simp [Instr.range, run_underlying ht, run_get hw rfl, run_newObj']

theorem bytes_mk {bs : ByteArray} {s : List UInt8} (h : bs.data.toList = s) : bs = ⟨s.toArray⟩ := by
  subst h
  cases bs
  simp

/-- A step over a string. -/
theorem opNextStr_sim {ty : TypeId} (R : Rel P W0 base L K s.get s.next w) {x : V} {cx : Value} (hx : VR P K x cx) : Sims P W0 base L (Instr.next cx true ty) (opNext true x s) K s w := by
  intro v s' h hL
  unfold opNext at h
  cases hx <;> simp only at h <;> (try (exact (fail_ok h).elim))
  rename_i n off b hb
  cases off with
  | succ off => cases h
  | zero =>
  obtain ⟨o, s1, h1, h2⟩ := bind_ok h
  obtain ⟨rfl, h3, h4⟩ := getO_ok h1
  cases hg : s.get n with
  | none => rw [hg] at h2; cases h2
  | some o =>
    rw [hg] at h2
    obtain ⟨b', p1, p2⟩ := R.obj n o hg (by cases o <;> first | rfl | cases h2)
    rw [p1] at hb; cases hb
    have R1 := R.like h3 h4
    have hget1 : s1.get = s.get := by funext k; simp only [St.get, h3]
    cases o with
    | cells cs ro => cases h2
    | map es c => cases h2
    | tip => cases h2
    | mit m since seen last => cases m <;> cases h2
    | sit st pos =>
      obtain ⟨hbase, bs, hw, hbs⟩ := p2
      simp only [Bool.not_true, Bool.false_eq_true, if_false] at h2
      have hsize : bs.size = st.length := by rw [← hbs]; exact (Array.length_toList).symm
      split at h2
      · rename_i hlt
        obtain ⟨u, s2, h5, h6⟩ := bind_ok h2
        obtain ⟨h7, h8⟩ := setO_ok h5
        obtain ⟨rfl, rfl⟩ := ret_ok h6
        rw [← bytes_mk hbs] at h7
        have R2 := R1.write (o' := .sit st (pos + (Utf8.decode bs pos).2)) (by rw [hget1]; exact hg) rfl rfl p1 hbase (touch_set hw (fun _ _ _ h => by cases h)) rfl rfl
          ⟨hbase, bs, set_at hw, hbs⟩
        rw [← bytes_mk hbs]
        refine ⟨.tuple #[.bool true, goInt pos, .int .i32 (Utf8.decode bs pos).1], _, K, ?_, by rw [h8, h4]; exact .refl _ _ _, .tup _ _ (.cons _ _ _ _ (.bool _) (.cons _ _ _ _ (.int _ _) (.cons _ _ _ _ (.int _ _) .nil))), by rw [h7, h8]; exact R2⟩
        simp [Instr.next, run_get hw rfl, run_set hw rfl, hsize, hlt]
      · rename_i hlt
        obtain ⟨rfl, rfl⟩ := ret_ok h2
        refine ⟨.tuple #[.bool false], w, K, ?_, by rw [h4]; exact .refl _ _ _, .tup _ _ (.cons _ _ _ _ (.bool _) .nil), R1⟩
        simp [Instr.next, run_get hw rfl, hsize, hlt]


def R.det {α : Type} (r : R α) : Prop := (∃ a s, r = .ok a s) ∨ ∃ w, r = .fail w

theorem all_det {α β : Type} {m : M α} {f : α → M β} {Q : β → St → Prop} {Qp : V → St → Prop} (h : ((m.bind f) s).All Q Qp) (hd : (m s).det) : ∃ a s1, m s = .ok a s1 ∧ (f a s1).All Q Qp := by
  unfold M.bind at h
  rcases hd with ⟨a, s1, e⟩ | ⟨w, e⟩
  · rw [e] at h; exact ⟨a, s1, e, h⟩
  · rw [e] at h; cases h

theorem all_ret {α : Type} {a : α} {Q : α → St → Prop} {Qp : V → St → Prop} (h : ((M.ret a) s).All Q Qp) : Q a s := by cases h; assumption
theorem all_fail {α : Type} {x : String} {Q : α → St → Prop} {Qp : V → St → Prop} (h : ((M.fail x : M α) s).All Q Qp) : False := by cases h

def Dt {α : Type} (m : M α) : Prop := ∀ s, (m s).det
theorem Dt.ret {α : Type} (a : α) : Dt (M.ret a) := fun s => .inl ⟨a, s, rfl⟩
theorem Dt.fail {α : Type} (w : String) : Dt (M.fail w : M α) := fun s => .inr ⟨w, rfl⟩
theorem Dt.bind {α β : Type} {m : M α} {f : α → M β} (h : Dt m) (k : ∀ a, Dt (f a)) : Dt (m.bind f) := by
  intro s
  rcases h s with ⟨a, s1, e⟩ | ⟨w, e⟩
  · unfold M.bind; rw [e]; exact k a s1
  · unfold M.bind; rw [e]; exact .inr ⟨w, rfl⟩
theorem Dt.getO (n : Nat) : Dt (getO n) := fun s => by
  unfold Ab.getO; split
  · exact .inl ⟨_, _, rfl⟩
  · exact .inr ⟨_, rfl⟩
theorem Dt.setO (n : Nat) (o : Option O) : Dt (setO n o) := fun s => by
  unfold Ab.setO; split
  · exact .inl ⟨_, _, rfl⟩
  · exact .inr ⟨_, rfl⟩
theorem Dt.newO (o : O) : Dt (newO o) := fun s => by
  unfold Ab.newO; split
  · exact .inl ⟨_, _, rfl⟩
  · exact .inr ⟨_, rfl⟩
theorem Dt.need {α : Type} (w : String) (a : Option α) : Dt (need w a) := by
  cases a
  · exact .fail _
  · exact .ret _
theorem Dt.mapOf (x : V) : Dt (mapOf x) := by
  unfold Ab.mapOf
  split
  · exact .ret _
  · refine .bind (.getO _) fun o => ?_
    split
    · exact .ret _
    · exact .fail _
  · exact .fail _

theorem run_mapNext (n : Nat) (w : World) : ∃ j w1, (choose (.mapNext n)).run P w = .ok j w1 ∧ (w1 = w ∨ w1 = w.drew) ∧ ((n ≤ 1 ∧ j = 0) ∨ (1 < n ∧ j < n)) := by
  by_cases h : n ≤ 1
  · refine ⟨0, w, ?_, .inl rfl, .inl ⟨h, rfl⟩⟩
    show (if decide (n ≤ 1) = true then _ else _) = _
    rw [if_pos (by simpa using h)]; rfl
  · refine ⟨w.tape w.drawn (.mapNext n) % n, w.drew, ?_, .inr rfl, .inr ⟨by omega, Nat.mod_lt _ (by omega)⟩⟩
    show (if decide (n ≤ 1) = true then _ else _) = _
    rw [if_neg (by simpa using h)]; rfl

theorem EntsR.get {es : List Ent} {ces : List MapEntry} (h : EntsR P K es ces) {i : Nat} {e : Ent} (he : es[i]? = some e) : ∃ ce, ces[i]? = some ce ∧ EntR P K e ce := h.2 i e he

def CandR (P : Program) (K : Kr) (c : Option Ent) (cc : Option MapEntry) : Prop := match c with
  | none => cc = none
  | some e => ∃ ce, cc = some ce ∧ EntR P K e ce

theorem cands_rel {b : Bool} {es : List Ent} {ces : List MapEntry} (h : EntsR P K es ces) :
    ((if b then [none] else []) ++ ces.map some).length = ((if b then [none] else []) ++ es.map some).length ∧
    ∀ (j : Nat) (c : Option Ent), ((if b then [none] else []) ++ es.map some)[j]? = some c → ∃ cc, ((if b then [none] else []) ++ ces.map some)[j]? = some cc ∧ CandR P K c cc := by
  have key : ∀ (j : Nat) (c : Option Ent), (es.map some)[j]? = some c → ∃ cc, (ces.map some)[j]? = some cc ∧ CandR P K c cc := by
    intro j c hc
    rw [List.getElem?_map] at hc
    cases he : es[j]? with
    | none => rw [he] at hc; cases hc
    | some e =>
      rw [he] at hc
      simp only [Option.map_some, Option.some.injEq] at hc
      subst hc
      obtain ⟨ce, a1, a2⟩ := h.get he
      exact ⟨some ce, by rw [List.getElem?_map, a1]; rfl, ce, rfl, a2⟩
  cases b with
  | false => simp only [Bool.false_eq_true, if_false, List.nil_append]; exact ⟨by simp [h.1], key⟩
  | true =>
    simp only [if_true]
    refine ⟨by simp [h.1], fun j c hc => ?_⟩
    cases j with
    | zero => simp at hc; subst hc; exact ⟨none, rfl, rfl⟩
    | succ j => exact key j c (by simpa using hc)

/-- A step over a map: whatever entry comes next. -/
theorem opNextMap_sim {ty : TypeId} (R : Rel P W0 base L K s.get s.next w) {x : V} {cx : Value} (hx : VR P K x cx) {Q : V → St → Prop} {Qp : V → St → Prop} (h : (opNext false x s).All Q Qp) :
    ∃ v s', Q v s' ∧ ∃ cv w', (Instr.next cx false ty).run P w = .ok cv w' ∧ VR P K v cv ∧ Rel P W0 base L K s'.get s'.next w' ∧ s'.next = s.next := by
  unfold opNext at h
  cases hx <;> simp only at h <;> (try (exact (all_fail h).elim))
  rename_i n off b hb
  cases off with
  | succ off => exact (all_fail h).elim
  | zero =>
  obtain ⟨o, s1, h1, h2⟩ := all_det h (Dt.getO _ _)
  obtain ⟨rfl, h3, h4⟩ := getO_ok h1
  cases hg : s.get n with
  | none => rw [hg] at h2; exact (all_fail (s := s1) h2).elim
  | some o =>
    rw [hg] at h2
    obtain ⟨b', p1, p2⟩ := R.obj n o hg (by cases o <;> first | rfl | exact (all_fail (s := s1) h2).elim)
    rw [p1] at hb; cases hb
    have R1 := R.like h3 h4
    have hget1 : s1.get = s.get := by funext k; simp only [St.get, h3]
    cases o with
    | cells cs ro => exact (all_fail (s := s1) h2).elim
    | map es c => exact (all_fail (s := s1) h2).elim
    | tip => exact (all_fail (s := s1) h2).elim
    | sit st pos => exact (all_fail (s := s1) h2).elim
    | mit m since seen last =>
      obtain ⟨hbase, m', seen', hw, hseen, hm⟩ := p2
      cases m with
      | none =>
        subst hm
        exact ⟨_, _, all_ret h2, .tuple #[.bool false], w, by simp [Instr.next, run_get hw rfl], .tup _ _ (.cons _ _ _ _ (.bool _) .nil), R1, h4⟩
      | some m =>
        obtain ⟨bm, rfl, hbm⟩ := hm
        simp only [Bool.false_eq_true, if_false] at h2
        obtain ⟨⟨es, clock⟩, s2, h5, h6⟩ := all_det h2 (Dt.mapOf _ _)
        rcases mapOf_ok h5 with ⟨e5, _⟩ | ⟨n', e5, h7, h8, h9⟩
        · cases e5
        cases e5
        simp only at h6 h7
        have hget2 : s2.get = s1.get := by funext k; simp only [St.get, h8]
        have R2 := R1.like h8 h9
        obtain ⟨hbase2, ces, hw2, he⟩ := R1.mapAt h7 hbm
        split at h6
        · exact (all_fail h6).elim
        · rename_i hgone
          obtain ⟨left, hleft⟩ : ∃ left, left = es.filter fun e => !seen.contains e.born := ⟨_, rfl⟩
          rw [← hleft] at h6
          have hl : EntsR P K left (ces.toList.filter fun e => !seen.contains e.born) := by rw [hleft]; exact he.filter (p := fun k => !seen.contains k)
          have ho := hl.filter (p := fun k => decide (k < since))
          have hn := hl.filter (p := fun k => decide (k ≥ since))
          have hon := ho.append hn
          generalize hold : (left.filter fun e => decide (e.born < since)) = old at h6 ho hon
          generalize hnew : (left.filter fun e => decide (e.born ≥ since)) = new at h6 hn hon
          generalize hcold : ((ces.toList.filter fun e => !seen.contains e.born).filter fun e => decide (e.born < since)) = cold at ho hon
          generalize hcnew : ((ces.toList.filter fun e => !seen.contains e.born).filter fun e => decide (e.born ≥ since)) = cnew at hn hon
          have hemp : cold.isEmpty = old.isEmpty := by
            have := ho.1
            cases cold <;> cases old <;> simp_all
          have hlist := cands_rel (b := old.isEmpty) hon
          obtain ⟨cands, hcands⟩ : ∃ c, c = (if old.isEmpty then [none] else []) ++ (old ++ new).map some := ⟨_, rfl⟩
          rw [← hcands] at h6 hlist
          obtain ⟨ccands, hccands⟩ : ∃ c : Array (Option MapEntry), c = ((if old.isEmpty then [none] else []) ++ (cold ++ cnew).map some).toArray := ⟨_, rfl⟩
          have hccl : ccands.toList = (if old.isEmpty then [none] else []) ++ (cold ++ cnew).map some := by rw [hccands]
          rw [← hccl] at hlist
          have hsize : ccands.size = cands.length := by
            have := hlist.1; simpa using this
          have hces : ces.toList.isEmpty = es.isEmpty := by
            have := he.1
            cases hx : ces.toList <;> cases es <;> simp_all
          have hgone2 : (!seen'.isEmpty && !ces.isEmpty && ces.all (fun e => decide (e.born ≥ last))) = false := by
            have h1 : seen'.isEmpty = seen.isEmpty := by rw [← hseen, Array.isEmpty_toList]
            have h2 : ces.isEmpty = es.isEmpty := by rw [← hces, Array.isEmpty_toList]
            have h3 : ces.all (fun e => decide (e.born ≥ last)) = es.all (fun e => decide (e.born ≥ last)) := by
              rw [← he.all (p := fun k => decide (k ≥ last)), Array.all_toList]
            rw [h1, h2, h3]
            simpa using hgone
          have hcc : (if ((ces.filter fun e => !seen'.contains e.born).filter fun e => decide (e.born < since)).isEmpty then #[none] else #[]) ++
              (((ces.filter fun e => !seen'.contains e.born).filter fun e => decide (e.born < since)) ++ ((ces.filter fun e => !seen'.contains e.born).filter fun e => decide (e.born ≥ since))).map some = ccands := by
            have hcon : ∀ k, seen'.contains k = seen.contains k := fun k => by rw [← hseen]; simp
            apply Array.toList_inj.1
            rw [hccl, ← hcold, ← hcnew, ← hemp, ← hcold]
            simp only [hcon]
            have hfe : ((ces.filter fun e => !seen.contains e.born).filter fun e => decide (e.born < since)).isEmpty = ((ces.toList.filter fun e => !seen.contains e.born).filter fun e => decide (e.born < since)).isEmpty := by
              rw [← Array.isEmpty_toList, Array.toList_filter, Array.toList_filter]
            rw [hfe]
            cases ((ces.toList.filter fun e => !seen.contains e.born).filter fun e => decide (e.born < since)).isEmpty <;> simp
          have hmodel : ∀ cr w', (do
              match ccands[← choose (.mapNext ccands.size)]? with
              | some (some e) => setObj b (.mapIter (some bm) since (seen'.push e.born) clock); pure (.tuple #[.bool true, e.key, e.val])
              | some none => pure (.tuple #[.bool false])
              | none => stuck "Next: no such candidate" : Sem Value).run P w = .ok cr w' → (Instr.next (.pointer (some ⟨b, 0, none⟩)) false ty).run P w = .ok cr w' := by
            intro cr w' hr
            rw [← hr, ← hcc]
            unfold Instr.next
            simp only [Sem.run_bind, run_get hw rfl, Result.andThen_ok, run_get hw2 rfl]
            rw [hgone2, if_neg Bool.false_ne_true]
            simp only [Sem.run_bind]
            congr 1
          obtain ⟨j, w1, r1, r2, r3⟩ := run_mapNext (P := P) ccands.size w
          have Rw : Rel P W0 base L K s2.get s2.next w1 := by
            rcases r2 with rfl | rfl
            · exact R2
            · exact R2.drew
          have hw1 : w1.heap[b]? = w.heap[b]? := by rcases r2 with rfl | rfl <;> rfl
          have h7' : (match cands[j]? with
              | some (some e) => (setO n (some (.mit (some m) since (seen ++ [e.born]) clock))).bind fun _ => M.ret (V.tup [.bool true, e.k, e.v])
              | some none => M.ret (V.tup [.bool false])
              | none => M.fail "next") s2 |>.All Q Qp := by
            rw [hsize] at r3
            rcases r3 with ⟨hn1, rfl⟩ | ⟨hn1, hj⟩
            · rw [if_pos hn1] at h6; exact h6
            · rw [if_neg (by omega)] at h6
              cases h6 with
              | ch _ _ hk => exact hk j hj
          cases hc : cands[j]? with
          | none => rw [hc] at h7'; exact (all_fail h7').elim
          | some c =>
            obtain ⟨cc, q1, q2⟩ := hlist.2 j c hc
            rw [Array.getElem?_toList] at q1
            rw [hc] at h7'
            cases c with
            | none =>
              cases q2
              exact ⟨_, _, all_ret h7', .tuple #[.bool false], w1, hmodel _ _ (by simp [r1, q1]), .tup _ _ (.cons _ _ _ _ (.bool _) .nil), Rw, by rw [h9, h4]⟩
            | some e =>
              obtain ⟨ce, rfl, q3⟩ := q2
              obtain ⟨u, s3, h10, h11⟩ := all_det h7' (Dt.setO _ _ _)
              obtain ⟨h12, h13⟩ := setO_ok h10
              have R3 := Rw.write (o := .mit (some m) since seen last) (o' := .mit (some m) since (seen ++ [e.born]) clock) (by rw [hget2, hget1]; exact hg) rfl rfl p1 hbase
                (touch_set (o' := .mapIter (some bm) since (seen'.push ce.born) clock) (by rw [hw1]; exact hw) (fun _ _ _ h => by cases h)) rfl rfl
                ⟨hbase, some bm, seen'.push ce.born, set_at (by rw [hw1]; exact hw), by rw [Array.toList_push, hseen, q3.2.2], bm, rfl, hbm⟩
              refine ⟨_, _, all_ret h11, .tuple #[.bool true, ce.key, ce.val], _, hmodel _ _ (by simp [r1, q1, run_set (hw1.trans hw) rfl]; rfl),
                .tup _ _ (.cons _ _ _ _ (.bool _) (.cons _ _ _ _ q3.1 (.cons _ _ _ _ q3.2.1 .nil))), by rw [h12, h13]; exact R3, by rw [h13, h9, h4]⟩
end
end Go.Ab
