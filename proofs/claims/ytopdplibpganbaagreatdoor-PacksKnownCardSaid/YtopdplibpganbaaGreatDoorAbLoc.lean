/-
  DERIVED. What of a state an abstract operation looks at, and what it turns; how far its names reach.
-/
import Derived.Test.YtopdplibpganbaaGreatDoorAbOps12
set_option linter.unusedSimpArgs false
set_option linter.unusedVariables false
namespace Go.Ab

/-- Names never reach this far. -/
def top : Nat := 2 ^ bits

inductive R.Inv {α : Type} (S : St → Prop) : R α → Prop
  | ok (a : α) (s : St) : S s → R.Inv S (.ok a s)
  | pan (v : V) (s : St) : S s → R.Inv S (.pan v s)
  | fail (w : String) : R.Inv S (.fail w)
  | ch (n : Nat) (k : Nat → R α) : 0 < n → (∀ i, i < n → R.Inv S (k i)) → R.Inv S (.ch n k)

theorem R.Inv.mono {α : Type} {S S' : St → Prop} (h : ∀ s, S s → S' s) {r : R α} (i : r.Inv S) : r.Inv S' := by
  induction i with
  | ok a s hs => exact .ok _ _ (h _ hs)
  | pan v s hs => exact .pan _ _ (h _ hs)
  | fail w => exact .fail w
  | ch n k hn _ ih => exact .ch n k hn ih

theorem R.Inv.bind {α β : Type} {S S' : St → Prop} {r : R α} {f : α → St → R β} (i : r.Inv S) (hp : ∀ s, S s → S' s) (hf : ∀ a s, S s → (f a s).Inv S') : (r.bind f).Inv S' := by
  induction i with
  | ok a s hs => exact hf a s hs
  | pan v s hs => exact .pan _ _ (hp _ hs)
  | fail w => exact .fail w
  | ch n k hn _ ih => exact .ch n _ hn ih

/-- Names only grow, and stay below the top. -/
def Up (s s1 : St) : Prop := s.next ≤ s1.next ∧ (s.next ≤ top → s1.next ≤ top)

theorem Up.refl (s : St) : Up s s := ⟨Nat.le_refl _, id⟩
theorem Up.trans {a b c : St} (h : Up a b) (k : Up b c) : Up a c := ⟨Nat.le_trans h.1 k.1, fun x => k.2 (h.2 x)⟩

/-- The operation came to (a, s1) from s: at any state that is alike where it looks, it comes to the same. -/
def LocOk {α : Type} (m : M α) (s : St) (a : α) (s1 : St) : Prop :=
  s1.lim = s.lim ∧ ∃ r w : List Nat, s1.rd = r ++ s.rd ∧ s1.wr = w ++ s.wr ∧ (∀ n ∈ r, n < s.lim) ∧ (∀ n ∈ w, n < s.lim) ∧
    (∀ n, (n < s.lim ∧ n ∉ w) ∨ s1.next ≤ n → s1.get n = s.get n) ∧
    ∀ t : St, t.next = s.next → t.lim = s.lim → (∀ n, (n ∈ r ∨ n ∈ w ∨ (s.lim ≤ n ∧ n < s.next)) → t.get n = s.get n) →
      ∃ t1, m t = .ok a t1 ∧ t1.next = s1.next ∧ t1.lim = s1.lim ∧ t1.rd = r ++ t.rd ∧ t1.wr = w ++ t.wr ∧ (∀ n, (n ∈ w ∨ (s.lim ≤ n ∧ n < s1.next)) → t1.get n = s1.get n) ∧
        (∀ n, (n < s.lim ∧ n ∉ w) ∨ s1.next ≤ n → t1.get n = t.get n)

structure Loc {α : Type} (m : M α) : Prop where
  up : ∀ s, (m s).Inv (Up s)
  loc : ∀ s a s1, s.lim ≤ s.next → m s = .ok a s1 → LocOk m s a s1

theorem Loc.ret {α : Type} (a : α) : Loc (M.ret a) := by
  refine ⟨fun s => .ok _ _ (.refl s), fun s b s1 hl h => ?_⟩
  obtain ⟨rfl, rfl⟩ := ret_ok h
  exact ⟨rfl, [], [], rfl, rfl, by simp, by simp, fun _ _ => rfl, fun t h1 h2 h3 => ⟨t, rfl, h1, h2, rfl, rfl, fun n hn => h3 n (by
    rcases hn with hn | hn
    · exact .inr (.inl hn)
    · exact .inr (.inr hn)), fun _ _ => rfl⟩⟩

theorem Loc.fail {α : Type} (w : String) : Loc (M.fail w : M α) := ⟨fun s => .fail _, fun s a s1 _ h => by cases h⟩
theorem Loc.pan {α : Type} (v : V) : Loc (M.pan v : M α) := ⟨fun s => .pan _ _ (.refl s), fun s a s1 _ h => by cases h⟩
theorem Loc.choose {n : Nat} (hn : 0 < n) : Loc (M.choose n) := ⟨fun s => .ch _ _ hn fun i _ => .ok _ _ (.refl s), fun s a s1 _ h => by cases h⟩

theorem Loc.bind {α β : Type} {m : M α} {f : α → M β} (h : Loc m) (k : ∀ a, Loc (f a)) : Loc (m.bind f) := by
  refine ⟨fun s => (h.up s).bind (fun s1 h1 => h1) fun a s1 h1 => ((k a).up s1).mono fun s2 h2 => h1.trans h2, fun s b s2 hl e => ?_⟩
  obtain ⟨a, s1, e1, e2⟩ := bind_ok e
  have u1 : Up s s1 := by
    have := h.up s; rw [e1] at this; cases this; assumption
  have u2 : Up s1 s2 := by
    have := (k a).up s1; rw [e2] at this; cases this; assumption
  obtain ⟨l1, r1, w1, a1, a2, a3, a4, a5, a6⟩ := h.loc s a s1 hl e1
  obtain ⟨l2, r2, w2, b1, b2, b3, b4, b5, b6⟩ := (k a).loc s1 b s2 (by rw [l1]; exact Nat.le_trans hl u1.1) e2
  rw [l1] at l2 b3 b4 b5 b6
  refine ⟨l2, r2 ++ r1, w2 ++ w1, by rw [b1, a1, List.append_assoc], by rw [b2, a2, List.append_assoc], fun n hn => ?_, fun n hn => ?_, fun n hn => ?_, fun t h1 h2 h3 => ?_⟩
  · rcases List.mem_append.1 hn with hn | hn
    · exact b3 n hn
    · exact a3 n hn
  · rcases List.mem_append.1 hn with hn | hn
    · exact b4 n hn
    · exact a4 n hn
  · rw [b5 n, a5 n]
    · rcases hn with ⟨h1, h2⟩ | hn
      · exact .inl ⟨h1, fun hh => h2 (List.mem_append_right _ hh)⟩
      · exact .inr (Nat.le_trans u2.1 hn)
    · rcases hn with ⟨h1, h2⟩ | hn
      · exact .inl ⟨h1, fun hh => h2 (List.mem_append_left _ hh)⟩
      · exact .inr hn
  · obtain ⟨t1, c1, c2, c3, c4, c5, c6, c7⟩ := a6 t h1 h2 fun n hn => h3 n (by
      rcases hn with hn | hn | hn
      · exact .inl (List.mem_append_right _ hn)
      · exact .inr (.inl (List.mem_append_right _ hn))
      · exact .inr (.inr hn))
    have agree : ∀ n, (n ∈ r2 ∨ n ∈ w2 ∨ (s.lim ≤ n ∧ n < s1.next)) → t1.get n = s1.get n := by
      intro n hn
      by_cases hw : n ∈ w1
      · exact c6 n (.inl hw)
      by_cases hlim : s.lim ≤ n ∧ n < s1.next
      · exact c6 n (.inr hlim)
      have hlt : n < s.lim := by
        rcases hn with hn | hn | hn
        · exact b3 n hn
        · exact b4 n hn
        · exact absurd hn hlim
      rw [c7 n (.inl ⟨hlt, hw⟩), a5 n (.inl ⟨hlt, hw⟩)]
      refine h3 n ?_
      rcases hn with hn | hn | hn
      · exact .inl (List.mem_append_left _ hn)
      · exact .inr (.inl (List.mem_append_left _ hn))
      · exact absurd hn hlim
    obtain ⟨t2, d1, d2, d3, d4, d5, d6, d7⟩ := b6 t1 c2 (c3.trans l1) agree
    refine ⟨t2, by unfold M.bind; rw [c1]; exact d1, d2, d3, by rw [d4, c4, List.append_assoc], by rw [d5, c5, List.append_assoc], fun n hn => ?_, fun n hn => ?_⟩
    · by_cases hw : n ∈ w2
      · exact d6 n (.inl hw)
      by_cases hlim : s.lim ≤ n ∧ n < s2.next
      · exact d6 n (.inr hlim)
      rcases hn with hn | hn
      · rcases List.mem_append.1 hn with hn | hn
        · exact absurd hn hw
        · have hlt := a4 n hn
          rw [d7 n (.inl ⟨hlt, hw⟩), b5 n (.inl ⟨hlt, hw⟩)]
          exact c6 n (.inl hn)
      · exact absurd hn hlim
    · rw [d7 n, c7 n]
      · rcases hn with ⟨h1, h2⟩ | hn
        · exact .inl ⟨h1, fun hh => h2 (List.mem_append_right _ hh)⟩
        · exact .inr (Nat.le_trans u2.1 hn)
      · rcases hn with ⟨h1, h2⟩ | hn
        · exact .inl ⟨h1, fun hh => h2 (List.mem_append_left _ hh)⟩
        · exact .inr hn

theorem Loc.getO (n : Nat) : Loc (getO n) := by
  refine ⟨fun s => ?_, fun s a s1 hl h => ?_⟩
  · unfold Ab.getO
    split
    · refine .ok _ _ ?_
      split <;> exact .refl s
    · exact .fail _
  · have h' := h
    unfold Ab.getO at h'
    split at h'
    · rename_i hn
      by_cases hlim : n < s.lim
      · rw [if_pos hlim] at h'
        cases h'
        refine ⟨rfl, [n], [], rfl, rfl, by simpa using hlim, by simp, fun _ _ => rfl, fun t h1 h2 h3 => ?_⟩
        refine ⟨{ t with rd := n :: t.rd }, ?_, h1, h2, rfl, rfl, fun k hk => ?_, fun _ _ => rfl⟩
        · unfold Ab.getO
          rw [if_pos (by omega), if_pos (by omega), h3 n (.inl (by simp))]
        · rcases hk with hk | hk
          · simp at hk
          · exact h3 k (.inr (.inr hk))
      · rw [if_neg hlim] at h'
        cases h'
        refine ⟨rfl, [], [], rfl, rfl, by simp, by simp, fun _ _ => rfl, fun t h1 h2 h3 => ?_⟩
        refine ⟨t, ?_, h1, h2, rfl, rfl, fun k hk => ?_, fun _ _ => rfl⟩
        · unfold Ab.getO
          rw [if_pos (by omega), if_neg (by omega), h3 n (.inr (.inr ⟨by omega, hn⟩))]
        · rcases hk with hk | hk
          · simp at hk
          · exact h3 k (.inr (.inr hk))
    · cases h'

theorem put_get (s : St) (n m : Nat) (o : Option O) (h : n + 2 < 2 ^ bits) : (s.put n o).get m = if m = n then o else s.get m := St.get_put s n m o (by omega)

theorem Loc.setO (n : Nat) (o : Option O) : Loc (setO n o) := by
  refine ⟨fun s => ?_, fun s a s1 hl h => ?_⟩
  · unfold Ab.setO
    split
    · refine .ok _ _ ?_
      split <;> exact .refl s
    · exact .fail _
  · have h' := h
    unfold Ab.setO at h'
    split at h'
    · rename_i hn
      obtain ⟨hn, hb⟩ := hn
      have g1 : ∀ (x : St) k, (St.get { x.put n o with wr := n :: x.wr } k) = if k = n then o else x.get k := fun x k => put_get x n k o hb
      have g2 : ∀ (x : St) k, ((x.put n o).get k) = if k = n then o else x.get k := fun x k => put_get x n k o hb
      by_cases hlim : n < s.lim
      · rw [if_pos hlim] at h'
        cases h'
        refine ⟨rfl, [], [n], rfl, rfl, by simp, by simpa using hlim, fun k hk => ?_, fun t h1 h2 h3 => ?_⟩
        · rw [g1, if_neg]
          rcases hk with ⟨_, hk⟩ | hk
          · simpa using hk
          · have : s.next ≤ k := hk
            omega
        · refine ⟨{ t.put n o with wr := n :: t.wr }, ?_, h1, h2, rfl, rfl, fun k hk => ?_, fun k hk => ?_⟩
          · unfold Ab.setO
            rw [if_pos ⟨by omega, hb⟩, if_pos (by omega)]
          · rw [g1, g1]
            split
            · rfl
            · refine h3 k (.inr ?_)
              rcases hk with hk | hk
              · exact .inl hk
              · exact .inr hk
          · rw [g1, if_neg]
            rcases hk with ⟨_, hk⟩ | hk
            · simpa using hk
            · have : s.next ≤ k := hk
              omega
      · rw [if_neg hlim] at h'
        cases h'
        refine ⟨rfl, [], [], rfl, rfl, by simp, by simp, fun k hk => ?_, fun t h1 h2 h3 => ?_⟩
        · rw [g2, if_neg]
          rcases hk with ⟨hk, _⟩ | hk
          · omega
          · have : s.next ≤ k := hk
            omega
        · refine ⟨t.put n o, ?_, h1, h2, rfl, rfl, fun k hk => ?_, fun k hk => ?_⟩
          · unfold Ab.setO
            rw [if_pos ⟨by omega, hb⟩, if_neg (by omega)]
          · rw [g2, g2]
            split
            · rfl
            · refine h3 k (.inr ?_)
              rcases hk with hk | hk
              · exact .inl hk
              · exact .inr hk
          · rw [g2, if_neg]
            rcases hk with ⟨hk, _⟩ | hk
            · omega
            · have : s.next ≤ k := hk
              omega
    · cases h'

theorem Loc.newO (o : O) : Loc (newO o) := by
  refine ⟨fun s => ?_, fun s a s1 hl h => ?_⟩
  · unfold Ab.newO
    split
    · rename_i hn
      refine .ok _ _ ⟨Nat.le_succ _, fun _ => ?_⟩
      show s.next + 1 ≤ 2 ^ bits
      omega
    · exact .fail _
  · have h' := h
    unfold Ab.newO at h'
    split at h'
    · rename_i hb
      cases h'
      have g1 : ∀ (x : St) k, x.next = s.next → (St.get { x.put x.next (some o) with next := x.next + 1 } k) = if k = s.next then some o else x.get k := fun x k hx => by
        rw [← hx]; exact put_get x x.next k (some o) (by omega)
      refine ⟨rfl, [], [], rfl, rfl, by simp, by simp, fun k hk => ?_, fun t h1 h2 h3 => ?_⟩
      · rw [g1 s k rfl, if_neg]
        rcases hk with ⟨hk, _⟩ | hk
        · omega
        · have : s.next + 1 ≤ k := hk
          omega
      · refine ⟨{ t.put t.next (some o) with next := t.next + 1 }, ?_, by show t.next + 1 = s.next + 1; omega, h2, rfl, rfl, fun k hk => ?_, fun k hk => ?_⟩
        · unfold Ab.newO
          rw [if_pos (by omega), h1]
        · rw [g1 t k h1, g1 s k rfl]
          split
          · rfl
          · rename_i hne
            refine h3 k (.inr (.inr ?_))
            rcases hk with hk | hk
            · simp at hk
            · have : k < s.next + 1 := hk.2
              exact ⟨hk.1, by omega⟩
        · rw [g1 t k h1, if_neg]
          rcases hk with ⟨hk, _⟩ | hk
          · omega
          · have : s.next + 1 ≤ k := hk
            omega
    · cases h'

theorem Loc.need {α : Type} (w : String) (a : Option α) : Loc (need w a) := by
  cases a
  · exact .fail _
  · exact .ret _
end Go.Ab
