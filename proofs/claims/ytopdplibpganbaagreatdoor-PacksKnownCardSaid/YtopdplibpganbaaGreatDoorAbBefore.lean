/-
  DERIVED. What must come before an operation of a region.
-/
import Derived.Orders
import GoSem.Core.Region
namespace Go.Ab

def befIn (acc : Array Nat) (o : Oper) : Nat := o.after.foldl (fun s e => if Region.binds .any e then s ||| 2 ^ e.on ||| acc.getD e.on 0 else s) 0

theorem before_eq (ops : Array Oper) : Region.before ops = ops.toList.foldl (fun acc o => acc.push (befIn acc o)) #[] := by
  unfold Region.before
  rw [← Array.foldl_toList]
  rfl

theorem foldl_push (l : List Oper) : ∀ acc : Array Nat, (l.foldl (fun acc o => acc.push (befIn acc o)) acc).size = acc.size + l.length ∧
    ∀ k, k < acc.size → (l.foldl (fun acc o => acc.push (befIn acc o)) acc)[k]? = acc[k]? := by
  induction l with
  | nil => intro acc; exact ⟨rfl, fun _ _ => rfl⟩
  | cons o l ih =>
    intro acc
    obtain ⟨h1, h2⟩ := ih (acc.push (befIn acc o))
    simp only [List.foldl_cons, List.length_cons]
    refine ⟨by rw [h1, Array.size_push]; omega, fun k hk => ?_⟩
    rw [h2 k (by rw [Array.size_push]; omega), Array.getElem?_push_lt hk, Array.getElem?_eq_getElem hk]

theorem foldl_at (l : List Oper) : ∀ (acc : Array Nat) (j : Nat) (o : Oper), l[j]? = some o →
    (l.foldl (fun acc o => acc.push (befIn acc o)) acc)[acc.size + j]? = some (befIn ((l.take j).foldl (fun acc o => acc.push (befIn acc o)) acc) o) := by
  induction l with
  | nil => intro acc j o h; simp at h
  | cons x l ih =>
    intro acc j o h
    cases j with
    | zero =>
      simp only [List.getElem?_cons_zero, Option.some.injEq] at h
      subst h
      simp only [List.foldl_cons, List.take_zero, List.foldl_nil, Nat.add_zero]
      rw [(foldl_push l (acc.push (befIn acc x))).2 acc.size (by rw [Array.size_push]; omega)]
      simp
    | succ j =>
      simp only [List.getElem?_cons_succ] at h
      have := ih (acc.push (befIn acc x)) j o h
      rw [Array.size_push] at this
      simp only [List.foldl_cons, List.take_succ_cons]
      rw [show acc.size + (j + 1) = acc.size + 1 + j from by omega]
      exact this

theorem befIn_bit {acc : Array Nat} {o : Oper} {i : Nat} (h : (befIn acc o).testBit i = true) : ∃ e ∈ o.after.toList, Region.binds .any e = true ∧ (e.on = i ∨ (acc.getD e.on 0).testBit i = true) := by
  unfold befIn at h
  rw [← Array.foldl_toList] at h
  have key : ∀ (l : List Edge) (s : Nat), (l.foldl (fun s e => if Region.binds .any e then s ||| 2 ^ e.on ||| acc.getD e.on 0 else s) s).testBit i = true →
      s.testBit i = true ∨ ∃ e ∈ l, Region.binds .any e = true ∧ (e.on = i ∨ (acc.getD e.on 0).testBit i = true) := by
    intro l
    induction l with
    | nil => intro s h; exact .inl h
    | cons e l ih =>
      intro s h
      rw [List.foldl_cons] at h
      rcases ih _ h with h | ⟨e', h1, h2⟩
      · split at h
        · rename_i hb
          rw [Nat.testBit_or, Nat.testBit_or, Nat.testBit_two_pow] at h
          simp only [Bool.or_eq_true, decide_eq_true_eq] at h
          rcases h with (h | h) | h
          · exact .inl h
          · exact .inr ⟨e, List.mem_cons_self, hb, .inl h⟩
          · exact .inr ⟨e, List.mem_cons_self, hb, .inr h⟩
        · exact .inl h
      · exact .inr ⟨e', List.mem_cons_of_mem _ h1, h2⟩
  rcases key _ _ h with h | h
  · simp at h
  · exact h

/-- What must come before an operation hangs on its edges. -/
theorem before_spec {ops : Array Oper} {j : Nat} {o : Oper} (hj : ops[j]? = some o) {i : Nat} (h : ((Region.before ops).getD j 0).testBit i = true) :
    ∃ e ∈ o.after.toList, Region.binds .any e = true ∧ (e.on = i ∨ (e.on < j ∧ ((Region.before ops).getD e.on 0).testBit i = true)) := by
  have hl : ops.toList[j]? = some o := by rw [Array.getElem?_toList]; exact hj
  have hat := foldl_at ops.toList #[] j o hl
  rw [← before_eq] at hat
  simp only [Array.size_empty, Nat.zero_add] at hat
  rw [Array.getD_eq_getD_getElem?, hat] at h
  simp only [Option.getD_some] at h
  obtain ⟨e, h1, h2, h3⟩ := befIn_bit h
  refine ⟨e, h1, h2, h3.imp id fun h3 => ?_⟩
  have hlen : ((ops.toList.take j).foldl (fun acc o => acc.push (befIn acc o)) #[]).size = j := by
    rw [(foldl_push _ _).1]
    have : j < ops.toList.length := (List.getElem?_eq_some_iff.1 hl).1
    simp only [Array.size_empty, Nat.zero_add, List.length_take]
    omega
  have hlt : e.on < j := by
    rcases Nat.lt_or_ge e.on j with h | h
    · exact h
    · rw [Array.getD_eq_getD_getElem?, Array.getElem?_eq_none (by rw [hlen]; exact h)] at h3
      simp at h3
  refine ⟨hlt, ?_⟩
  have hsplit : Region.before ops = (ops.toList.drop j).foldl (fun acc o => acc.push (befIn acc o)) ((ops.toList.take j).foldl (fun acc o => acc.push (befIn acc o)) #[]) := by
    rw [before_eq, ← List.foldl_append, List.take_append_drop]
  rw [Array.getD_eq_getD_getElem?] at h3 ⊢
  rw [hsplit, (foldl_push _ _).2 e.on (by rw [hlen]; exact hlt)]
  exact h3
end Go.Ab
