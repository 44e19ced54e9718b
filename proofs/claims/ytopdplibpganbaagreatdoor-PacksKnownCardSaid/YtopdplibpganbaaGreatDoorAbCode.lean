/-
  DERIVED. Code and functions: what the abstract machine leaves open, the model's code comes to.
-/
import Derived.Test.YtopdplibpganbaaGreatDoorAbReg2
set_option linter.unusedSimpArgs false
set_option linter.unusedVariables false
namespace Go.Ab
open Go.RowKit

theorem Loc.logged {α : Type} {m : M α} (h : Loc m) : Loc (logged m) := by
  refine ⟨fun s => ?_, fun s a s1 hl e => ?_⟩
  · unfold Ab.logged
    have hi := h.up { s with lim := s.next, rd := [], wr := [] }
    split
    · rename_i a s1 e
      rw [e] at hi
      cases hi with | ok _ _ u => exact .ok _ _ u
    · exact .fail _
    · exact .fail _
    · exact .fail _
  · unfold Ab.logged at e
    split at e
    · rename_i a' s2 e2
      cases e
      obtain ⟨l1, r, wr, a1, a2, a3, a4, a5, a6⟩ := h.loc _ _ _ (Nat.le_refl _) e2
      simp only [List.append_nil] at a1 a2 a3 a4 a5 a6
      have hi := h.up { s with lim := s.next, rd := [], wr := [] }
      rw [e2] at hi
      have hu : s.next ≤ s2.next := by cases hi with | ok _ _ u => exact u.1
      refine ⟨rfl, s2.rd.filter (· < s.lim), s2.wr.filter (· < s.lim), rfl, rfl, fun n hn => by simpa using (List.mem_filter.1 hn).2, fun n hn => by simpa using (List.mem_filter.1 hn).2, fun n hn => ?_, fun t h1 h2 h3 => ?_⟩
      · refine a5 n ?_
        rcases hn with ⟨hn, hw⟩ | hn
        · refine .inl ⟨Nat.lt_of_lt_of_le hn hl, fun hh => hw ?_⟩
          rw [a2]; exact List.mem_filter.2 ⟨hh, by simpa using hn⟩
        · exact .inr hn
      · obtain ⟨t1, c1, c2, c3, c4, c5, c6, c7⟩ := a6 { t with lim := t.next, rd := [], wr := [] } h1 h1 fun n hn => by
          refine h3 n ?_
          by_cases hlt : n < s.lim
          · rcases hn with hn | hn | hn
            · exact .inl (List.mem_filter.2 ⟨by rw [a1]; exact hn, by simpa using hlt⟩)
            · exact .inr (.inl (List.mem_filter.2 ⟨by rw [a2]; exact hn, by simpa using hlt⟩))
            · have : s.next ≤ n := hn.1
              omega
          · refine .inr (.inr ⟨by omega, ?_⟩)
            rcases hn with hn | hn | hn
            · exact a3 n hn
            · exact a4 n hn
            · exact hn.2
        simp only [List.append_nil] at c4 c5
        refine ⟨{ t1 with lim := t.lim, rd := t1.rd.filter (· < t.lim) ++ t.rd, wr := t1.wr.filter (· < t.lim) ++ t.wr }, ?_, c2, h2, ?_, ?_, fun n hn => ?_, fun n hn => ?_⟩
        · unfold Ab.logged
          rw [c1]
          simp only [c4, c5, a1, a2, h1, c2]
        · simp only [c4, a1, h2]
        · simp only [c5, a2, h2]
        · show t1.get n = s2.get n
          by_cases hw : n ∈ wr
          · exact c6 n (.inl hw)
          by_cases hnew : s.next ≤ n ∧ n < s2.next
          · exact c6 n (.inr hnew)
          have hlt : n < s.next := by
            rcases hn with hn | hn
            · have := (List.mem_filter.1 hn).1
              rw [a2] at this
              exact absurd this hw
            · have : n < s2.next := hn.2
              omega
          rw [c7 n (.inl ⟨hlt, hw⟩), a5 n (.inl ⟨hlt, hw⟩)]
          refine h3 n (.inr (.inr ⟨?_, hlt⟩))
          rcases hn with hn | hn
          · have := (List.mem_filter.1 hn).1
            rw [a2] at this
            exact absurd this hw
          · exact hn.1
        · show t1.get n = t.get n
          refine c7 n ?_
          rcases hn with ⟨hn, hw⟩ | hn
          · refine .inl ⟨Nat.lt_of_lt_of_le hn hl, fun hh => hw ?_⟩
            rw [a2]; exact List.mem_filter.2 ⟨hh, by simpa using hn⟩
          · exact .inr hn
    · cases e
    · cases e
    · cases e

section
variable {call : FuncId → List V → M V}

theorem Loc.evDraw (hcall : ∀ f args, Loc (call f args)) : ∀ (l : List AOper) (g : List Log) (f : Fr), Loc (evDraw call l g f)
  | [], g, f => .ret _
  | o :: r, g, f => by
    refine (Loc.evOp hcall f o).logged.bind fun x => ?_
    obtain ⟨v, lg⟩ := x
    show Loc (if _ then _ else _)
    split
    · exact Loc.evDraw hcall r _ _
    · exact .fail _

theorem Loc.evLoop {body : Fr → M (E × Fr)} (h : ∀ f, Loc (body f)) : ∀ (n : Nat) (f : Fr), Loc (evLoop body n f)
  | 0, f => .fail _
  | n + 1, f => by
    refine (h f).bind fun x => ?_
    obtain ⟨e, f'⟩ := x
    cases e
    · exact Loc.evLoop h n f'
    · exact .ret _
    · exact .ret _

theorem Loc.evC (hcall : ∀ f args, Loc (call f args)) (fuel : Nat) : ∀ (c : AC) (f : Fr), Loc (evC call fuel c f)
  | .skip, f => .ret _
  | .reg false ops, f => (Loc.evOps hcall ops f).bind fun _ => .ret _
  | .reg true ops, f => (Loc.evDraw hcall ops [] f).bind fun _ => .ret _
  | .dfr x args, f => .ret _
  | .seq a b, f => by
    refine (Loc.evC hcall fuel a f).bind fun x => ?_
    obtain ⟨e, f'⟩ := x
    cases e
    · exact Loc.evC hcall fuel b f'
    · exact .ret _
    · exact .ret _
  | .cond x a b, f => by
    unfold Ab.evC
    split
    · exact Loc.evC hcall fuel a f
    · exact Loc.evC hcall fuel b f
    · exact .fail _
  | .block id b, f => by
    refine (Loc.evC hcall fuel b f).bind fun x => ?_
    obtain ⟨e, f'⟩ := x
    cases e
    · exact .ret _
    · show Loc (if _ then _ else _)
      split <;> exact .ret _
    · exact .ret _
  | .loop b, f => Loc.evLoop (fun f => Loc.evC hcall fuel b f) fuel f
  | .exit id, f => .ret _
  | .ret, f => .ret _

theorem Loc.evRes : ∀ (f : Fr) (l : List Res), Loc (evRes f l)
  | f, [] => .ret _
  | f, .tmp t :: r => (Loc.evRes f r).bind fun _ => .ret _
  | f, .cell t agg size :: r => (Loc.opLoad _ _ _).bind fun _ => (Loc.evRes f r).bind fun _ => .ret _

theorem Loc.evF {T : Tbl} (hs : ∀ f s args, T.sum f = some s → Loc (s args)) (loops : Nat) : ∀ (n : Nat) (f : FuncId) (args : List V), Loc (evF T loops n f args)
  | 0, f, args => .fail _
  | n + 1, f, args => by
    unfold Ab.evF
    split
    · rename_i s e
      exact hs f s args e
    · split
      · exact .fail _
      · rename_i a _
        split
        · exact .fail _
        · refine (Loc.evC (fun f args => Loc.evF hs loops n f args) loops _ _).bind fun x => ?_
          obtain ⟨e, f'⟩ := x
          cases e
          · exact (Loc.evRes _ _).bind fun _ => .ret _
          · exact .fail _
          · exact (Loc.evRes _ _).bind fun _ => .ret _
end
end Go.Ab
