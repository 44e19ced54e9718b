/-
  DERIVED. How the abstract machine's values and states stand to the model's: VR (values), Rel (states). What one holds stays true as more is known (Kr.le).
-/
import Derived.Test.YtopdplibpganbaaGreatDoorAbCompile
import Derived.Below
import Derived.Laws.Entries
set_option linter.unusedSimpArgs false
set_option linter.unusedVariables false
namespace Go.Ab

/-! ### The store of objects -/
theorem Tr.get_put {α : Type} (o : Option α) : ∀ (f : Nat) (t : Tr α) (n m : Nat), n + 1 < 2 ^ f → (Tr.put f t n o).get m = if m = n then o else t.get m := by
  intro f
  induction f with
  | zero => intro t n m h; simp at h
  | succ f ih =>
    intro t n m h
    cases t with
    | leaf =>
      cases n with
      | zero => cases m with
        | zero => simp [Tr.put, Tr.get]
        | succ m => simp [Tr.put, Tr.get]
      | succ n =>
        have hn : n / 2 + 1 < 2 ^ f := by rw [Nat.pow_succ] at h; omega
        cases m with
        | zero => simp only [Tr.put]; split <;> simp [Tr.get]
        | succ m =>
          simp only [Tr.put]
          split
          · rename_i h2
            simp only [Tr.get]
            by_cases hm : m % 2 = 0
            · simp only [hm, if_true, ih _ _ _ hn, Tr.get]
              by_cases e : m = n
              · subst e; simp
              · have : m / 2 ≠ n / 2 := by omega
                have : m + 1 ≠ n + 1 := by omega
                simp [*]
            · have : m ≠ n := by intro e; subst e; exact hm h2
              simp [hm, this]
          · rename_i h2
            simp only [Tr.get]
            by_cases hm : m % 2 = 0
            · have : m ≠ n := by intro e; subst e; exact h2 hm
              simp [hm, this]
            · simp only [hm, if_false, ih _ _ _ hn, Tr.get]
              by_cases e : m = n
              · subst e; simp
              · have : m / 2 ≠ n / 2 := by omega
                have : m + 1 ≠ n + 1 := by omega
                simp [*]
    | node l x r =>
      cases n with
      | zero => cases m with
        | zero => simp [Tr.put, Tr.get]
        | succ m => simp [Tr.put, Tr.get]
      | succ n =>
        have hn : n / 2 + 1 < 2 ^ f := by rw [Nat.pow_succ] at h; omega
        cases m with
        | zero => simp only [Tr.put]; split <;> simp [Tr.get]
        | succ m =>
          simp only [Tr.put]
          split
          · rename_i h2
            simp only [Tr.get]
            by_cases hm : m % 2 = 0
            · simp only [hm, if_true, ih _ _ _ hn]
              by_cases e : m = n
              · subst e; simp
              · have : m / 2 ≠ n / 2 := by omega
                have : m + 1 ≠ n + 1 := by omega
                simp [*]
            · have : m ≠ n := by intro e; subst e; exact hm h2
              simp [hm, this]
          · rename_i h2
            simp only [Tr.get]
            by_cases hm : m % 2 = 0
            · have : m ≠ n := by intro e; subst e; exact h2 hm
              simp [hm, this]
            · simp only [hm, if_false, ih _ _ _ hn]
              by_cases e : m = n
              · subst e; simp
              · have : m / 2 ≠ n / 2 := by omega
                have : m + 1 ≠ n + 1 := by omega
                simp [*]

theorem St.get_put (s : St) (n m : Nat) (o : Option O) (h : n + 1 < 2 ^ bits) : (s.put n o).get m = if m = n then o else s.get m :=
  Tr.get_put o bits s.objs n m h

/-! ### What is known of memory -/
structure Kr where
  low : Nat
  blk : Nat → Option Nat
  imm : Nat → Nat → Option V
  tip : Nat → Option (Nat × Nat × Nat)

structure Kr.le (K K' : Kr) : Prop where
  low : K'.low = K.low
  blk : ∀ n b, K.blk n = some b → K'.blk n = some b
  imm : ∀ b o v, K.imm b o = some v → K'.imm b o = some v
  tip : ∀ n x, K.tip n = some x → K'.tip n = some x

theorem Kr.le.refl (K : Kr) : K.le K := ⟨rfl, fun _ _ h => h, fun _ _ _ h => h, fun _ _ h => h⟩
theorem Kr.le.trans {a b c : Kr} (h : a.le b) (k : b.le c) : a.le c :=
  ⟨k.low.trans h.low, fun n x e => k.blk n x (h.blk n x e), fun n o x e => k.imm n o x (h.imm n o x e), fun n x e => k.tip n x (h.tip n x e)⟩

def Imm (K : Kr) (b o : Nat) (cs : List V) : Prop := ∀ (i : Nat) (v : V), cs[i]? = some v → K.imm b (o + i) = some v

theorem Imm.mono {K K' : Kr} {b o : Nat} {cs : List V} (h : Imm K b o cs) (k : K.le K') : Imm K' b o cs := fun i v e => k.imm _ _ _ (h i v e)
theorem Imm.nil (K : Kr) (b o : Nat) : Imm K b o [] := fun i v e => by simp at e

def TipOk (K : Kr) (t : Tip) (sz b o e len cap : Nat) : Prop := match t with
  | .nil => False
  | .lit => cap = len ∧ K.low ≤ b
  | .full => cap = len
  | .no => True
  | .at n => K.tip n = some (b, e, o + cap * sz) ∨ cap = len

theorem TipOk.mono {K K' : Kr} {t : Tip} {sz b o e len cap : Nat} (h : TipOk K t sz b o e len cap) (k : K.le K') : TipOk K' t sz b o e len cap := by
  cases t <;> simp only [TipOk] at *
  · exact ⟨h.1, by rw [k.low]; exact h.2⟩
  · exact h
  · exact h.imp (k.tip _ _) id

/-- The row of a method: the dynamic type's method of this name takes the very value in the interface as its receiver. -/
def MethOk (P : Program) (t : TypeId) (name : String) (f : FuncId) : Prop :=
  ∃ i m ptr, P.info? t = some i ∧ i.methods.find? (·.name == name) = some m ∧ m.func = some (f, ptr) ∧ m.path = #[] ∧
    (∃ d, P.underlying t = some d ∧ match d with | .pointer _ => ptr = true | _ => ptr = false)

mutual
inductive VR (P : Program) (K : Kr) : V → Value → Prop
  | bool (b : Bool) : VR P K (.bool b) (.bool b)
  | int (k : IntKind) (n : Int) : VR P K (.int k n) (.int k n)
  | str (s : List UInt8) (b : ByteArray) : b.data.toList = s → VR P K (.str s) (.string b)
  | nilp : VR P K .nilp (.pointer none)
  | ptr (n off b : Nat) : K.blk n = some b → VR P K (.ptr n off) (.pointer (some ⟨b, off, none⟩))
  | ip (cs : List V) (off b o : Nat) : off ≤ o → Imm K b (o - off) cs → VR P K (.ip cs off) (.pointer (some ⟨b, o, none⟩))
  | slnil (sz : Nat) : VR P K (.sl sz [] .nil) (.slice none 0 0)
  | sl (sz : Nat) (l : List V) (t : Tip) (b o cap : Nat) : l.length ≤ cap → (∀ v ∈ l, v.cells.length = sz ∧ v.isTup = false) → Imm K b o (flat l) →
      TipOk K t sz b o (o + l.length * sz) l.length cap → VR P K (.sl sz l t) (.slice (some ⟨b, o, none⟩) l.length cap)
  | rs (sz n off len : Nat) (cap : Option Nat) (b cap' : Nat) : K.blk n = some b → len ≤ cap' →
      (match cap with | some c => c = cap' | none => off = 0 ∧ K.tip n = some (b, 0, cap' * sz)) → VR P K (.rs sz n off len cap) (.slice (some ⟨b, off, none⟩) len cap')
  | nilm : VR P K .nilm (.map none)
  | map (n b : Nat) : K.blk n = some b → VR P K (.map n) (.map (some b))
  | fn (f : Fn) (a c : List V) (a' c' : Array Value) : VRL P K a a'.toList → VRL P K c c'.toList → VR P K (.fn f a c) (.func f a' c')
  | nilf : VR P K .nilf .nilFunc
  | bm (name : String) (f : FuncId) (t : TypeId) (v : V) (v' : Value) : MethOk P t name f → VR P K v v' → VR P K (.bm name f t v) (.func (.method name) #[.iface t v'] #[])
  | iface (t : TypeId) (v : V) (v' : Value) : VR P K v v' → VR P K (.iface t v) (.iface t v')
  | nili : VR P K .nili .nilIface
  | agg (cs : List V) (cs' : Array Value) : (∀ v ∈ cs, v.isCell = true) → VRL P K cs cs'.toList → VR P K (.agg cs) (.agg cs')
  | tup (cs : List V) (cs' : Array Value) : VRL P K cs cs'.toList → VR P K (.tup cs) (.tuple cs')
inductive VRL (P : Program) (K : Kr) : List V → List Value → Prop
  | nil : VRL P K [] []
  | cons (v : V) (v' : Value) (l : List V) (l' : List Value) : VR P K v v' → VRL P K l l' → VRL P K (v :: l) (v' :: l')
end

section
variable {P : Program} {K K' : Kr}

mutual
theorem VR.mono (k : K.le K') : ∀ {v : V} {v' : Value}, VR P K v v' → VR P K' v v'
  | _, _, .bool b => .bool b
  | _, _, .int k n => .int k n
  | _, _, .str s b h => .str s b h
  | _, _, .nilp => .nilp
  | _, _, .ptr n off b h => .ptr n off b (k.blk _ _ h)
  | _, _, .ip cs off b o h1 h2 => .ip cs off b o h1 (h2.mono k)
  | _, _, .slnil sz => .slnil sz
  | _, _, .sl sz l t b o cap h1 h2 h3 h4 => .sl sz l t b o cap h1 h2 (h3.mono k) (h4.mono k)
  | _, _, .rs sz n off len cap b cap' h1 h2 h3 => .rs sz n off len cap b cap' (k.blk _ _ h1) h2 (by
      cases cap with
      | some c => exact h3
      | none => exact ⟨h3.1, k.tip _ _ h3.2⟩)
  | _, _, .nilm => .nilm
  | _, _, .map n b h => .map n b (k.blk _ _ h)
  | _, _, .fn f a c a' c' h1 h2 => .fn f a c a' c' (VRL.mono k h1) (VRL.mono k h2)
  | _, _, .nilf => .nilf
  | _, _, .bm name f t v v' h1 h2 => .bm name f t v v' h1 (VR.mono k h2)
  | _, _, .iface t v v' h => .iface t v v' (VR.mono k h)
  | _, _, .nili => .nili
  | _, _, .agg cs cs' h1 h2 => .agg cs cs' h1 (VRL.mono k h2)
  | _, _, .tup cs cs' h => .tup cs cs' (VRL.mono k h)
theorem VRL.mono (k : K.le K') : ∀ {l : List V} {l' : List Value}, VRL P K l l' → VRL P K' l l'
  | _, _, .nil => .nil
  | _, _, .cons v v' l l' h1 h2 => .cons v v' l l' (VR.mono k h1) (VRL.mono k h2)
end

theorem VRL.length {l : List V} {l' : List Value} (h : VRL P K l l') : l'.length = l.length := by
  induction l generalizing l' with
  | nil => cases h; rfl
  | cons v l ih => cases h; rename_i h; simp [ih h]

theorem VRL.get {l : List V} {l' : List Value} (h : VRL P K l l') : ∀ (i : Nat) (v : V), l[i]? = some v → ∃ v', l'[i]? = some v' ∧ VR P K v v' := by
  induction l generalizing l' with
  | nil => intro i v e; simp at e
  | cons u l ih =>
    cases h; rename_i u' l' h1 h2
    intro i v e
    cases i with
    | zero => simp at e; subst e; exact ⟨u', by simp, h1⟩
    | succ i => simp at e; simpa using ih h2 i v e

theorem VRL.of_get {l : List V} {l' : List Value} (hl : l'.length = l.length) (h : ∀ (i : Nat) (v : V) (v' : Value), l[i]? = some v → l'[i]? = some v' → VR P K v v') : VRL P K l l' := by
  induction l generalizing l' with
  | nil => cases l' with
    | nil => exact .nil
    | cons _ _ => simp at hl
  | cons v l ih => cases l' with
    | nil => simp at hl
    | cons v' l' =>
      refine .cons _ _ _ _ (h 0 v v' (by simp) (by simp)) (ih (by simpa using hl) fun i u u' e e' => h (i + 1) u u' (by simpa using e) (by simpa using e'))

theorem VRL.append {a b : List V} {a' b' : List Value} (h : VRL P K a a') (k : VRL P K b b') : VRL P K (a ++ b) (a' ++ b') := by
  induction a generalizing a' with
  | nil => cases h; simpa using k
  | cons v a ih => cases h; rename_i h1 h2; exact .cons _ _ _ _ h1 (ih h2)

theorem VRL.take {a : List V} {a' : List Value} (h : VRL P K a a') : ∀ n, VRL P K (a.take n) (a'.take n) := by
  induction a generalizing a' with
  | nil => cases h; intro n; simpa using .nil
  | cons v a ih =>
    cases h; rename_i h1 h2
    intro n
    cases n with
    | zero => simpa using .nil
    | succ n => simpa using .cons _ _ _ _ h1 (ih h2 n)

theorem VRL.drop {a : List V} {a' : List Value} (h : VRL P K a a') : ∀ n, VRL P K (a.drop n) (a'.drop n) := by
  induction a generalizing a' with
  | nil => cases h; intro n; simpa using .nil
  | cons v a ih =>
    cases h; rename_i h1 h2
    intro n
    cases n with
    | zero => simpa using .cons _ _ _ _ h1 h2
    | succ n => simpa using ih h2 n

theorem VRL.set {a : List V} {a' : List Value} (h : VRL P K a a') {v : V} {v' : Value} (hv : VR P K v v') : ∀ n, VRL P K (a.set n v) (a'.set n v') := by
  induction a generalizing a' with
  | nil => cases h; intro n; simpa using .nil
  | cons u a ih =>
    cases h; rename_i h1 h2
    intro n
    cases n with
    | zero => simpa using .cons _ _ _ _ hv h2
    | succ n => simpa using .cons _ _ _ _ h1 (ih h2 n)

theorem VRL.replicate {v : V} {v' : Value} (hv : VR P K v v') : ∀ n, VRL P K (List.replicate n v) (List.replicate n v')
  | 0 => by simpa using .nil
  | n + 1 => by simpa [List.replicate_succ] using .cons _ _ _ _ hv (VRL.replicate hv n)

/-- A value's cells. -/
theorem VR.cells {v : V} {v' : Value} (h : VR P K v v') (ht : v.isTup = false) : VRL P K v.cells v'.cells.toList ∧ ∀ u ∈ v.cells, u.isCell = true := by
  cases h <;> simp only [V.cells, Value.cells]
  case agg cs cs' h1 h2 => exact ⟨h2, h1⟩
  case tup => simp [V.isTup] at ht
  all_goals
    refine ⟨?_, by simp [V.isCell]⟩
    refine .cons _ _ _ _ ?_ .nil
    constructor <;> assumption

theorem VR.oneCell {v : V} {v' : Value} (h : VR P K v v') (hc : v.isCell = true) : v'.oneCell' = true := by
  cases h <;> first | rfl | simp [V.isCell] at hc
end
end Go.Ab
