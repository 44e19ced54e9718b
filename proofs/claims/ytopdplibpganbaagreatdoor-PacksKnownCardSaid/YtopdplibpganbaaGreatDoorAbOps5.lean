/-
  DERIVED. Each operation of the abstract machine, held against the model's: operators, conversions, maps.
-/
import Derived.Test.YtopdplibpganbaaGreatDoorAbOps4
set_option linter.unusedSimpArgs false
set_option linter.unusedVariables false
namespace Go.Ab
open Go.RowKit
section
variable {P : Program} {W0 : World} {base L : Nat} {K : Kr} {s s' : St} {w : World}

/-! ### Strings -/
theorem bytes_ext {a b : ByteArray} (h : a.data.toList = b.data.toList) : a = b := by
  cases a; cases b
  simp only [ByteArray.mk.injEq]
  exact Array.toList_inj.1 h

theorem bytes_beq {a b : ByteArray} {x y : List UInt8} (ha : a.data.toList = x) (hb : b.data.toList = y) : (a == b) = (x == y) := by
  subst ha; subst hb
  rw [Bool.eq_iff_iff]
  have e : (a == b) = (a.data == b.data) := rfl
  rw [e]
  constructor
  · intro h
    rw [eq_of_beq h]; simp
  · intro h
    have h' : a = b := bytes_ext (by simpa using h)
    rw [h']; simp

theorem toList_loop (b : ByteArray) : ∀ (n i : Nat) (r : List UInt8), b.size - i = n → ByteArray.toList.loop b i r = r.reverse ++ b.data.toList.drop i := by
  intro n
  induction n with
  | zero =>
    intro i r h
    unfold ByteArray.toList.loop
    rw [if_neg (by omega)]
    have : b.data.toList.length ≤ i := by have : b.data.toList.length = b.size := Array.length_toList; omega
    rw [List.drop_of_length_le this]; simp
  | succ n ih =>
    intro i r h
    unfold ByteArray.toList.loop
    have hlt : i < b.size := by omega
    rw [if_pos hlt, ih (i + 1) _ (by omega)]
    have hl : i < b.data.toList.length := by have : b.data.toList.length = b.size := Array.length_toList; omega
    rw [List.drop_eq_getElem_cons hl, List.reverse_cons, List.append_assoc]
    have e : b.get! i = b.data.toList[i] := by
      have e0 : b.get! i = b.data[i]! := rfl
      have hi : i < b.data.size := hlt
      rw [e0, getElem!_pos b.data i hi]
      simp
    rw [e]; rfl

theorem toList_eq (b : ByteArray) : b.toList = b.data.toList := by
  have := toList_loop b b.size 0 [] (by omega)
  simpa [ByteArray.toList] using this

theorem sless_eq : ∀ (a b : List UInt8), Op.bytesLess a b = sless a b
  | [], [] => rfl
  | [], _ :: _ => rfl
  | _ :: _, [] => rfl
  | a :: x, b :: y => by simp only [Op.bytesLess, sless, sless_eq x y]

theorem sbin_sim {op : BinOp} {x y : List UInt8} {a b : ByteArray} (ha : a.data.toList = x) (hb : b.data.toList = y) {v : V} (h : sbin op x y = some v) :
    ∃ cv, (Op.stringOp op a b).run P w = .ok cv w ∧ VR P K v cv := by
  have e1 : a.toList = x := by rw [toList_eq, ha]
  have e2 : b.toList = y := by rw [toList_eq, hb]
  have s1 : a.size = x.length := by rw [← ha]; exact (Array.length_toList).symm
  have s2 : b.size = y.length := by rw [← hb]; exact (Array.length_toList).symm
  unfold Op.stringOp
  rw [e1, e2, sless_eq]
  unfold sbin at h
  cases op <;> simp only [Option.some.injEq] at h <;> first
    | (subst h; exact ⟨_, rfl, .bool _⟩)
    | cases h
    | skip
  case add =>
    split at h
    · rename_i hlt
      cases h
      refine ⟨.string (a ++ b), ?_, .str _ _ (by rw [← ha, ← hb]; simp)⟩
      have : most < 9223372036854775807 := by decide
      have h0 : ¬ (((a.size + b.size : Nat) : Int) > IntKind.i64.max) := by simp; omega
      simp only [h0, if_false, Sem.run_pure]
    · cases h

/-! ### Whole numbers -/
theorem ibin_sim {op : BinOp} {t : TypeId} {k : IntKind} {a b : Int} {v : V} (h : ibin op k a b = some v) :
    ∃ cv, (binOp op t (.int k a) (.int k b)).run P w = .ok cv w ∧ VR P K v cv := by
  unfold ibin at h
  cases op <;> simp only [Option.some.injEq] at h
  case add => subst h; exact ⟨_, by rw [binOp_add]; rfl, .int _ _⟩
  case sub => subst h; exact ⟨_, by rw [binOp_sub]; rfl, .int _ _⟩
  case mul => subst h; exact ⟨_, by rw [binOp_mul]; rfl, .int _ _⟩
  case quo =>
    split at h
    · cases h
    · rename_i hb
      cases h
      exact ⟨.int k (k.wrap (a.tdiv b)), by rw [binOp_quo]; simp [Op.intDiv, hb], .int _ _⟩
  case rem =>
    split at h
    · cases h
    · rename_i hb
      cases h
      exact ⟨.int k (a.tmod b), by rw [binOp_rem]; simp [Op.intDiv, hb], .int _ _⟩
  case and => subst h; exact ⟨_, by rw [binOp_and]; rfl, .int _ _⟩
  case or => subst h; exact ⟨_, by rw [binOp_or]; rfl, .int _ _⟩
  case xor => subst h; exact ⟨_, by rw [binOp_xor]; rfl, .int _ _⟩
  case andNot => subst h; exact ⟨_, by rw [binOp_andNot]; rfl, .int _ _⟩
  case shl => cases h
  case shr => cases h
  case eql => subst h; exact ⟨_, by rw [binOp_eql]; rfl, .bool _⟩
  case neq => subst h; exact ⟨_, by rw [binOp_neq]; rfl, .bool _⟩
  case lss => subst h; exact ⟨_, by rw [binOp_lss]; rfl, .bool _⟩
  case leq => subst h; exact ⟨_, by rw [binOp_leq]; rfl, .bool _⟩
  case gtr => subst h; exact ⟨_, by rw [binOp_gtr]; rfl, .bool _⟩
  case geq => subst h; exact ⟨_, by rw [binOp_geq]; rfl, .bool _⟩

theorem ishift_sim {op : BinOp} {t : TypeId} {k k' : IntKind} {a b : Int} {v : V} (h : ishift op k a b = some v) :
    ∃ cv, (binOp op t (.int k a) (.int k' b)).run P w = .ok cv w ∧ VR P K v cv := by
  unfold ishift at h
  split at h
  · cases h
  · rename_i hb
    have hb' : ¬ b < 0 := hb
    cases op <;> simp only [Option.some.injEq] at h <;> first
      | cases h; done
      | skip
    case shl => subst h; exact ⟨.int k (k.wrap (a * 2 ^ min b.toNat k.bits)), by rw [binOp_shl]; simp [Op.shift, hb'], .int _ _⟩
    case shr => subst h; exact ⟨.int k (a.fdiv (2 ^ min b.toNat k.bits)), by rw [binOp_shr]; simp [Op.shift, hb'], .int _ _⟩

/-! ### Equality -/
def Kd.fits : Kd → TypeDesc → Bool
  | .int, .int _ => true
  | .str, .string => true
  | .bool, .bool => true
  | _, _ => false

theorem keq_sim {kd : Kd} {x y : V} {cx cy : Value} (hx : VR P K x cx) (hy : VR P K y cy) {r : Bool} (h : keq kd x y = some r) {d : TypeDesc} (hd : kd.fits d = true) :
    Instr.sameNow d cx cy = some r ∧ (r = true → Instr.sameBits 10000 cy cx = true) ∧ ∀ n t, P.underlying t = some d → (Op.equalIn (n + 1) t cx cy).run P w = .ok r w := by
  cases hx <;> cases hy <;> cases kd <;> simp only [keq] at h <;> (try cases h)
  case bool.bool.bool a b =>
    cases d <;> simp only [Kd.fits, Bool.false_eq_true] at hd
    refine ⟨rfl, fun e => ?_, fun n t ht => by simp [Op.equalIn, run_underlying ht]⟩
    simp only [beq_iff_eq] at e; subst e; simp [Instr.sameBits]
  case int.int.int k a k' b =>
    cases d <;> simp only [Kd.fits, Bool.false_eq_true] at hd
    by_cases hk : k = k'
    · subst hk
      rw [if_pos rfl] at h
      simp only [Option.some.injEq] at h
      subst h
      refine ⟨by simp [Instr.sameNow], fun e => ?_, fun n t ht => by simp [Op.equalIn, run_underlying ht]⟩
      simp only [beq_iff_eq] at e; subst e; simp [Instr.sameBits]
    · rw [if_neg hk] at h; cases h
  case str.str.str x a ha y b hb =>
    cases d <;> simp only [Kd.fits, Bool.false_eq_true] at hd
    have := bytes_beq ha hb
    refine ⟨by simp only [Instr.sameNow, this], fun e => ?_, fun n t ht => by simp [Op.equalIn, run_underlying ht, this]⟩
    have e2 := bytes_beq hb ha
    simp only [beq_iff_eq] at e; subst e
    simp [Instr.sameBits, e2]

end
end Go.Ab
