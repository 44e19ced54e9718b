/-
  PacksKnown: the chapter's examples and limits of packs: the law returns true from every world that its row lets in (it has no argument). The tied card.
-/
import Derived.Test.YtopdplibpganbaaGreatDoorCards
import Derived.Test.YtopdplibpganbaaGreatDoorTie
import Derived.Test.YtopdplibpganbaaGreatDoorAbTop
import Derived.ProofKit
import Derived.OpenShut
import Derived.LaidMore
import Derived.Lay
import Derived.SevenTiedAt
import Derived.Stop.Joined
import Derived.Deep.DeepHandedRow
namespace Go.Proofs.YtopdplibpganbaaGreatDoor.PK
open Go.ChangeShapes Go.WideShapes Go.ChangeAt Go.RowKit Go.Ab

theorem own : ownKnob Tryz.prog.godebug = none := by kernel_rfl
noncomputable def st0 : St := { objs := .leaf, next := 64, lim := 0, rd := [], wr := [] }
noncomputable def T : Tbl := cAll Tryz.prog default fun _ => none
theorem run : okTrue (evF T 10000 60 5 [] st0) = true := by kernel_rfl

theorem heap_size {W : World} (h : W.ShapedOpen Tryz.prog) : Tryz.prog.globals.size ≤ W.heap.size := by
  have e : (((begin Tryz.prog (fun _ _ => 0) default).world.heap[Tryz.prog.globals.size - 1]?).bind Obj.row?).isSome = true := by kernel_rfl
  obtain ⟨⟨z, t⟩, e⟩ := Option.isSome_iff_exists.1 e
  obtain ⟨cs, h1, _⟩ := h.1 (Tryz.prog.globals.size - 1) z t (by decide +kernel) e
  have := (Array.getElem?_eq_some_iff.1 h1).1
  have h0 : Tryz.prog.globals.size ≠ 0 := by decide +kernel
  omega

theorem body : ∃ c, Tryz.f5.body = some c := Option.isSome_iff_exists.1 (by kernel_rfl)

theorem walk {W : World} (h : W.ShapedOpen Tryz.prog) : Calls Tryz.prog 5 #[] W fun e W' => e = .returned (.bool true) ∧ Below W.heap.size W W' := by
  obtain ⟨c, hb⟩ := body
  have hsz := heap_size h
  have R := Rel.init (P := Tryz.prog) (W := W) (L := 2 ^ 40) (next := 64) (X := fun _ => none) (G := fun _ => none) hsz (fun _ _ h => by cases h) (by decide +kernel) (fun _ _ h => by cases h) (fun _ _ _ h => by cases h)
  refine Calls.mono (calls_top (P := Tryz.prog) (H := default) (T := T) (loops := 10000) (n := 60) (f := 5) (fn := Tryz.f5) (args := []) (args' := #[]) (s := st0) (L := 2 ^ 40) (by kernel_rfl) (cAll_ok _ _ _) (fun _ => sumSound_none rfl)
    Tryz.func5 (by kernel_rfl) hb .nil (K0_globs _ _ fun _ => none) (R.congr fun n => by simp [st0, St.get, Tr.get]) (okTrue_all run) (fun v s' h => h.2)) fun e W' he => ?_
  obtain ⟨v, cv, s', K', rfl, ⟨rfl, _⟩, _, hv, R'⟩ := he
  cases hv
  exact ⟨rfl, R'.bel⟩

set_option maxRecDepth 100000 in
theorem lifted (os : Os) (started : os.Started) (H : Type) (enc : TypeId × Value → H) (F : Stop.Interp) :
    ReturnsInHanded {} Tryz.checked os 5 .any ((OpenSpec.ofChange Rows.packsKnownSpec).preRow enc Tryz.prog Tryz.f5 Rows.packsKnownRow.domain false Rows.packsKnownRow.laid) (((OpenSpec.ofChange Rows.packsKnownSpec).at F).post enc Tryz.prog Tryz.f5 false true false false) := by
  refine returnsInHanded_of_row (C := Tryz.checked) (s := OpenSpec.ofChange Rows.packsKnownSpec) own started (by kernel_rfl) Tryz.func5
    (ChangeSpec.witness_shaped (enc := enc) (C := Tryz.checked) (os := os) (X := fun w _ => laidMetH Tryz.prog Rows.packsKnownRow.laid w) false (World.laidAll Tryz.prog os Rows.packsKnownRow.laid) #[] 8 (World.laidAll_os _ _ _)
      (World.shaped_of_ZipB (by kernel_rfl) (by kernel_rfl)) (by kernel_rfl) (by kernel_rfl) (by kernel_rfl)
      (laidMet_laidAll _ (by kernel_rfl) (by kernel_rfl))) ?_
  intro W base args ds gs before hval hW _ _ _ _ hsh _
  have hW' := hW
  obtain ⟨p, q, hA0, hV, rfl, _, _⟩ := hW
  have hA : DataW.TrodAll enc Tryz.prog W 0 (fun _ => true) true Tryz.f5.params.toList args.toList ds p := hA0
  rw [Tryz.params5] at hA
  obtain ⟨hargs, rfl, rfl⟩ := trodAll_nil hA
  obtain rfl : args = #[] := by cases args; simp_all
  obtain ⟨rfl, rfl⟩ := trodVars_none hV
  refine (walk hsh).mono fun e W' ⟨he, bel⟩ => ?_
  subst he
  refine ⟨_, rfl, ?_⟩
  refine ⟨_, _, _, [], [], [], hW', trodAll_mk1 (shut_bool Tryz.underlying4 _), trodAll_mk0, rfl, bel.frame _, fun h => by cases h⟩

theorem said : Rows.PacksKnownSaid :=
  OpenClaim.holds_of_cond 5 Tryz.f5 rfl rfl rfl rfl rfl rfl rfl ⟨rfl, rfl, rfl, rfl, rfl⟩ rfl rfl rfl rfl rfl (by kernel_rfl) Tryz.func5 (by kernel_rfl)
    (of_decide_eq_true (by kernel_rfl)) (by unfold Func.isWrapper; first | (rw [if_pos (by decide +kernel)]; kernel_rfl) | (rw [if_neg (by decide +kernel)]; exact ⟨rfl, rfl⟩))
    (fun os started H enc _ F => by rw [OpenClaim.pre_eq_preRow]; exact lifted os started H enc F)

theorem plain (f : FuncId) (fn : Func) (hf : Tryz.pinned.checked.prog.funcNamed "quitrent/quitrentlaw19.PacksKnown" = some f) (hfn : Tryz.pinned.checked.prog.funcs[f]? = some fn) :
    true = Tryz.pinned.checked.prog.looks [] ∧ ∀ (j : Nat) t, fn.params[j]? = some t → Tryz.pinned.checked.prog.wantsStandIn t = false := by
  obtain rfl : f = 5 := Option.some.inj ((show Tryz.prog.funcNamed "quitrent/quitrentlaw19.PacksKnown" = some 5 by kernel_rfl).symm.trans hf) |>.symm
  obtain rfl : fn = Tryz.f5 := (Option.some.inj (Tryz.func5.symm.trans hfn)).symm
  refine ⟨by kernel_rfl, fun j t ht => ?_⟩
  rw [Tryz.params5] at ht
  simp at ht

theorem packsKnown_card : Rows.PacksKnownCardSaid :=
  Claim7.holds_tied_plain_at .later [] _ _ _ _ said (fun _ h => by cases h) (by kernel_rfl) (fun _ h => by cases h) packsKnown_row_tie rfl ⟨rfl, rfl⟩ (by kernel_rfl) rfl plain (by kernel_rfl)
end Go.Proofs.YtopdplibpganbaaGreatDoor.PK
namespace Go.Proofs.YtopdplibpganbaaGreatDoor
theorem packsKnown_holds : Rows.PacksKnownCardSaid := PK.packsKnown_card
#print axioms packsKnown_holds
end Go.Proofs.YtopdplibpganbaaGreatDoor
