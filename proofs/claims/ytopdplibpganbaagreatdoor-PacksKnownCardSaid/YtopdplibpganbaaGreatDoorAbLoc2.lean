/-
  DERIVED. Locality and determinism of every abstract operation. Printed by wip/ab/gen_loc.py.
-/
import Derived.Test.YtopdplibpganbaaGreatDoorAbLoc
set_option linter.unusedSimpArgs false
set_option linter.unusedVariables false
namespace Go.Ab

theorem Loc.cellsOf (n : Nat) : Loc (Ab.cellsOf n) := by
  unfold Ab.cellsOf
  repeat' (first | exact Loc.ret _ | exact Loc.fail _ | exact Loc.need _ _ | exact Loc.getO _ | exact Loc.setO _ _ | exact Loc.newO _ | refine Loc.bind ?_ fun _ => ?_ | split)

theorem Loc.mapOf (x : V) : Loc (Ab.mapOf x) := by
  unfold Ab.mapOf
  repeat' (first | exact Loc.ret _ | exact Loc.fail _ | exact Loc.need _ _ | exact Loc.getO _ | exact Loc.setO _ _ | exact Loc.newO _ | exact Loc.cellsOf _ | refine Loc.bind ?_ fun _ => ?_ | split)

theorem Loc.elems (agg : Bool) (size : Nat) (x : V) : Loc (Ab.elems agg size x) := by
  unfold Ab.elems
  repeat' (first | exact Loc.ret _ | exact Loc.fail _ | exact Loc.need _ _ | exact Loc.getO _ | exact Loc.setO _ _ | exact Loc.newO _ | exact Loc.cellsOf _ | exact Loc.mapOf _ | refine Loc.bind ?_ fun _ => ?_ | split)

theorem Loc.opLoad (agg : Bool) (size : Nat) (x : V) : Loc (Ab.opLoad agg size x) := by
  unfold Ab.opLoad
  repeat' (first | exact Loc.ret _ | exact Loc.fail _ | exact Loc.need _ _ | exact Loc.getO _ | exact Loc.setO _ _ | exact Loc.newO _ | exact Loc.cellsOf _ | exact Loc.mapOf _ | exact Loc.elems _ _ _ | refine Loc.bind ?_ fun _ => ?_ | split)

theorem Loc.opStore (size : Nat) (a v : V) : Loc (Ab.opStore size a v) := by
  unfold Ab.opStore
  repeat' (first | exact Loc.ret _ | exact Loc.fail _ | exact Loc.need _ _ | exact Loc.getO _ | exact Loc.setO _ _ | exact Loc.newO _ | exact Loc.cellsOf _ | exact Loc.mapOf _ | exact Loc.elems _ _ _ | refine Loc.bind ?_ fun _ => ?_ | split)

theorem Loc.opApp (mu agg : Bool) (size bytes : Nat) (s x : V) : Loc (Ab.opApp mu agg size bytes s x) := by
  unfold Ab.opApp
  repeat' (first | exact Loc.ret _ | exact Loc.fail _ | exact Loc.need _ _ | exact Loc.getO _ | exact Loc.setO _ _ | exact Loc.newO _ | exact Loc.cellsOf _ | exact Loc.mapOf _ | exact Loc.elems _ _ _ | refine Loc.bind ?_ fun _ => ?_ | split)

theorem Loc.opSlice (k : Sk) (x : V) (lo hi mx : Option V) : Loc (Ab.opSlice k x lo hi mx) := by
  unfold Ab.opSlice
  repeat' (first | exact Loc.ret _ | exact Loc.fail _ | exact Loc.need _ _ | exact Loc.getO _ | exact Loc.setO _ _ | exact Loc.newO _ | exact Loc.cellsOf _ | exact Loc.mapOf _ | exact Loc.elems _ _ _ | refine Loc.bind ?_ fun _ => ?_ | split)

theorem Loc.opIaddr (arr : Option Nat) (size : Nat) (x i : V) : Loc (Ab.opIaddr arr size x i) := by
  unfold Ab.opIaddr
  repeat' (first | exact Loc.ret _ | exact Loc.fail _ | exact Loc.need _ _ | exact Loc.getO _ | exact Loc.setO _ _ | exact Loc.newO _ | exact Loc.cellsOf _ | exact Loc.mapOf _ | exact Loc.elems _ _ _ | refine Loc.bind ?_ fun _ => ?_ | split)

theorem Loc.opFaddr (off : Nat) (x : V) : Loc (Ab.opFaddr off x) := by
  unfold Ab.opFaddr
  repeat' (first | exact Loc.ret _ | exact Loc.fail _ | exact Loc.need _ _ | exact Loc.getO _ | exact Loc.setO _ _ | exact Loc.newO _ | exact Loc.cellsOf _ | exact Loc.mapOf _ | exact Loc.elems _ _ _ | refine Loc.bind ?_ fun _ => ?_ | split)

theorem Loc.opFld (agg : Bool) (size off : Nat) (x : V) : Loc (Ab.opFld agg size off x) := by
  unfold Ab.opFld
  repeat' (first | exact Loc.ret _ | exact Loc.fail _ | exact Loc.need _ _ | exact Loc.getO _ | exact Loc.setO _ _ | exact Loc.newO _ | exact Loc.cellsOf _ | exact Loc.mapOf _ | exact Loc.elems _ _ _ | refine Loc.bind ?_ fun _ => ?_ | split)

theorem Loc.opIdxs (x i : V) : Loc (Ab.opIdxs x i) := by
  unfold Ab.opIdxs
  repeat' (first | exact Loc.ret _ | exact Loc.fail _ | exact Loc.need _ _ | exact Loc.getO _ | exact Loc.setO _ _ | exact Loc.newO _ | exact Loc.cellsOf _ | exact Loc.mapOf _ | exact Loc.elems _ _ _ | refine Loc.bind ?_ fun _ => ?_ | split)

theorem Loc.opIdxa (len : Nat) (agg : Bool) (size : Nat) (x i : V) : Loc (Ab.opIdxa len agg size x i) := by
  unfold Ab.opIdxa
  repeat' (first | exact Loc.ret _ | exact Loc.fail _ | exact Loc.need _ _ | exact Loc.getO _ | exact Loc.setO _ _ | exact Loc.newO _ | exact Loc.cellsOf _ | exact Loc.mapOf _ | exact Loc.elems _ _ _ | refine Loc.bind ?_ fun _ => ?_ | split)

theorem Loc.opLook (kd : Kd) (zero x k : V) (ok : Bool) : Loc (Ab.opLook kd zero x k ok) := by
  unfold Ab.opLook
  repeat' (first | exact Loc.ret _ | exact Loc.fail _ | exact Loc.need _ _ | exact Loc.getO _ | exact Loc.setO _ _ | exact Loc.newO _ | exact Loc.cellsOf _ | exact Loc.mapOf _ | exact Loc.elems _ _ _ | refine Loc.bind ?_ fun _ => ?_ | split)

theorem Loc.opMapup (kd : Kd) (m k v : V) : Loc (Ab.opMapup kd m k v) := by
  unfold Ab.opMapup
  repeat' (first | exact Loc.ret _ | exact Loc.fail _ | exact Loc.need _ _ | exact Loc.getO _ | exact Loc.setO _ _ | exact Loc.newO _ | exact Loc.cellsOf _ | exact Loc.mapOf _ | exact Loc.elems _ _ _ | refine Loc.bind ?_ fun _ => ?_ | split)

theorem Loc.opDel (kd : Kd) (m k : V) : Loc (Ab.opDel kd m k) := by
  unfold Ab.opDel
  repeat' (first | exact Loc.ret _ | exact Loc.fail _ | exact Loc.need _ _ | exact Loc.getO _ | exact Loc.setO _ _ | exact Loc.newO _ | exact Loc.cellsOf _ | exact Loc.mapOf _ | exact Loc.elems _ _ _ | refine Loc.bind ?_ fun _ => ?_ | split)

theorem Loc.opNext (isStr : Bool) (x : V) : Loc (Ab.opNext isStr x) := by
  unfold Ab.opNext
  repeat' (first | exact Loc.ret _ | exact Loc.fail _ | exact Loc.need _ _ | exact Loc.getO _ | exact Loc.setO _ _ | exact Loc.newO _ | exact Loc.cellsOf _ | exact Loc.mapOf _ | exact Loc.elems _ _ _ | exact Loc.choose (by omega) | refine Loc.bind ?_ fun _ => ?_ | split)

theorem Loc.opEntry (x : V) : Loc (Ab.opEntry x) := by
  unfold Ab.opEntry
  repeat' (first | exact Loc.ret _ | exact Loc.fail _ | exact Loc.need _ _ | exact Loc.getO _ | exact Loc.setO _ _ | exact Loc.newO _ | exact Loc.cellsOf _ | exact Loc.mapOf _ | exact Loc.elems _ _ _ | refine Loc.bind ?_ fun _ => ?_ | split)

theorem Loc.opConv (c : Cv) (x : V) : Loc (Ab.opConv c x) := by
  unfold Ab.opConv
  repeat' (first | exact Loc.ret _ | exact Loc.fail _ | exact Loc.need _ _ | exact Loc.getO _ | exact Loc.setO _ _ | exact Loc.newO _ | exact Loc.cellsOf _ | exact Loc.mapOf _ | exact Loc.elems _ _ _ | refine Loc.bind ?_ fun _ => ?_ | split)

theorem Loc.opCopy (agg : Bool) (size : Nat) (d s : V) : Loc (Ab.opCopy agg size d s) := by
  unfold Ab.opCopy
  repeat' (first | exact Loc.ret _ | exact Loc.fail _ | exact Loc.need _ _ | exact Loc.getO _ | exact Loc.setO _ _ | exact Loc.newO _ | exact Loc.cellsOf _ | exact Loc.mapOf _ | exact Loc.elems _ _ _ | refine Loc.bind ?_ fun _ => ?_ | split)

theorem Loc.opClr (zero : List V) (x : V) : Loc (Ab.opClr zero x) := by
  unfold Ab.opClr
  repeat' (first | exact Loc.ret _ | exact Loc.fail _ | exact Loc.need _ _ | exact Loc.getO _ | exact Loc.setO _ _ | exact Loc.newO _ | exact Loc.cellsOf _ | exact Loc.mapOf _ | exact Loc.elems _ _ _ | refine Loc.bind ?_ fun _ => ?_ | split)

theorem Loc.opLen (k : Lk) (x : V) : Loc (Ab.opLen k x) := by
  unfold Ab.opLen
  repeat' (first | exact Loc.ret _ | exact Loc.fail _ | exact Loc.need _ _ | exact Loc.getO _ | exact Loc.setO _ _ | exact Loc.newO _ | exact Loc.cellsOf _ | exact Loc.mapOf _ | exact Loc.elems _ _ _ | refine Loc.bind ?_ fun _ => ?_ | split)

theorem Loc.opTass (yes : Bool) (zero : V) (ok : Bool) (v : V) : Loc (Ab.opTass yes zero ok v) := by
  unfold Ab.opTass
  repeat' (first | exact Loc.ret _ | exact Loc.fail _ | exact Loc.need _ _ | exact Loc.getO _ | exact Loc.setO _ _ | exact Loc.newO _ | exact Loc.cellsOf _ | exact Loc.mapOf _ | exact Loc.elems _ _ _ | refine Loc.bind ?_ fun _ => ?_ | split)

theorem Loc.opTassC (t : TypeId) (zero : V) (ok : Bool) (x : V) : Loc (Ab.opTassC t zero ok x) := by
  unfold Ab.opTassC
  repeat' (first | exact Loc.ret _ | exact Loc.fail _ | exact Loc.need _ _ | exact Loc.getO _ | exact Loc.setO _ _ | exact Loc.newO _ | exact Loc.cellsOf _ | exact Loc.mapOf _ | exact Loc.elems _ _ _ | exact Loc.opTass _ _ _ _ | refine Loc.bind ?_ fun _ => ?_ | split)

theorem Loc.opTassI (yes no : List TypeId) (zero : V) (ok : Bool) (x : V) : Loc (Ab.opTassI yes no zero ok x) := by
  unfold Ab.opTassI
  repeat' (first | exact Loc.ret _ | exact Loc.fail _ | exact Loc.need _ _ | exact Loc.getO _ | exact Loc.setO _ _ | exact Loc.newO _ | exact Loc.cellsOf _ | exact Loc.mapOf _ | exact Loc.elems _ _ _ | exact Loc.opTass _ _ _ _ | refine Loc.bind ?_ fun _ => ?_ | split)

theorem Loc.opRange (isMap : Bool) (x : V) : Loc (Ab.opRange isMap x) := by
  unfold Ab.opRange
  repeat' (first | exact Loc.ret _ | exact Loc.fail _ | exact Loc.need _ _ | exact Loc.getO _ | exact Loc.setO _ _ | exact Loc.newO _ | exact Loc.cellsOf _ | exact Loc.mapOf _ | exact Loc.elems _ _ _ | exact Loc.opTass _ _ _ _ | refine Loc.bind ?_ fun _ => ?_ | split)

theorem Loc.opMksl (size bytes : Nat) (zero : List V) (len cap : V) : Loc (Ab.opMksl size bytes zero len cap) := by
  unfold Ab.opMksl
  repeat' (first | exact Loc.ret _ | exact Loc.fail _ | exact Loc.need _ _ | exact Loc.getO _ | exact Loc.setO _ _ | exact Loc.newO _ | exact Loc.cellsOf _ | exact Loc.mapOf _ | exact Loc.elems _ _ _ | exact Loc.opTass _ _ _ _ | refine Loc.bind ?_ fun _ => ?_ | split)

theorem Loc.opCap (x : V) : Loc (Ab.opCap x) := by
  unfold Ab.opCap
  repeat' (first | exact Loc.ret _ | exact Loc.fail _ | exact Loc.need _ _ | exact Loc.getO _ | exact Loc.setO _ _ | exact Loc.newO _ | exact Loc.cellsOf _ | exact Loc.mapOf _ | exact Loc.elems _ _ _ | exact Loc.opTass _ _ _ _ | refine Loc.bind ?_ fun _ => ?_ | split)

theorem Loc.opMkmap (r : Option V) : Loc (Ab.opMkmap r) := by
  unfold Ab.opMkmap
  repeat' (first | exact Loc.ret _ | exact Loc.fail _ | exact Loc.need _ _ | exact Loc.getO _ | exact Loc.setO _ _ | exact Loc.newO _ | exact Loc.cellsOf _ | exact Loc.mapOf _ | exact Loc.elems _ _ _ | exact Loc.opTass _ _ _ _ | refine Loc.bind ?_ fun _ => ?_ | split)

theorem Loc.freeze (h : Option (Bool × Nat)) (v : V) : Loc (Ab.freeze h v) := by
  unfold Ab.freeze
  repeat' (first | exact Loc.ret _ | exact Loc.fail _ | exact Loc.need _ _ | exact Loc.getO _ | exact Loc.setO _ _ | exact Loc.newO _ | exact Loc.cellsOf _ | exact Loc.mapOf _ | exact Loc.elems _ _ _ | exact Loc.opTass _ _ _ _ | refine Loc.bind ?_ fun _ => ?_ | split)

theorem Dt.cellsOf (n : Nat) : Dt (Ab.cellsOf n) := by
  unfold Ab.cellsOf
  repeat' (first | exact Dt.ret _ | exact Dt.fail _ | exact Dt.need _ _ | exact Dt.getO _ | exact Dt.setO _ _ | exact Dt.newO _ | refine Dt.bind ?_ fun _ => ?_ | split)

theorem Dt.elems (agg : Bool) (size : Nat) (x : V) : Dt (Ab.elems agg size x) := by
  unfold Ab.elems
  repeat' (first | exact Dt.ret _ | exact Dt.fail _ | exact Dt.need _ _ | exact Dt.getO _ | exact Dt.setO _ _ | exact Dt.newO _ | exact Dt.cellsOf _ | exact Dt.mapOf _ | refine Dt.bind ?_ fun _ => ?_ | split)

theorem Dt.opLoad (agg : Bool) (size : Nat) (x : V) : Dt (Ab.opLoad agg size x) := by
  unfold Ab.opLoad
  repeat' (first | exact Dt.ret _ | exact Dt.fail _ | exact Dt.need _ _ | exact Dt.getO _ | exact Dt.setO _ _ | exact Dt.newO _ | exact Dt.cellsOf _ | exact Dt.mapOf _ | exact Dt.elems _ _ _ | refine Dt.bind ?_ fun _ => ?_ | split)

theorem Dt.opStore (size : Nat) (a v : V) : Dt (Ab.opStore size a v) := by
  unfold Ab.opStore
  repeat' (first | exact Dt.ret _ | exact Dt.fail _ | exact Dt.need _ _ | exact Dt.getO _ | exact Dt.setO _ _ | exact Dt.newO _ | exact Dt.cellsOf _ | exact Dt.mapOf _ | exact Dt.elems _ _ _ | refine Dt.bind ?_ fun _ => ?_ | split)

theorem Dt.opApp (mu agg : Bool) (size bytes : Nat) (s x : V) : Dt (Ab.opApp mu agg size bytes s x) := by
  unfold Ab.opApp
  repeat' (first | exact Dt.ret _ | exact Dt.fail _ | exact Dt.need _ _ | exact Dt.getO _ | exact Dt.setO _ _ | exact Dt.newO _ | exact Dt.cellsOf _ | exact Dt.mapOf _ | exact Dt.elems _ _ _ | refine Dt.bind ?_ fun _ => ?_ | split)

theorem Dt.opSlice (k : Sk) (x : V) (lo hi mx : Option V) : Dt (Ab.opSlice k x lo hi mx) := by
  unfold Ab.opSlice
  repeat' (first | exact Dt.ret _ | exact Dt.fail _ | exact Dt.need _ _ | exact Dt.getO _ | exact Dt.setO _ _ | exact Dt.newO _ | exact Dt.cellsOf _ | exact Dt.mapOf _ | exact Dt.elems _ _ _ | refine Dt.bind ?_ fun _ => ?_ | split)

theorem Dt.opIaddr (arr : Option Nat) (size : Nat) (x i : V) : Dt (Ab.opIaddr arr size x i) := by
  unfold Ab.opIaddr
  repeat' (first | exact Dt.ret _ | exact Dt.fail _ | exact Dt.need _ _ | exact Dt.getO _ | exact Dt.setO _ _ | exact Dt.newO _ | exact Dt.cellsOf _ | exact Dt.mapOf _ | exact Dt.elems _ _ _ | refine Dt.bind ?_ fun _ => ?_ | split)

theorem Dt.opFaddr (off : Nat) (x : V) : Dt (Ab.opFaddr off x) := by
  unfold Ab.opFaddr
  repeat' (first | exact Dt.ret _ | exact Dt.fail _ | exact Dt.need _ _ | exact Dt.getO _ | exact Dt.setO _ _ | exact Dt.newO _ | exact Dt.cellsOf _ | exact Dt.mapOf _ | exact Dt.elems _ _ _ | refine Dt.bind ?_ fun _ => ?_ | split)

theorem Dt.opFld (agg : Bool) (size off : Nat) (x : V) : Dt (Ab.opFld agg size off x) := by
  unfold Ab.opFld
  repeat' (first | exact Dt.ret _ | exact Dt.fail _ | exact Dt.need _ _ | exact Dt.getO _ | exact Dt.setO _ _ | exact Dt.newO _ | exact Dt.cellsOf _ | exact Dt.mapOf _ | exact Dt.elems _ _ _ | refine Dt.bind ?_ fun _ => ?_ | split)

theorem Dt.opIdxs (x i : V) : Dt (Ab.opIdxs x i) := by
  unfold Ab.opIdxs
  repeat' (first | exact Dt.ret _ | exact Dt.fail _ | exact Dt.need _ _ | exact Dt.getO _ | exact Dt.setO _ _ | exact Dt.newO _ | exact Dt.cellsOf _ | exact Dt.mapOf _ | exact Dt.elems _ _ _ | refine Dt.bind ?_ fun _ => ?_ | split)

theorem Dt.opIdxa (len : Nat) (agg : Bool) (size : Nat) (x i : V) : Dt (Ab.opIdxa len agg size x i) := by
  unfold Ab.opIdxa
  repeat' (first | exact Dt.ret _ | exact Dt.fail _ | exact Dt.need _ _ | exact Dt.getO _ | exact Dt.setO _ _ | exact Dt.newO _ | exact Dt.cellsOf _ | exact Dt.mapOf _ | exact Dt.elems _ _ _ | refine Dt.bind ?_ fun _ => ?_ | split)

theorem Dt.opLook (kd : Kd) (zero x k : V) (ok : Bool) : Dt (Ab.opLook kd zero x k ok) := by
  unfold Ab.opLook
  repeat' (first | exact Dt.ret _ | exact Dt.fail _ | exact Dt.need _ _ | exact Dt.getO _ | exact Dt.setO _ _ | exact Dt.newO _ | exact Dt.cellsOf _ | exact Dt.mapOf _ | exact Dt.elems _ _ _ | refine Dt.bind ?_ fun _ => ?_ | split)

theorem Dt.opMapup (kd : Kd) (m k v : V) : Dt (Ab.opMapup kd m k v) := by
  unfold Ab.opMapup
  repeat' (first | exact Dt.ret _ | exact Dt.fail _ | exact Dt.need _ _ | exact Dt.getO _ | exact Dt.setO _ _ | exact Dt.newO _ | exact Dt.cellsOf _ | exact Dt.mapOf _ | exact Dt.elems _ _ _ | refine Dt.bind ?_ fun _ => ?_ | split)

theorem Dt.opDel (kd : Kd) (m k : V) : Dt (Ab.opDel kd m k) := by
  unfold Ab.opDel
  repeat' (first | exact Dt.ret _ | exact Dt.fail _ | exact Dt.need _ _ | exact Dt.getO _ | exact Dt.setO _ _ | exact Dt.newO _ | exact Dt.cellsOf _ | exact Dt.mapOf _ | exact Dt.elems _ _ _ | refine Dt.bind ?_ fun _ => ?_ | split)

theorem Dt.opNext (x : V) : Dt (Ab.opNext true x) := by
  unfold Ab.opNext
  repeat' (first | exact Dt.ret _ | exact Dt.fail _ | exact Dt.need _ _ | exact Dt.getO _ | exact Dt.setO _ _ | exact Dt.newO _ | exact Dt.cellsOf _ | exact Dt.mapOf _ | exact Dt.elems _ _ _ | refine Dt.bind ?_ fun _ => ?_ | split | (rename_i hh; cases hh; done))

theorem Dt.opEntry (x : V) : Dt (Ab.opEntry x) := by
  unfold Ab.opEntry
  repeat' (first | exact Dt.ret _ | exact Dt.fail _ | exact Dt.need _ _ | exact Dt.getO _ | exact Dt.setO _ _ | exact Dt.newO _ | exact Dt.cellsOf _ | exact Dt.mapOf _ | exact Dt.elems _ _ _ | refine Dt.bind ?_ fun _ => ?_ | split)

theorem Dt.opConv (c : Cv) (x : V) : Dt (Ab.opConv c x) := by
  unfold Ab.opConv
  repeat' (first | exact Dt.ret _ | exact Dt.fail _ | exact Dt.need _ _ | exact Dt.getO _ | exact Dt.setO _ _ | exact Dt.newO _ | exact Dt.cellsOf _ | exact Dt.mapOf _ | exact Dt.elems _ _ _ | refine Dt.bind ?_ fun _ => ?_ | split)

theorem Dt.opCopy (agg : Bool) (size : Nat) (d s : V) : Dt (Ab.opCopy agg size d s) := by
  unfold Ab.opCopy
  repeat' (first | exact Dt.ret _ | exact Dt.fail _ | exact Dt.need _ _ | exact Dt.getO _ | exact Dt.setO _ _ | exact Dt.newO _ | exact Dt.cellsOf _ | exact Dt.mapOf _ | exact Dt.elems _ _ _ | refine Dt.bind ?_ fun _ => ?_ | split)

theorem Dt.opClr (zero : List V) (x : V) : Dt (Ab.opClr zero x) := by
  unfold Ab.opClr
  repeat' (first | exact Dt.ret _ | exact Dt.fail _ | exact Dt.need _ _ | exact Dt.getO _ | exact Dt.setO _ _ | exact Dt.newO _ | exact Dt.cellsOf _ | exact Dt.mapOf _ | exact Dt.elems _ _ _ | refine Dt.bind ?_ fun _ => ?_ | split)

theorem Dt.opLen (k : Lk) (x : V) : Dt (Ab.opLen k x) := by
  unfold Ab.opLen
  repeat' (first | exact Dt.ret _ | exact Dt.fail _ | exact Dt.need _ _ | exact Dt.getO _ | exact Dt.setO _ _ | exact Dt.newO _ | exact Dt.cellsOf _ | exact Dt.mapOf _ | exact Dt.elems _ _ _ | refine Dt.bind ?_ fun _ => ?_ | split)

theorem Dt.opTass (yes : Bool) (zero : V) (ok : Bool) (v : V) : Dt (Ab.opTass yes zero ok v) := by
  unfold Ab.opTass
  repeat' (first | exact Dt.ret _ | exact Dt.fail _ | exact Dt.need _ _ | exact Dt.getO _ | exact Dt.setO _ _ | exact Dt.newO _ | exact Dt.cellsOf _ | exact Dt.mapOf _ | exact Dt.elems _ _ _ | refine Dt.bind ?_ fun _ => ?_ | split)

theorem Dt.opTassC (t : TypeId) (zero : V) (ok : Bool) (x : V) : Dt (Ab.opTassC t zero ok x) := by
  unfold Ab.opTassC
  repeat' (first | exact Dt.ret _ | exact Dt.fail _ | exact Dt.need _ _ | exact Dt.getO _ | exact Dt.setO _ _ | exact Dt.newO _ | exact Dt.cellsOf _ | exact Dt.mapOf _ | exact Dt.elems _ _ _ | exact Dt.opTass _ _ _ _ | refine Dt.bind ?_ fun _ => ?_ | split)

theorem Dt.opTassI (yes no : List TypeId) (zero : V) (ok : Bool) (x : V) : Dt (Ab.opTassI yes no zero ok x) := by
  unfold Ab.opTassI
  repeat' (first | exact Dt.ret _ | exact Dt.fail _ | exact Dt.need _ _ | exact Dt.getO _ | exact Dt.setO _ _ | exact Dt.newO _ | exact Dt.cellsOf _ | exact Dt.mapOf _ | exact Dt.elems _ _ _ | exact Dt.opTass _ _ _ _ | refine Dt.bind ?_ fun _ => ?_ | split)

theorem Dt.opRange (isMap : Bool) (x : V) : Dt (Ab.opRange isMap x) := by
  unfold Ab.opRange
  repeat' (first | exact Dt.ret _ | exact Dt.fail _ | exact Dt.need _ _ | exact Dt.getO _ | exact Dt.setO _ _ | exact Dt.newO _ | exact Dt.cellsOf _ | exact Dt.mapOf _ | exact Dt.elems _ _ _ | exact Dt.opTass _ _ _ _ | refine Dt.bind ?_ fun _ => ?_ | split)

theorem Dt.opMksl (size bytes : Nat) (zero : List V) (len cap : V) : Dt (Ab.opMksl size bytes zero len cap) := by
  unfold Ab.opMksl
  repeat' (first | exact Dt.ret _ | exact Dt.fail _ | exact Dt.need _ _ | exact Dt.getO _ | exact Dt.setO _ _ | exact Dt.newO _ | exact Dt.cellsOf _ | exact Dt.mapOf _ | exact Dt.elems _ _ _ | exact Dt.opTass _ _ _ _ | refine Dt.bind ?_ fun _ => ?_ | split)

theorem Dt.opCap (x : V) : Dt (Ab.opCap x) := by
  unfold Ab.opCap
  repeat' (first | exact Dt.ret _ | exact Dt.fail _ | exact Dt.need _ _ | exact Dt.getO _ | exact Dt.setO _ _ | exact Dt.newO _ | exact Dt.cellsOf _ | exact Dt.mapOf _ | exact Dt.elems _ _ _ | exact Dt.opTass _ _ _ _ | refine Dt.bind ?_ fun _ => ?_ | split)

theorem Dt.opMkmap (r : Option V) : Dt (Ab.opMkmap r) := by
  unfold Ab.opMkmap
  repeat' (first | exact Dt.ret _ | exact Dt.fail _ | exact Dt.need _ _ | exact Dt.getO _ | exact Dt.setO _ _ | exact Dt.newO _ | exact Dt.cellsOf _ | exact Dt.mapOf _ | exact Dt.elems _ _ _ | exact Dt.opTass _ _ _ _ | refine Dt.bind ?_ fun _ => ?_ | split)

theorem Dt.freeze (h : Option (Bool × Nat)) (v : V) : Dt (Ab.freeze h v) := by
  unfold Ab.freeze
  repeat' (first | exact Dt.ret _ | exact Dt.fail _ | exact Dt.need _ _ | exact Dt.getO _ | exact Dt.setO _ _ | exact Dt.newO _ | exact Dt.cellsOf _ | exact Dt.mapOf _ | exact Dt.elems _ _ _ | exact Dt.opTass _ _ _ _ | refine Dt.bind ?_ fun _ => ?_ | split)

end Go.Ab
