/- The rules by which simp opens a walk (the set 'push_cast' bears them). -/
import Derived.Test.YtbibihbkkflidaaGxBack
set_option linter.unusedSimpArgs false
set_option linter.unusedVariables false
namespace Gx
open Go

/-- A fact that simp shall not take for one by computation: the kernel is then shown each step. -/
theorem nd {α : Sort _} {a b : α} (h : a = b) : a = b := h

attribute [push_cast] gcase_true gcase_false gassert_true

/-! eliminators that simp opens at their head alone -/
def optq {α : Type} (o : Option α) (k : α → Prop) (_p : Ph k := ()) : Prop := match o with | some x => k x | none => False
@[push_cast] theorem optq_some {α : Type} (x : α) (k : α → Prop) : optq (some x) k = k x := nd rfl
@[push_cast] theorem optq_none {α : Type} (k : α → Prop) : optq none k = False := nd rfl

def blkq (o : Option GBlk) (k : List (List GV) → Prop) (_p : Ph k := ()) : Prop := match o with | some (.cells _ _ rows) => k rows | _ => False
@[push_cast] theorem blkq_cells (t : TypeId) (e : Nat) (rows : List (List GV)) (k : List (List GV) → Prop) : blkq (some (.cells t e rows)) k = k rows := nd rfl

/-! frames -/
@[push_cast] theorem look_cons (k : Nat) (g : GV) (r : List (Nat × GV)) (t : Nat) : GF.look ((k, g) :: r) t = if k = t then g else GF.look r t := nd rfl
@[push_cast] theorem look_nil (t : Nat) : GF.look [] t = .dead := nd rfl
@[push_cast] theorem get_mk (n : Nat) (m : List (Nat × GV)) (t : Nat) : GF.get ⟨n, m⟩ t = GF.look m t := nd rfl
@[push_cast] theorem put_some (n : Nat) (m : List (Nat × GV)) (d : Nat) (g : GV) : GF.put ⟨n, m⟩ (some d) g = if d < n then ⟨n, (d, g) :: m⟩ else ⟨n, m⟩ := nd rfl
@[push_cast] theorem put_none (a : GF) (g : GV) : GF.put a none g = a := nd rfl
@[push_cast] theorem fix_mk (n : Nat) (m : List (Nat × GV)) (d : Nat) (g : GV) : GF.fix ⟨n, m⟩ d g = ⟨n, fixl m d g⟩ := nd rfl
@[push_cast] theorem fixl_cons (k : Nat) (g : GV) (r : List (Nat × GV)) (d : Nat) (x : GV) : fixl ((k, g) :: r) d x = if k = d then (k, x) :: r else (k, g) :: fixl r d x := nd rfl
@[push_cast] theorem fixl_nil (d : Nat) (x : GV) : fixl [] d x = [] := nd rfl
@[push_cast] theorem argsOf_cons (n : Nat) (g : GV) (r : List GV) : argsOf n (g :: r) = (n, g) :: argsOf (n + 1) r := nd rfl
@[push_cast] theorem argsOf_nil (n : Nat) : argsOf n [] = [] := nd rfl
@[push_cast] theorem ev_tmp (a : GF) (t : Nat) : a.ev (.tmp t) = a.get t := nd rfl
@[push_cast] theorem ev_const (a : GF) (x : Value) : a.ev (.const x) = ofConst x := nd rfl
@[push_cast] theorem ev_func (a : GF) (f : FuncId) : a.ev (.func f) = .fn (.func f) [] [] := nd rfl
@[push_cast] theorem ofConst_int (k : IntKind) (n : Int) : ofConst (.int k n) = .v (.int k n) := nd rfl
@[push_cast] theorem ofConst_bool (b : Bool) : ofConst (.bool b) = .v (.bool b) := nd rfl
@[push_cast] theorem ofConst_string (s : ByteArray) : ofConst (.string s) = .v (.string s) := nd rfl
@[push_cast] theorem ofConst_slice : ofConst (.slice none 0 0) = .esl := nd rfl
@[push_cast] theorem ofConst_nilFunc : ofConst .nilFunc = .v .nilFunc := nd rfl
@[push_cast] theorem ofConst_nilIface : ofConst .nilIface = .v .nilIface := nd rfl
@[push_cast] theorem ofConst_agg (cs : List Value) : ofConst (.agg cs.toArray) = if cs.toArray.all one then .agg (cs.map leafOf) else .dead := by
  unfold ofConst
  rfl
@[push_cast] theorem leafOf_int (k : IntKind) (n : Int) : leafOf (.int k n) = .v (.int k n) := nd rfl
@[push_cast] theorem leafOf_bool (b : Bool) : leafOf (.bool b) = .v (.bool b) := nd rfl
@[push_cast] theorem leafOf_slice : leafOf (.slice none 0 0) = .esl := nd rfl

/-! heaps -/
@[push_cast] theorem get_set (h : GH) (i : Nat) (b : GBlk) (j : Nat) : (h.set i b).get j = if j = i then some b else h.get j := nd rfl
@[push_cast] theorem get_del (h : GH) (i j : Nat) : (h.del i).get j = if j = i then none else h.get j := nd rfl
@[push_cast] theorem get_new (h : GH) (b : GBlk) (j : Nat) : (h.new b).get j = if j = h.next then some b else h.get j := nd rfl
@[push_cast] theorem next_set (h : GH) (i : Nat) (b : GBlk) : (h.set i b).next = h.next := nd rfl
@[push_cast] theorem next_del (h : GH) (i : Nat) : (h.del i).next = h.next := nd rfl
@[push_cast] theorem next_new (h : GH) (b : GBlk) : (h.new b).next = h.next + 1 := nd rfl

/-! code -/
section
variable {P : Program} {S0 : Sh} {plan : List (Nat × List (Nat × Nat))} {Q : Exit → GF → GH → Prop} {a a' : GF} {h h' : GH}
@[push_cast] theorem gwp_skip : gwp P S0 plan .skip Q a h = Q .normal a h := nd rfl
@[push_cast] theorem firstId_region {id : Nat} {ops : Array Oper} {d : Bool} : firstId (.region id ops d) = some id := nd rfl
@[push_cast] theorem firstId_seq {x y : Code} : firstId (.seq x y) = firstId x := nd rfl
@[push_cast] theorem firstId_block {id : Nat} {x : Code} : firstId (.block id x) = firstId x := nd rfl
@[push_cast] theorem firstId_loop {x : Code} : firstId (.loop x) = firstId x := nd rfl
@[push_cast] theorem firstId_cond {c : Operand} {x y : Code} : firstId (.cond c x y) = firstId x := nd rfl
@[push_cast] theorem firstId_skip : firstId .skip = none := nd rfl
@[push_cast] theorem firstId_exit {i : Nat} : firstId (.exit i) = none := nd rfl
@[push_cast] theorem firstId_ret : firstId .ret = none := nd rfl
@[push_cast] theorem planCut_none : planCut plan none = false := nd rfl
@[push_cast] theorem planCut_nil {id : Nat} : planCut [] (some id) = false := nd rfl
@[push_cast] theorem planCut_cons {k id : Nat} {o : List (Nat × Nat)} : planCut ((k, o) :: plan) (some id) = bif k == 1000000 + id then true else planCut plan (some id) := by
  simp only [planCut, List.any_cons]
  cases k == 1000000 + id <;> simp
/-- Two pieces of code between which the ways meet. -/
def gjoin (P : Program) (S0 : Sh) (plan : List (Nat × List (Nat × Nat))) (x y : Code) (Q : Exit → GF → GH → Prop) (a : GF) (h : GH) (_p : Ph Q := ()) (_q : Ph x := ()) (_r : Ph y := ()) : Prop := gwp P S0 plan x (Exit.thenG (fun a h => GWp P S0 y Q a h) Q) a h
@[push_cast] theorem gseqx_true {J X : Prop} : gseqx true J X = J := nd rfl
@[push_cast] theorem gseqx_false {J X : Prop} : gseqx false J X = X := nd rfl
@[push_cast] theorem gwp_seq {x y : Code} : gwp P S0 plan (.seq x y) Q a h = gseqx (planCut plan (firstId y)) (gjoin P S0 plan x y Q a h) (gwp P S0 plan x (Exit.thenG (fun a h => gwp P S0 plan y Q a h) Q) a h) := nd rfl
@[push_cast] theorem gwp_region {id : Nat} {ops : List Oper} : gwp P S0 plan (.region id ops.toArray false) Q a h = gw P ops.toArray ops (Q .normal) a h := nd rfl
@[push_cast] theorem gwp_draw {id : Nat} {ops : Array Oper} : gwp P S0 plan (.region id ops true) Q a h = gstat (drawOk ops (planOf plan id) = true) (gdr P ops [] (planOf plan id) (Q .normal) a h) := nd rfl
@[push_cast] theorem gwp_cond {c : Operand} {x y : Code} : gwp P S0 plan (.cond c x y) Q a h = gcond (a.ev c) (gwp P S0 plan x Q a h) (gwp P S0 plan y Q a h) := nd rfl
@[push_cast] theorem gwp_block {id : Nat} {c : Code} : gwp P S0 plan (.block id c) Q a h = gwp P S0 plan c (Exit.inBlockG id Q) a h := nd rfl
/-- A loop that waits for its invariant. -/
def gloop (P : Program) (S0 : Sh) (plan : List (Nat × List (Nat × Nat))) (c : Code) (Q : Exit → GF → GH → Prop) (a : GF) (h : GH) (_p : Ph Q := ()) (_q : Ph c := ()) : Prop := GWp P S0 (.loop c) Q a h
@[push_cast] theorem gwp_loop {c : Code} : gwp P S0 plan (.loop c) Q a h = gloop P S0 plan c Q a h := nd rfl
@[push_cast] theorem gwp_exit {id : Nat} : gwp P S0 plan (.exit id) Q a h = Q (.exit id) a h := nd rfl
@[push_cast] theorem gwp_ret : gwp P S0 plan .ret Q a h = Q .ret a h := nd rfl
variable {K : GF → GH → Prop}
@[push_cast] theorem thenG_normal : Exit.thenG K Q .normal a h = K a h := nd rfl
@[push_cast] theorem thenG_exit {id : Nat} : Exit.thenG K Q (.exit id) a h = Q (.exit id) a h := nd rfl
@[push_cast] theorem thenG_ret : Exit.thenG K Q .ret a h = Q .ret a h := nd rfl
@[push_cast] theorem inBlockG_normal {id : Nat} : Exit.inBlockG id Q .normal a h = Q .normal a h := nd rfl
@[push_cast] theorem inBlockG_ret {id : Nat} : Exit.inBlockG id Q .ret a h = Q .ret a h := nd rfl
@[push_cast] theorem inBlockG_exit {id i : Nat} : Exit.inBlockG id Q (.exit i) a h = if i = id then Q .normal a h else Q (.exit i) a h := by
  simp only [Exit.inBlockG]; split <;> rfl
@[push_cast] theorem gcond_bool {b : Bool} {X Y : Prop} : gcond (.v (.bool b)) X Y = gcase b X Y := nd rfl

/-! lists of operations -/
@[push_cast] theorem gw_nil {ops : Array Oper} : gw P ops [] K a h = K a h := nd rfl
@[push_cast] theorem gw_cons {ops : Array Oper} {dst : Option Tmp} {op : Op} {ty : TypeId} {pos : String} {after : Array Edge} {r : List Oper} :
    gw P ops (⟨dst, op, ty, pos, after, none⟩ :: r) K a h = gdo P op a h fun v h' => gw P ops r K (a.put dst v) h' := nd rfl
@[push_cast] theorem gw_guard {ops : Array Oper} {dst : Option Tmp} {op : Op} {ty : TypeId} {pos : String} {after : Array Edge} {g : Nat × Bool} {r : List Oper} :
    gw P ops (⟨dst, op, ty, pos, after, some g⟩ :: r) K a h = gguard ops (some g) a (fun a' => gdo P op a' h fun v h' => gw P ops r K (a'.put dst v) h') (fun a' => gw P ops r K (a'.put dst (.tup [])) h) := nd rfl
def gguardx (g : GV) (d : Nat) (want : Bool) (a : GF) (yes no : GF → Prop) (_p : Ph yes := ()) (_q : Ph no := ()) : Prop :=
  match g with
  | .v (.bool b) => gcase b (if want = true then yes (a.fix d (.v (.bool true))) else no (a.fix d (.v (.bool true)))) (if want = false then yes (a.fix d (.v (.bool false))) else no (a.fix d (.v (.bool false))))
  | .tup [] => no a
  | _ => False
@[push_cast] theorem gguardx_yes {b : Bool} {d : Nat} {yes no : GF → Prop} : gguardx (.v (.bool b)) d true a yes no = gcase b (yes (a.fix d (.v (.bool true)))) (no (a.fix d (.v (.bool false)))) := by
  simp [gguardx]
@[push_cast] theorem gguardx_no {b : Bool} {d : Nat} {yes no : GF → Prop} : gguardx (.v (.bool b)) d false a yes no = gcase b (no (a.fix d (.v (.bool true)))) (yes (a.fix d (.v (.bool false)))) := by
  simp [gguardx]
@[push_cast] theorem gguardx_skip {d : Nat} {w : Bool} {yes no : GF → Prop} : gguardx (.tup []) d w a yes no = no a := nd rfl
def gguardd (d : Option Nat) (want : Bool) (a : GF) (yes no : GF → Prop) (_p : Ph yes := ()) (_q : Ph no := ()) : Prop := match d with | some d => gguardx (a.get d) d want a yes no | none => False
@[push_cast] theorem gguardd_some {d : Nat} {want : Bool} {yes no : GF → Prop} : gguardd (some d) want a yes no = gguardx (a.get d) d want a yes no := nd rfl
def dstOf (l : List Oper) (j : Nat) : Option Nat := (l[j]?).bind (·.dst)
@[push_cast] theorem dstOf_zero {o : Oper} {r : List Oper} : dstOf (o :: r) 0 = o.dst := nd rfl
@[push_cast] theorem dstOf_succ {o : Oper} {r : List Oper} {n : Nat} : dstOf (o :: r) (n + 1) = dstOf r n := nd rfl
@[push_cast] theorem gguard_some {ops : List Oper} {j : Nat} {want : Bool} {yes no : GF → Prop} : gguard ops.toArray (some (j, want)) a yes no = gguardd (dstOf ops j) want a yes no := by
  unfold gguard gguardd dstOf
  simp only [List.getElem?_toArray]
  cases (ops[j]?).bind (·.dst) <;> rfl
@[push_cast] theorem gguard_none {ops : Array Oper} {yes no : GF → Prop} : gguard ops none a yes no = yes a := nd rfl
end
end Gx
