/- The rules by which simp opens a walk: operations. -/
import Derived.Test.YtbibihbkkflidaaGxSimp
set_option linter.unusedSimpArgs false
set_option linter.unusedVariables false
namespace Gx
open Go

section
variable {P : Program} {a a' : GF} {h h' : GH} {k : GV → Prop} {K : GV → GH → Prop} {KK : GF → GH → Prop}

/-! an operation -/
@[push_cast] theorem gdo_alloc {t : TypeId} : gdo P (.alloc t) a h K = galloc P t h K := nd rfl
@[push_cast] theorem gdo_box {t : TypeId} {x : Operand} : gdo P (.box t x) a h K = gbox P t (a.ev x) h K := nd rfl
@[push_cast] theorem gdo_load {t : TypeId} {x : Operand} : gdo P (.load t x) a h K = gload P t (a.ev x) h fun v => K v h := nd rfl
@[push_cast] theorem gdo_store {t : TypeId} {x v : Operand} : gdo P (.store t x v) a h K = gstore P t (a.ev x) (a.ev v) h fun h' => K .dead h' := nd rfl
@[push_cast] theorem gdo_buildSlice {t : TypeId} {n : Nat} {ps : List (Nat × Operand)} : gdo P (.buildSlice t n ps.toArray) a h K = glitNew P t n (ps.map fun p => (p.1, a.ev p.2)) h K := nd rfl
@[push_cast] theorem gdo_makeSlice {t : TypeId} {l c : Operand} : gdo P (.makeSlice t l c) a h K = gmake P t (a.ev l) (a.ev c) h K := nd rfl
@[push_cast] theorem gdo_builtin {b : Builtin} {args : List Operand} {ts : List TypeId} : gdo P (.call { callee := .builtin b, args := args.toArray, argTypes := ts.toArray }) a h K = gbuiltin P b ts (args.map a.ev) h K := nd rfl
@[push_cast] theorem gdo_call {f : Operand} {args : List Operand} {ts : Array TypeId} : gdo P (.call { callee := .value f, args := args.toArray, argTypes := ts }) a h K = gcallv P (a.ev f) (args.map a.ev) h K := nd rfl
@[push_cast] theorem gdo_move {x : Operand} : gdo P (.move x) a h K = K (a.ev x) h := nd rfl
@[push_cast] theorem gdo_assign {x : Operand} : gdo P (.assign x) a h K = K (a.ev x) h := nd rfl
@[push_cast] theorem gdo_pick {c x y : Operand} : gdo P (.pick c x y) a h K = gpickg (a.ev c) (a.ev x) (a.ev y) fun v => K v h := nd rfl
@[push_cast] theorem gdo_nilCheck {x : Operand} : gdo P (.nilCheck x) a h K = gnilCheck (a.ev x) fun v => K v h := nd rfl
@[push_cast] theorem gdo_binOp {op : BinOp} {t yt : TypeId} {x y : Operand} : gdo P (.binOp op t x y yt) a h K = gbin P op t (a.ev x) (a.ev y) fun v => K v h := nd rfl
@[push_cast] theorem gdo_unOp {op : UnOp} {t : TypeId} {x : Operand} : gdo P (.unOp op t x) a h K = gun op (a.ev x) fun v => K v h := nd rfl
@[push_cast] theorem gdo_convert {s d : TypeId} {x : Operand} : gdo P (.convert s d x) a h K = gconv P s d (a.ev x) fun v => K v h := nd rfl
@[push_cast] theorem gdo_makeFunc {f : Fn} {first caps : List Operand} : gdo P (.makeFunc f first.toArray caps.toArray) a h K = K (.fn f (first.map a.ev) (caps.map a.ev)) h := nd rfl
@[push_cast] theorem gdo_slice {t : TypeId} {x : Operand} {lo hi mx : Option Operand} : gdo P (.slice t x lo hi mx) a h K = gslice P t (a.ev x) (lo.map a.ev) (hi.map a.ev) (mx.map a.ev) fun v => K v h := nd rfl
@[push_cast] theorem gdo_fieldAddr {s : TypeId} {x : Operand} {f : Nat} : gdo P (.fieldAddr s x f) a h K = gfield P s f (a.ev x) fun v => K v h := nd rfl
@[push_cast] theorem gdo_field {t : TypeId} {x : Operand} {f : Nat} : gdo P (.field t x f) a h K = gfieldv P t f (a.ev x) fun v => K v h := nd rfl
@[push_cast] theorem gdo_indexAddr {t : TypeId} {x i : Operand} : gdo P (.indexAddr t x i) a h K = gindex P t (a.ev x) (a.ev i) fun v => K v h := nd rfl
@[push_cast] theorem gdo_index {t : TypeId} {x i : Operand} : gdo P (.index t x i) a h K = gindexv P t (a.ev x) (a.ev i) fun v => K v h := nd rfl
@[push_cast] theorem gdo_extract {x : Operand} {i : Nat} : gdo P (.extract x i) a h K = gextract (a.ev x) i fun v => K v h := nd rfl
@[push_cast] theorem gdo_build {t : TypeId} {ps : List (Nat × Operand)} : gdo P (.build t ps.toArray) a h K = gbuild P t (ps.map fun p => (p.1, a.ev p.2)) fun v => K v h := nd rfl

@[push_cast] theorem gins_move {x : Operand} : gins P (.move x) a k = k (a.ev x) := nd rfl
@[push_cast] theorem gins_assign {x : Operand} : gins P (.assign x) a k = k (a.ev x) := nd rfl
@[push_cast] theorem gins_pick {c x y : Operand} : gins P (.pick c x y) a k = gpickg (a.ev c) (a.ev x) (a.ev y) k := nd rfl
@[push_cast] theorem gins_nilCheck {x : Operand} : gins P (.nilCheck x) a k = gnilCheck (a.ev x) k := nd rfl
@[push_cast] theorem gins_binOp {op : BinOp} {t yt : TypeId} {x y : Operand} : gins P (.binOp op t x y yt) a k = gbin P op t (a.ev x) (a.ev y) k := nd rfl
@[push_cast] theorem gins_unOp {op : UnOp} {t : TypeId} {x : Operand} : gins P (.unOp op t x) a k = gun op (a.ev x) k := nd rfl
@[push_cast] theorem gins_convert {s d : TypeId} {x : Operand} : gins P (.convert s d x) a k = gconv P s d (a.ev x) k := nd rfl
@[push_cast] theorem gins_makeFunc {f : Fn} {first caps : List Operand} : gins P (.makeFunc f first.toArray caps.toArray) a k = k (.fn f (first.map a.ev) (caps.map a.ev)) := nd rfl
@[push_cast] theorem gins_slice {t : TypeId} {x : Operand} {lo hi mx : Option Operand} : gins P (.slice t x lo hi mx) a k = gslice P t (a.ev x) (lo.map a.ev) (hi.map a.ev) (mx.map a.ev) k := nd rfl
@[push_cast] theorem gins_fieldAddr {s : TypeId} {x : Operand} {f : Nat} : gins P (.fieldAddr s x f) a k = gfield P s f (a.ev x) k := nd rfl
@[push_cast] theorem gins_field {t : TypeId} {x : Operand} {f : Nat} : gins P (.field t x f) a k = gfieldv P t f (a.ev x) k := nd rfl
@[push_cast] theorem gins_indexAddr {t : TypeId} {x i : Operand} : gins P (.indexAddr t x i) a k = gindex P t (a.ev x) (a.ev i) k := nd rfl
@[push_cast] theorem gins_index {t : TypeId} {x i : Operand} : gins P (.index t x i) a k = gindexv P t (a.ev x) (a.ev i) k := nd rfl
@[push_cast] theorem gins_extract {x : Operand} {i : Nat} : gins P (.extract x i) a k = gextract (a.ev x) i k := nd rfl
@[push_cast] theorem gins_build {t : TypeId} {ps : List (Nat × Operand)} : gins P (.build t ps.toArray) a k = gbuild P t (ps.map fun p => (p.1, a.ev p.2)) k := nd rfl
@[push_cast] theorem gins_load {t : TypeId} {x : Operand} : gins P (.load t x) a k = gloadI P t (a.ev x) k := nd rfl
@[push_cast] theorem gins_buildSlice {t : TypeId} {n : Nat} {ps : List (Nat × Operand)} : gins P (.buildSlice t n ps.toArray) a k = glitVal P t n (ps.map fun p => (p.1, a.ev p.2)) k := nd rfl
@[push_cast] theorem gins_len {x : Operand} {t : TypeId} : gins P (.call { callee := .builtin .len, args := #[x], argTypes := #[t] }) a k = glen P t (a.ev x) k := nd rfl
def ginsc (P : Program) (f : GV) (args : List GV) (k : GV → Prop) (_p : Ph k := ()) : Prop := match f with
  | .fn (.func f) first caps => GPureK P f (first ++ args ++ caps) k
  | _ => False
@[push_cast] theorem ginsc_fn {f : FuncId} {first caps args : List GV} : ginsc P (.fn (.func f) first caps) args k = GPureK P f (first ++ args ++ caps) k := nd rfl
@[push_cast] theorem gins_call {f : Operand} {args : List Operand} {ts : Array TypeId} : gins P (.call { callee := .value f, args := args.toArray, argTypes := ts }) a k = ginsc P (a.ev f) (args.map a.ev) k := nd rfl
def gholdc (P : Program) (f : GV) (args : List GV) (h : GH) (k : GV → Prop) (_p : Ph k := ()) : Prop := match f with
  | .fn (.func f) first caps => GHeldK P f (first ++ args ++ caps) h k
  | _ => False
@[push_cast] theorem gholdc_fn {f : FuncId} {first caps args : List GV} : gholdc P (.fn (.func f) first caps) args h k = GHeldK P f (first ++ args ++ caps) h k := nd rfl
@[push_cast] theorem ghold_call {f : Operand} {args : List Operand} {ts : Array TypeId} : ghold P (.call { callee := .value f, args := args.toArray, argTypes := ts }) a h k = gholdc P (a.ev f) (args.map a.ev) h k := nd rfl
@[push_cast] theorem ghold_load {t : TypeId} {x : Operand} : ghold P (.load t x) a h k = gload P t (a.ev x) h k := nd rfl

/-! regions that draw -/
@[push_cast] theorem gdr_nil {ops : Array Oper} {prot : List Nat} : gdr P ops prot [] KK a h = KK a h := nd rfl
def gdrx (P : Program) (ops : Array Oper) (prot : List Nat) (o : Oper) (tag : Nat) (r : List (Nat × Nat)) (KK : GF → GH → Prop) (a : GF) (h : GH) (_p : Ph KK := ()) (_q : Ph ops := ()) (_r : Ph o := ()) : Prop :=
  gguard ops o.guard a
      (fun a' => match tag with
        | 0 => gins P o.op a' fun v => gdr P ops prot r KK (a'.put o.dst v) h
        | 1 => ghold P o.op a' h fun v => gdr P ops prot r KK (a'.put o.dst v) h
        | 3 => gkeep P o.op a' h fun id v => gdr P ops (id :: prot) r KK (a'.put o.dst v) h
        | 4 => gdo P o.op a' h fun v h' => gprot prot h h' (gdr P ops prot r KK (a'.put o.dst v) h')
        | _ => gdo P o.op a' h fun v h' => gdr P ops prot r KK (a'.put o.dst v) h')
      (fun a' => gdr P ops prot r KK (a'.put o.dst (.tup [])) h)
def operOf (l : List Oper) (i : Nat) : Option Oper := l[i]?
@[push_cast] theorem operOf_zero {o : Oper} {r : List Oper} : operOf (o :: r) 0 = some o := nd rfl
@[push_cast] theorem operOf_succ {o : Oper} {r : List Oper} {n : Nat} : operOf (o :: r) (n + 1) = operOf r n := nd rfl
@[push_cast] theorem gdr_cons {ops : List Oper} {prot : List Nat} {i tag : Nat} {r : List (Nat × Nat)} : gdr P ops.toArray prot ((i, tag) :: r) KK a h = optq (operOf ops i) fun o => gdrx P ops.toArray prot o tag r KK a h := by
  simp only [gdr, operOf, List.getElem?_toArray]
  cases ops[i]? <;> rfl
@[push_cast] theorem gdrx_0 {ops : Array Oper} {prot : List Nat} {dst : Option Tmp} {op : Op} {ty : TypeId} {pos : String} {after : Array Edge} {r : List (Nat × Nat)} :
    gdrx P ops prot ⟨dst, op, ty, pos, after, none⟩ 0 r KK a h = gins P op a fun v => gdr P ops prot r KK (a.put dst v) h := nd rfl
@[push_cast] theorem gdrx_1 {ops : Array Oper} {prot : List Nat} {dst : Option Tmp} {op : Op} {ty : TypeId} {pos : String} {after : Array Edge} {r : List (Nat × Nat)} :
    gdrx P ops prot ⟨dst, op, ty, pos, after, none⟩ 1 r KK a h = ghold P op a h fun v => gdr P ops prot r KK (a.put dst v) h := nd rfl
@[push_cast] theorem gdrx_2 {ops : Array Oper} {prot : List Nat} {dst : Option Tmp} {op : Op} {ty : TypeId} {pos : String} {after : Array Edge} {r : List (Nat × Nat)} :
    gdrx P ops prot ⟨dst, op, ty, pos, after, none⟩ 2 r KK a h = gdo P op a h fun v h' => gdr P ops prot r KK (a.put dst v) h' := nd rfl
@[push_cast] theorem gdrx_4 {ops : Array Oper} {prot : List Nat} {dst : Option Tmp} {op : Op} {ty : TypeId} {pos : String} {after : Array Edge} {r : List (Nat × Nat)} :
    gdrx P ops prot ⟨dst, op, ty, pos, after, none⟩ 4 r KK a h = gdo P op a h fun v h' => gprot prot h h' (gdr P ops prot r KK (a.put dst v) h') := nd rfl
@[push_cast] theorem gdrx_g0 {ops : Array Oper} {prot : List Nat} {dst : Option Tmp} {op : Op} {ty : TypeId} {pos : String} {after : Array Edge} {g : Nat × Bool} {r : List (Nat × Nat)} :
    gdrx P ops prot ⟨dst, op, ty, pos, after, some g⟩ 0 r KK a h = gguard ops (some g) a (fun a' => gins P op a' fun v => gdr P ops prot r KK (a'.put dst v) h) (fun a' => gdr P ops prot r KK (a'.put dst (.tup [])) h) := nd rfl
@[push_cast] theorem gdrx_g1 {ops : Array Oper} {prot : List Nat} {dst : Option Tmp} {op : Op} {ty : TypeId} {pos : String} {after : Array Edge} {g : Nat × Bool} {r : List (Nat × Nat)} :
    gdrx P ops prot ⟨dst, op, ty, pos, after, some g⟩ 1 r KK a h = gguard ops (some g) a (fun a' => ghold P op a' h fun v => gdr P ops prot r KK (a'.put dst v) h) (fun a' => gdr P ops prot r KK (a'.put dst (.tup [])) h) := nd rfl
@[push_cast] theorem gdrx_g2 {ops : Array Oper} {prot : List Nat} {dst : Option Tmp} {op : Op} {ty : TypeId} {pos : String} {after : Array Edge} {g : Nat × Bool} {r : List (Nat × Nat)} :
    gdrx P ops prot ⟨dst, op, ty, pos, after, some g⟩ 2 r KK a h = gguard ops (some g) a (fun a' => gdo P op a' h fun v h' => gdr P ops prot r KK (a'.put dst v) h') (fun a' => gdr P ops prot r KK (a'.put dst (.tup [])) h) := nd rfl
@[push_cast] theorem gdrx_g4 {ops : Array Oper} {prot : List Nat} {dst : Option Tmp} {op : Op} {ty : TypeId} {pos : String} {after : Array Edge} {g : Nat × Bool} {r : List (Nat × Nat)} :
    gdrx P ops prot ⟨dst, op, ty, pos, after, some g⟩ 4 r KK a h = gguard ops (some g) a (fun a' => gdo P op a' h fun v h' => gprot prot h h' (gdr P ops prot r KK (a'.put dst v) h')) (fun a' => gdr P ops prot r KK (a'.put dst (.tup [])) h) := nd rfl
@[push_cast] theorem gdrx_3 {ops : Array Oper} {prot : List Nat} {dst : Option Tmp} {op : Op} {ty : TypeId} {pos : String} {after : Array Edge} {r : List (Nat × Nat)} :
    gdrx P ops prot ⟨dst, op, ty, pos, after, none⟩ 3 r KK a h = gkeep P op a h fun id v => gdr P ops (id :: prot) r KK (a.put dst v) h := nd rfl
@[push_cast] theorem gdrx_g3 {ops : Array Oper} {prot : List Nat} {dst : Option Tmp} {op : Op} {ty : TypeId} {pos : String} {after : Array Edge} {g : Nat × Bool} {r : List (Nat × Nat)} :
    gdrx P ops prot ⟨dst, op, ty, pos, after, some g⟩ 3 r KK a h = gguard ops (some g) a (fun a' => gkeep P op a' h fun id v => gdr P ops (id :: prot) r KK (a'.put dst v) h) (fun a' => gdr P ops prot r KK (a'.put dst (.tup [])) h) := nd rfl
@[push_cast] theorem gprot_nil {X : Prop} {h h' : GH} : gprot [] h h' X = X := nd rfl
@[push_cast] theorem gprot_cons {X : Prop} {h h' : GH} {i : Nat} {r : List Nat} : gprot (i :: r) h h' X = gassert (h'.get i = h.get i) (gprot r h h' X) := nd rfl
def gkeepx (P : Program) (t : TypeId) (x : GV) (h : GH) (k : Nat → GV → Prop) (_p : Ph k := ()) : Prop := match x with | .mptr id i off => gload P t (.mptr id i off) h (k id) | _ => False
@[push_cast] theorem gkeepx_mptr {t : TypeId} {id i off : Nat} {k : Nat → GV → Prop} : gkeepx P t (.mptr id i off) h k = gload P t (.mptr id i off) h (k id) := nd rfl
@[push_cast] theorem gkeep_load {t : TypeId} {x : Operand} {k : Nat → GV → Prop} : gkeep P (.load t x) a h k = gkeepx P t (a.ev x) h k := nd rfl


/-! values -/
variable {x x' y y' z z' : GV}
@[push_cast] theorem gpickg_true : gpickg (.v (.bool true)) y z k = k y := by
  simp only [gpickg, gpick]
  split
  · rfl
  · simp [gcase]
@[push_cast] theorem gpickg_false : gpickg (.v (.bool false)) y z k = k z := by
  simp only [gpickg, gpick]
  split
  · rfl
  · simp [gcase]
@[push_cast] theorem gpickg_bool {b p q : Bool} : gpickg (.v (.bool b)) (.v (.bool p)) (.v (.bool q)) k = k (.v (.bool (bif b then p else q))) := nd rfl
@[push_cast] theorem gnilCheck_iptr {r : List GV} {o : Nat} : gnilCheck (.iptr r o) k = k (.iptr r o) := nd rfl
@[push_cast] theorem gnilCheck_mptr {i r o : Nat} : gnilCheck (.mptr i r o) k = k (.mptr i r o) := nd rfl
@[push_cast] theorem gnilCheck_fn {f : FuncId} {a b : List GV} : gnilCheck (.fn (.func f) a b) k = k (.fn (.func f) a b) := nd rfl
@[push_cast] theorem gun_not {b : Bool} : gun .not (.v (.bool b)) k = k (.v (.bool !b)) := nd rfl
@[push_cast] theorem gun_neg {kx : IntKind} {n : Int} : gun .neg (.v (.int kx n)) k = k (.v (.int kx (kx.wrap (0 - n)))) := nd rfl
@[push_cast] theorem gextract_0 {g : GV} {r : List GV} : gextract (.tup (g :: r)) 0 k = k g := nd rfl
@[push_cast] theorem gextract_1 {g0 g : GV} {r : List GV} : gextract (.tup (g0 :: g :: r)) 1 k = k g := nd rfl
@[push_cast] theorem gextract_2 {g0 g1 g : GV} {r : List GV} : gextract (.tup (g0 :: g1 :: g :: r)) 2 k = k g := nd rfl
@[push_cast] theorem gcallv_fn {f : FuncId} {first caps args : List GV} : gcallv P (.fn (.func f) first caps) args h K = GCall P f (first ++ args ++ caps) h K := nd rfl

/-! binary operations -/
variable {t : TypeId} {kx : IntKind} {m n : Int}
@[push_cast] theorem gbin_add : gbin P .add t (.v (.int kx m)) (.v (.int kx n)) k = k (.v (.int kx (kx.wrap (m + n)))) := by simp [gbin]
@[push_cast] theorem gbin_sub : gbin P .sub t (.v (.int kx m)) (.v (.int kx n)) k = k (.v (.int kx (kx.wrap (m - n)))) := by simp [gbin]
@[push_cast] theorem gbin_mul : gbin P .mul t (.v (.int kx m)) (.v (.int kx n)) k = k (.v (.int kx (kx.wrap (m * n)))) := by simp [gbin]
@[push_cast] theorem gbin_quo : gbin P .quo t (.v (.int kx m)) (.v (.int kx n)) k = gassert (n ≠ 0) (k (.v (.int kx (kx.wrap (m.tdiv n))))) := by simp [gbin]
@[push_cast] theorem gbin_rem : gbin P .rem t (.v (.int kx m)) (.v (.int kx n)) k = gassert (n ≠ 0) (k (.v (.int kx (m.tmod n)))) := by simp [gbin]
@[push_cast] theorem gbin_xor : gbin P .xor t (.v (.int kx m)) (.v (.int kx n)) k = k (.v (.int kx (kx.wrap (BitVec.ofInt kx.bits m ^^^ BitVec.ofInt kx.bits n).toNat))) := by simp [gbin]
@[push_cast] theorem gbin_eql : gbin P .eql t (.v (.int kx m)) (.v (.int kx n)) k = k (.v (.bool (m == n))) := by simp [gbin]
@[push_cast] theorem gbin_neq : gbin P .neq t (.v (.int kx m)) (.v (.int kx n)) k = k (.v (.bool (m != n))) := by simp [gbin]
@[push_cast] theorem gbin_lss : gbin P .lss t (.v (.int kx m)) (.v (.int kx n)) k = k (.v (.bool (decide (m < n)))) := by simp [gbin]
@[push_cast] theorem gbin_leq : gbin P .leq t (.v (.int kx m)) (.v (.int kx n)) k = k (.v (.bool (decide (m ≤ n)))) := by simp [gbin]
@[push_cast] theorem gbin_gtr : gbin P .gtr t (.v (.int kx m)) (.v (.int kx n)) k = k (.v (.bool (decide (m > n)))) := by simp [gbin]
@[push_cast] theorem gbin_geq : gbin P .geq t (.v (.int kx m)) (.v (.int kx n)) k = k (.v (.bool (decide (m ≥ n)))) := by simp [gbin]
@[push_cast] theorem gbin_beq {b c : Bool} : gbin P .eql t (.v (.bool b)) (.v (.bool c)) k = gassert (P.underlying t = some .bool) (k (.v (.bool (b == c)))) := nd rfl
@[push_cast] theorem gbin_bne {b c : Bool} : gbin P .neq t (.v (.bool b)) (.v (.bool c)) k = gassert (P.underlying t = some .bool) (k (.v (.bool (b != c)))) := nd rfl
@[push_cast] theorem gbin_seq {s u : ByteArray} : gbin P .eql t (.v (.string s)) (.v (.string u)) k = k (.v (.bool (s.toList == u.toList))) := nd rfl
@[push_cast] theorem gbin_sne {s u : ByteArray} : gbin P .neq t (.v (.string s)) (.v (.string u)) k = k (.v (.bool !(s.toList == u.toList))) := nd rfl
@[push_cast] theorem gbin_sadd {s u : ByteArray} : gbin P .add t (.v (.string s)) (.v (.string u)) k = gassert (((s.size + u.size : Nat) : Int) ≤ 9223372036854775807) (k (.v (.string (s ++ u)))) := nd rfl
@[push_cast] theorem gbin_aeq {xs ys : List GV} : gbin P .eql t (.agg xs) (.agg ys) k = optq (gleq xs ys) fun q => gassert (LeafEq P t (gkinds xs)) (k (.v (.bool q))) := by
  simp only [gbin]; cases gleq xs ys <;> rfl
@[push_cast] theorem gbin_ane {xs ys : List GV} : gbin P .neq t (.agg xs) (.agg ys) k = optq (gleq xs ys) fun q => gassert (LeafEq P t (gkinds xs)) (k (.v (.bool !q))) := by
  simp only [gbin]; cases gleq xs ys <;> rfl
@[push_cast] theorem gkinds_nil : gkinds [] = [] := nd rfl
@[push_cast] theorem gkinds_int {r : List GV} : gkinds (.v (.int kx m) :: r) = 1 :: gkinds r := nd rfl
@[push_cast] theorem gkinds_bool {b : Bool} {r : List GV} : gkinds (.v (.bool b) :: r) = 2 :: gkinds r := nd rfl
@[push_cast] theorem gkinds_string {b : ByteArray} {r : List GV} : gkinds (.v (.string b) :: r) = 3 :: gkinds r := nd rfl
@[push_cast] theorem omap_some {α β : Type} {f : α → β} {x : α} : Option.map f (some x) = some (f x) := nd rfl
@[push_cast] theorem gleq_nil : gleq [] [] = some true := nd rfl
@[push_cast] theorem gleq_int {r s : List GV} : gleq (.v (.int kx m) :: r) (.v (.int kx n) :: s) = (gleq r s).map fun q => (m == n) && q := by simp [gleq]
@[push_cast] theorem gleq_bool {b c : Bool} {r s : List GV} : gleq (.v (.bool b) :: r) (.v (.bool c) :: s) = (gleq r s).map fun q => (b == c) && q := nd rfl

/-! conversions -/
def intOfD (d : Option TypeDesc) (k : IntKind → Prop) (_p : Ph k := ()) : Prop := match d with | some (.int kd) => k kd | _ => False
@[push_cast] theorem intOfD_int {kd : IntKind} {k : IntKind → Prop} : intOfD (some (.int kd)) k = k kd := nd rfl
@[push_cast] theorem gconv_int {s d : TypeId} : gconv P s d (.v (.int kx n)) k = gassert ((P.underlying s).isSome = true) (intOfD (P.underlying d) fun kd => k (.v (.int kd (kd.wrap n)))) := by
  simp only [gconv, intOfD, gassert]
  cases P.underlying s <;> cases P.underlying d <;> simp
  rename_i d1 d2
  cases d2 <;> simp
end
end Gx
