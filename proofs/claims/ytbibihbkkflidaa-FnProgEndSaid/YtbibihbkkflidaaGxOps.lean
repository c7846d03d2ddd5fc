/- What each operation does to ghost values: the operations that neither read nor write what may change. -/
import Derived.Test.YtbibihbkkflidaaGxWp
set_option linter.unusedSimpArgs false
set_option linter.unusedVariables false
namespace Gx
open Go

/-- A condition that the walk must pay. -/
def gassert (c X : Prop) (_p : Ph X := ()) : Prop := c ∧ X
/-- Two ways. -/
def gcase (b : Bool) (X Y : Prop) (_p : Ph X := ()) (_q : Ph Y := ()) : Prop := (b = true → X) ∧ (b = false → Y)
@[go_sem] theorem gassert_true {c X : Prop} (h : c) : gassert c X = X := by simp [gassert, h]
@[go_sem] theorem gcase_true {X Y : Prop} : gcase true X Y = X := by simp [gcase]
@[go_sem] theorem gcase_false {X Y : Prop} : gcase false X Y = Y := by simp [gcase]
theorem gassert_intro {c X : Prop} (h : c) (k : X) : gassert c X := ⟨h, k⟩
theorem gcase_intro {b : Bool} {X Y : Prop} (h : b = true → X) (k : b = false → Y) : gcase b X Y := ⟨h, k⟩

/-- What one operation comes to, whatever the world. -/
def OpR (P : Program) (o : Oper) (a : GF) (h : GH) (R : GV → GH → Prop) : Prop :=
  ∀ w μ (act : Act), Sim ⟨w, h, μ⟩ → (∀ x ∈ o.op.operands, VRel ⟨w, h, μ⟩ (a.ev x) (act.eval x)) → ∀ (next : Act → World → Prop) (Q : Exit → Act → World → Prop),
    (∀ y w' v h' μ', R v h' → Sim ⟨w', h', μ'⟩ → Evolve ⟨w, h, μ⟩ ⟨w', h', μ'⟩ → VRel ⟨w', h', μ'⟩ v y → next (act.put o.dst y) w') → o.wp P act w next Q

def OpIns (P : Program) (o : Oper) (a : GF) (v : GV) : Prop := ∀ h, OpR P o a h fun v' h' => v' = v ∧ h' = h

theorem OpR.of_run {P : Program} {o : Oper} {a : GF} {h : GH} {v : GV}
    (hr : ∀ w μ (act : Act), Sim ⟨w, h, μ⟩ → (∀ x ∈ o.op.operands, VRel ⟨w, h, μ⟩ (a.ev x) (act.eval x)) → ∃ y, (execOp act.eval o).run P w = .ok (.value y) w ∧ VRel ⟨w, h, μ⟩ v y) :
    OpR P o a h fun v' h' => v' = v ∧ h' = h := fun w μ act hs ho next Q hn => by
  obtain ⟨y, hrun, hv⟩ := hr w μ act hs ho
  unfold Oper.wp
  rw [hrun]
  exact hn y w v h μ ⟨rfl, rfl⟩ hs (Evolve.refl _) hv

/-- Type queries. -/
structure TyQ where
  size : Nat
  agg : Bool
  bytes : Nat
  zero : List GV

def leafOf : Value → GV
  | .slice none 0 0 => .esl
  | x => if scalar x then .v x else .dead

def tyq (P : Program) (t : TypeId) : Option TyQ :=
  match P.info? t, P.underlying t with
  | some i, some d => match i.zero with
    | some z => if z.cells.size = i.size ∧ z.cells.all one then some ⟨i.size, (match d with | .struct _ | .array _ _ => true | _ => false), i.bytes, z.cells.toList.map leafOf⟩ else none
    | none => none
  | _, _ => none

/-- The element type of a slice type, and how many cells it has. -/
def elq (P : Program) (t : TypeId) : Option (TypeId × Nat) :=
  match P.underlying t with
  | some (.slice e) => (P.info? e).map fun i => (e, i.size)
  | _ => none
def arq (P : Program) (t : TypeId) : Option (Nat × Nat) :=
  match P.underlying t with
  | some (.array n e) => (P.info? e).map fun i => (n, i.size)
  | _ => none
/-- A field's place and its type's. -/
def flq (P : Program) (s : TypeId) (f : Nat) : Option (Nat × TypeId) :=
  match P.underlying s with
  | some (.struct fs) => match fs[f]? with
    | some fd => match P.info? fd.type with
      | some i => if i.size = 0 then none else some (fd.offset, fd.type)
      | none => none
    | none => none
  | _ => none

def GV.leaves : GV → List GV
  | .agg ls => ls
  | g => [g]
def mk (agg : Bool) (ls : List GV) : GV := if agg then .agg ls else ls.headD .dead

/-- Put leaves into a row. -/
def spl : List GV → Nat → List GV → List GV
  | row, _, [] => row
  | row, off, l :: ls => spl (row.set off l) (off + 1) ls

/-! ### binary operations -/
def gleq : List GV → List GV → Option Bool
  | [], [] => some true
  | .v (.int j a) :: r, .v (.int k b) :: s => if j = k then (gleq r s).map fun q => (a == b) && q else none
  | .v (.bool a) :: r, .v (.bool b) :: s => (gleq r s).map fun q => (a == b) && q
  | .v (.string a) :: r, .v (.string b) :: s => (gleq r s).map fun q => (a.toList == b.toList) && q
  | _, _ => none

/-- What kinds the leaves are of. -/
def gkinds : List GV → List Nat
  | [] => []
  | .v (.int _ _) :: r => 1 :: gkinds r
  | .v (.bool _) :: r => 2 :: gkinds r
  | .v (.string _) :: r => 3 :: gkinds r
  | _ :: r => 0 :: gkinds r
/-- '==' on a struct type goes leaf by leaf. -/
def LeafEq (P : Program) (t : TypeId) (ks : List Nat) : Prop :=
  P.eqGuardType P.depth t = false ∧ ∀ (xs ys : List Value) (q : Bool) (w : World), gleq (xs.map .v) (ys.map .v) = some q → gkinds (xs.map .v) = ks →
    (Op.equal t (.agg xs.toArray) (.agg ys.toArray)).run P w = .ok q w

def gbin (P : Program) (op : BinOp) (t : TypeId) (x y : GV) (k : GV → Prop) (_p : Ph k := ()) : Prop :=
  match x, y with
  | .v (.int kx a), .v (.int ky b) =>
    match op with
    | .shl => gassert (0 ≤ b) (k (.v (.int kx (kx.wrap (a * 2 ^ (min b.toNat kx.bits))))))
    | .shr => gassert (0 ≤ b) (k (.v (.int kx (a.fdiv (2 ^ (min b.toNat kx.bits))))))
    | op => if kx = ky then
      match op with
      | .add => k (.v (.int kx (kx.wrap (a + b))))
      | .sub => k (.v (.int kx (kx.wrap (a - b))))
      | .mul => k (.v (.int kx (kx.wrap (a * b))))
      | .quo => gassert (b ≠ 0) (k (.v (.int kx (kx.wrap (a.tdiv b)))))
      | .rem => gassert (b ≠ 0) (k (.v (.int kx (a.tmod b))))
      | .and => k (.v (.int kx (kx.wrap (BitVec.ofInt kx.bits a &&& BitVec.ofInt kx.bits b).toNat)))
      | .or => k (.v (.int kx (kx.wrap (BitVec.ofInt kx.bits a ||| BitVec.ofInt kx.bits b).toNat)))
      | .xor => k (.v (.int kx (kx.wrap (BitVec.ofInt kx.bits a ^^^ BitVec.ofInt kx.bits b).toNat)))
      | .eql => k (.v (.bool (a == b)))
      | .neq => k (.v (.bool (a != b)))
      | .lss => k (.v (.bool (decide (a < b))))
      | .leq => k (.v (.bool (decide (a ≤ b))))
      | .gtr => k (.v (.bool (decide (a > b))))
      | .geq => k (.v (.bool (decide (a ≥ b))))
      | _ => False
    else False
  | .v (.bool a), .v (.bool b) =>
    match op with
    | .eql => gassert (P.underlying t = some .bool) (k (.v (.bool (a == b))))
    | .neq => gassert (P.underlying t = some .bool) (k (.v (.bool (a != b))))
    | _ => False
  | .v (.string a), .v (.string b) =>
    match op with
    | .eql => k (.v (.bool (a.toList == b.toList)))
    | .neq => k (.v (.bool !(a.toList == b.toList)))
    | .lss => k (.v (.bool (Op.bytesLess a.toList b.toList)))
    | .add => gassert (((a.size + b.size : Nat) : Int) ≤ 9223372036854775807) (k (.v (.string (a ++ b))))
    | _ => False
  | .agg xs, .agg ys =>
    match op, gleq xs ys with
    | .eql, some q => gassert (LeafEq P t (gkinds xs)) (k (.v (.bool q)))
    | .neq, some q => gassert (LeafEq P t (gkinds xs)) (k (.v (.bool !q)))
    | _, _ => False
  | _, _ => False

theorem VRel.v_inv {S : Sh} {x y : Value} (h : VRel S (.v x) y) : y = x := by cases h; rfl

theorem gleq_v : ∀ {xs ys : List GV} {q : Bool}, gleq xs ys = some q → ∃ us vs : List Value, xs = us.map .v ∧ ys = vs.map .v
  | [], [], _, _ => ⟨[], [], rfl, rfl⟩
  | .v (.int j a) :: r, .v (.int k b) :: s, q, h => by
    simp only [gleq] at h
    split at h
    · obtain ⟨q', hq, _⟩ := Option.map_eq_some_iff.1 h
      obtain ⟨us, vs, e1, e2⟩ := gleq_v hq
      exact ⟨.int j a :: us, .int k b :: vs, by simp [e1], by simp [e2]⟩
    · cases h
  | .v (.bool a) :: r, .v (.bool b) :: s, q, h => by
    simp only [gleq] at h
    obtain ⟨q', hq, _⟩ := Option.map_eq_some_iff.1 h
    obtain ⟨us, vs, e1, e2⟩ := gleq_v hq
    exact ⟨.bool a :: us, .bool b :: vs, by simp [e1], by simp [e2]⟩
  | .v (.string a) :: r, .v (.string b) :: s, q, h => by
    simp only [gleq] at h
    obtain ⟨q', hq, _⟩ := Option.map_eq_some_iff.1 h
    obtain ⟨us, vs, e1, e2⟩ := gleq_v hq
    exact ⟨.string a :: us, .string b :: vs, by simp [e1], by simp [e2]⟩

theorem agg_v_inv {S : Sh} {us : List Value} {x : Value} (h : VRel S (.agg (us.map .v)) x) : x = .agg us.toArray := by
  cases h with
  | @agg _ cs h1 h2 h3 =>
    congr 1
    apply Array.ext
    · simpa using h1
    · intro i hi hi'
      have hu : us[i]? = some (us[i]'(by simpa using hi')) := List.getElem?_eq_getElem _
      have := h2 i (.v (us[i]'(by simpa using hi'))) cs[i] (by simp [hu]) (Array.getElem?_eq_getElem hi)
      simpa using this.v_inv

theorem run_eq_bool {P : Program} {t : TypeId} (hb : P.underlying t = some .bool) (a b : Bool) (w : World) : (Op.equal t (.bool a) (.bool b)).run P w = .ok (a == b) w := by
  have h : ∀ d, (Op.equalIn (d + 1) t (.bool a) (.bool b)).run P w = .ok (a == b) w := fun d => by
    simp [Op.equalIn, run_underlying hb]
  exact h 9999

theorem run_prog (P : Program) (w : World) : program.run P w = .ok P w := rfl

theorem gbin_sound {P : Program} {op : BinOp} {t : TypeId} {x y : GV} {k : GV → Prop} (hk : gbin P op t x y k) :
    ∃ v, k v ∧ ∀ (S : Sh) (xv yv : Value) (xo yo : Operand), VRel S x xv → VRel S y yv →
      ∃ r, (do eqGuard op t xo yo xv yv; binOp op t xv yv).run P S.w = .ok r S.w ∧ VRel S v r := by
  unfold gbin at hk
  split at hk
  · rename_i kx a ky b
    have key : ∀ v : Value, k (.v v) → scalar v = true → (∀ (w : World) (xo yo : Operand), (do eqGuard op t xo yo (.int kx a) (.int ky b); binOp op t (.int kx a) (.int ky b)).run P w = .ok v w) →
        ∃ v, k v ∧ ∀ (S : Sh) (xv yv : Value) (xo yo : Operand), VRel S (.v (.int kx a)) xv → VRel S (.v (.int ky b)) yv →
          ∃ r, (do eqGuard op t xo yo xv yv; binOp op t xv yv).run P S.w = .ok r S.w ∧ VRel S v r := fun v hv hsc hr =>
      ⟨.v v, hv, fun S xv yv xo yo hx hy => by
        rw [hx.v_inv, hy.v_inv]
        exact ⟨v, hr S.w xo yo, .v hsc⟩⟩
    split at hk
    · exact key _ hk.2 rfl fun w xo yo => by
        have : ¬ b < 0 := by have := hk.1; omega
        simp [eqGuard, binOp, Op.shift, this]
    · exact key _ hk.2 rfl fun w xo yo => by
        have : ¬ b < 0 := by have := hk.1; omega
        simp [eqGuard, binOp, Op.shift, this]
    · split at hk
      · rename_i hkk
        subst hkk
        split at hk
        all_goals first
          | exact hk.elim
          | exact key _ hk rfl fun w xo yo => by simp [eqGuard, binOp, Op.intArith, Op.intCmp, Op.intBits, Op.intDiv]
          | exact key _ hk.2 rfl fun w xo yo => by have := hk.1; simp [eqGuard, binOp, Op.intArith, Op.intCmp, Op.intBits, Op.intDiv, this]
      · exact hk.elim
  · rename_i a b
    split at hk
    · obtain ⟨hb, hk⟩ := hk
      refine ⟨_, hk, fun S xv yv xo yo hx hy => ?_⟩
      rw [hx.v_inv, hy.v_inv]
      refine ⟨_, ?_, .v rfl⟩
      simp only [eqGuard, binOp, Sem.run_bind, Sem.run_pure, run_eq_bool hb, Result.andThen]
      simp [run_eq_bool hb, Result.andThen]
    · obtain ⟨hb, hk⟩ := hk
      refine ⟨_, hk, fun S xv yv xo yo hx hy => ?_⟩
      rw [hx.v_inv, hy.v_inv]
      refine ⟨_, ?_, .v rfl⟩
      simp only [eqGuard, binOp, Sem.run_bind, Sem.run_pure, run_eq_bool hb, Result.andThen]
      simp [run_eq_bool hb, Result.andThen]
      cases a <;> cases b <;> rfl
    · exact hk.elim
  · rename_i a b
    split at hk
    all_goals first
      | exact hk.elim
      | (refine ⟨_, hk, fun S xv yv xo yo hx hy => ?_⟩
         rw [hx.v_inv, hy.v_inv]
         refine ⟨_, ?_, .v rfl⟩
         simp [eqGuard, binOp, Op.stringOp]; done)
      | (obtain ⟨hb, hk⟩ := hk
         refine ⟨_, hk, fun S xv yv xo yo hx hy => ?_⟩
         rw [hx.v_inv, hy.v_inv]
         refine ⟨_, ?_, .v rfl⟩
         have : ¬ (((a.size + b.size : Nat) : Int) > IntKind.i64.max) := by
           simp only [IntKind.max, IntKind.signed, IntKind.bits, if_true]; omega
         simp only [eqGuard, binOp, Op.stringOp, if_neg this]
         simp)
  · rename_i xs ys
    split at hk
    · rename_i q hq
      obtain ⟨⟨hg, he⟩, hk⟩ := hk
      obtain ⟨us, vs, rfl, rfl⟩ := gleq_v hq
      refine ⟨_, hk, fun S xv yv xo yo hx hy => ?_⟩
      rw [agg_v_inv hx, agg_v_inv hy]
      refine ⟨_, ?_, .v rfl⟩
      have hh := he us vs q S.w hq rfl
      simp only [eqGuard, binOp]
      simp [run_prog, hg, hh, Result.andThen]
    · rename_i q hq
      obtain ⟨⟨hg, he⟩, hk⟩ := hk
      obtain ⟨us, vs, rfl, rfl⟩ := gleq_v hq
      refine ⟨_, hk, fun S xv yv xo yo hx hy => ?_⟩
      rw [agg_v_inv hx, agg_v_inv hy]
      refine ⟨_, ?_, .v rfl⟩
      have hh := he us vs q S.w hq rfl
      simp only [eqGuard, binOp]
      simp [run_prog, hg, hh, Result.andThen]
    · exact hk.elim
  · exact hk.elim
end Gx
