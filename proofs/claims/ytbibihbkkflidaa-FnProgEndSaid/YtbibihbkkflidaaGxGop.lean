/- One operation, a list of operations, a body: what they come to, as one proposition that simp can open. -/
import Derived.Test.YtbibihbkkflidaaGxApp
set_option linter.unusedSimpArgs false
set_option linter.unusedVariables false
namespace Gx
open Go

def gpick (b : Bool) (x y : GV) (k : GV → Prop) (_p : Ph k := ()) : Prop :=
  match x, y with
  | .v (.bool p), .v (.bool q) => k (.v (.bool (bif b then p else q)))
  | _, _ => gcase b (k x) (k y)

def gpickg (c x y : GV) (k : GV → Prop) (_p : Ph k := ()) : Prop :=
  match c with
  | .v (.bool b) => gpick b x y k
  | _ => False

def gmaxmin (mx : Bool) (x y : GV) (k : GV → Prop) (_p : Ph k := ()) : Prop :=
  match x, y with
  | .v (.int i a), .v (.int j b) => if i = j then k (.v (.int i (if mx then max a b else min a b))) else False
  | _, _ => False

/-- What leaves the world alone, and hangs on no ghost block. -/
def gpu (P : Program) (o : Op) (a : GF) (k : GV → Prop) (_p : Ph k := ()) : Prop :=
  match o with
  | .move x => k (a.ev x)
  | .assign x => k (a.ev x)
  | .pick c x y => gpickg (a.ev c) (a.ev x) (a.ev y) k
  | .nilCheck x => gnilCheck (a.ev x) k
  | .binOp op t x y _ => gbin P op t (a.ev x) (a.ev y) k
  | .unOp op _ x => gun op (a.ev x) k
  | .convert s d x => gconv P s d (a.ev x) k
  | .makeFunc f first caps => k (.fn f (first.toList.map a.ev) (caps.toList.map a.ev))
  | .slice t x lo hi mx => gslice P t (a.ev x) (lo.map a.ev) (hi.map a.ev) (mx.map a.ev) k
  | .fieldAddr s x f => gfield P s f (a.ev x) k
  | .field t x f => gfieldv P t f (a.ev x) k
  | .indexAddr t x i => gindex P t (a.ev x) (a.ev i) k
  | .index t x i => gindexv P t (a.ev x) (a.ev i) k
  | .extract x i => gextract (a.ev x) i k
  | .build t parts => gbuild P t (parts.toList.map fun p => (p.1, a.ev p.2)) k
  | .load t x => gloadI P t (a.ev x) k
  | .buildSlice t n parts => glitVal P t n (parts.toList.map fun p => (p.1, a.ev p.2)) k
  | .call { callee := .builtin .len, args, argTypes } => match args.toList, argTypes.toList with
    | [x], [t] => glen P t (a.ev x) k
    | _, _ => False
  | _ => False

theorem prel_of {S : Sh} {a : GF} {act : Act} : ∀ (ps : List (Nat × Operand)), (∀ x ∈ ps.map (·.2), VRel S (a.ev x) (act.eval x)) → PRel S (ps.map fun p => (p.1, a.ev p.2)) (ps.map fun p => (p.1, act.eval p.2))
  | [], _ => trivial
  | p :: r, h => ⟨rfl, h p.2 (by simp), prel_of r fun x hx => h x (by simp only [List.map_cons, List.mem_cons]; exact .inr hx)⟩

theorem orel_of {S : Sh} {a : GF} {act : Act} (x : Option Operand) (h : ∀ y ∈ x.toArray, VRel S (a.ev y) (act.eval y)) : ORel S (x.map a.ev) (x.map act.eval) := by
  cases x with
  | none => trivial
  | some y => exact h y (by simp)

theorem gpu_sound {P : Program} {o : Oper} {a : GF} {k : GV → Prop} (hk : gpu P o.op a k) : ∃ v, k v ∧ OpIns P o a v := by
  have of : ∀ (v : GV), (∀ (S : Sh) (act : Act), Sim S → (∀ x ∈ o.op.operands, VRel S (a.ev x) (act.eval x)) → ∃ y, (execOp act.eval o).run P S.w = .ok (.value y) S.w ∧ VRel S v y) → OpIns P o a v :=
    fun v hv h => OpR.of_run fun w μ act hs ho => hv ⟨w, h, μ⟩ act hs ho
  -- a 'Sem Value' behind the operation
  have ofR : ∀ (v : GV) (s : (Operand → Value) → Sem Value), (∀ ρ, execOp ρ o = (do pure (.value (← s ρ)))) →
      (∀ (S : Sh) (act : Act), Sim S → (∀ x ∈ o.op.operands, VRel S (a.ev x) (act.eval x)) → Runs P S (s act.eval) v) → OpIns P o a v := fun v s he hr => of v fun S act hs ho => by
    obtain ⟨r, hrun, hrel⟩ := hr S act hs ho
    exact ⟨r, by rw [he]; simp [hrun], hrel⟩
  obtain ⟨dst, op, type, pos, after, guard⟩ := o
  simp only at hk of ofR
  unfold gpu at hk
  split at hk
  · exact ⟨_, hk, of _ fun S act hs ho => ⟨_, by simp [execOp], ho _ (by simp [Op.operands])⟩⟩
  · exact ⟨_, hk, of _ fun S act hs ho => ⟨_, by simp [execOp], ho _ (by simp [Op.operands])⟩⟩
  · rename_i c x y
    unfold gpickg at hk
    split at hk
    · rename_i b hb
      have key : ∀ v, v = (if b then a.ev x else a.ev y) → OpIns P ⟨dst, .pick c x y, type, pos, after, guard⟩ a v := fun v hv => of v fun S act hs ho => by
        have hc := ho c (by simp [Op.operands])
        rw [hb] at hc
        have hc' := hc.v_inv
        refine ⟨if b then act.eval x else act.eval y, by simp [execOp, hc', asBool], ?_⟩
        rw [hv]
        cases b
        · exact ho y (by simp [Op.operands])
        · exact ho x (by simp [Op.operands])
      unfold gpick at hk
      split at hk
      · rename_i p q hp hq
        refine ⟨_, hk, key _ ?_⟩
        rw [hp, hq]
        cases b <;> rfl
      · cases b with
        | true => exact ⟨_, hk.1 rfl, key _ (by simp)⟩
        | false => exact ⟨_, hk.2 rfl, key _ (by simp)⟩
    · exact hk.elim
  · rename_i x
    obtain ⟨v, hv, hr⟩ := gnilCheck_sound (P := P) (o := ⟨dst, .nilCheck x, type, pos, after, guard⟩) (y := x) rfl hk
    exact ⟨v, hv, of v fun S act hs ho => hr S act (ho x (by simp [Op.operands]))⟩
  · rename_i bop t x y yt
    obtain ⟨v, hv, hr⟩ := gbin_sound hk
    refine ⟨v, hv, ofR v (fun ρ => do eqGuard bop t x y (ρ x) (ρ y); Go.binOp bop t (ρ x) (ρ y)) (fun ρ => rfl) fun S act hs ho => ?_⟩
    exact hr S _ _ x y (ho x (by simp [Op.operands])) (ho y (by simp [Op.operands]))
  · rename_i uop t x
    obtain ⟨v, hv, hr⟩ := gun_sound (P := P) hk
    exact ⟨v, hv, ofR v (fun ρ => Op.unary uop (ρ x)) (fun ρ => rfl) fun S act hs ho => hr S _ (ho x (by simp [Op.operands]))⟩
  · rename_i s d x
    obtain ⟨v, hv, hr⟩ := gconv_sound hk
    exact ⟨v, hv, ofR v (fun ρ => Go.convert s d (ρ x)) (fun ρ => rfl) fun S act hs ho => hr S _ (ho x (by simp [Op.operands]))⟩
  · rename_i f first caps
    refine ⟨_, hk, of _ fun S act hs ho => ⟨.func f (first.map act.eval) (caps.map act.eval), by simp [execOp, Instr.makeFunc], .fn (by simp) (by simp) (fun i g x hg hx => ?_) (fun i g x hg hx => ?_)⟩⟩
    · simp only [List.getElem?_map, Option.map_eq_some_iff, Array.getElem?_toList] at hg
      obtain ⟨y, hy, rfl⟩ := hg
      simp only [Array.getElem?_map, hy, Option.map_some, Option.some.injEq] at hx
      subst hx
      exact ho y (by simp only [Op.operands, Array.mem_append]; exact .inl (Array.mem_of_getElem? hy))
    · simp only [List.getElem?_map, Option.map_eq_some_iff, Array.getElem?_toList] at hg
      obtain ⟨y, hy, rfl⟩ := hg
      simp only [Array.getElem?_map, hy, Option.map_some, Option.some.injEq] at hx
      subst hx
      exact ho y (by simp only [Op.operands, Array.mem_append]; exact .inr (Array.mem_of_getElem? hy))
  · rename_i t x lo hi mx
    obtain ⟨v, hv, hr⟩ := gslice_sound hk
    refine ⟨v, hv, ofR v (fun ρ => Instr.sliceAt t (ρ x) (lo.map ρ) (hi.map ρ) (mx.map ρ)) (fun ρ => rfl) fun S act hs ho => ?_⟩
    exact hr S _ _ _ _ (ho x (by simp [Op.operands])) (orel_of lo fun y hy => ho y (by simp only [Op.operands, Array.mem_append]; exact .inl (.inl (.inr hy))))
      (orel_of hi fun y hy => ho y (by simp only [Op.operands, Array.mem_append]; exact .inl (.inr hy))) (orel_of mx fun y hy => ho y (by simp only [Op.operands, Array.mem_append]; exact .inr hy))
  · rename_i s x f
    obtain ⟨v, hv, hr⟩ := gfield_sound hk
    exact ⟨v, hv, ofR v (fun ρ => Instr.fieldAt s (ρ x) f) (fun ρ => rfl) fun S act hs ho => hr S _ (ho x (by simp [Op.operands]))⟩
  · rename_i t x f
    obtain ⟨v, hv, hr⟩ := gfieldv_sound hk
    exact ⟨v, hv, ofR v (fun ρ => Instr.field t (ρ x) f) (fun ρ => rfl) fun S act hs ho => hr S _ (ho x (by simp [Op.operands]))⟩
  · rename_i t x i
    obtain ⟨v, hv, hr⟩ := gindex_sound hk
    exact ⟨v, hv, ofR v (fun ρ => Instr.indexAt t (ρ x) (ρ i)) (fun ρ => rfl) fun S act hs ho => hr S _ _ (ho x (by simp [Op.operands])) (ho i (by simp [Op.operands]))⟩
  · rename_i t x i
    obtain ⟨v, hv, hr⟩ := gindexv_sound hk
    exact ⟨v, hv, ofR v (fun ρ => Instr.index t (ρ x) (ρ i)) (fun ρ => rfl) fun S act hs ho => hr S _ _ (ho x (by simp [Op.operands])) (ho i (by simp [Op.operands]))⟩
  · rename_i x i
    obtain ⟨v, hv, hr⟩ := gextract_sound (P := P) hk
    exact ⟨v, hv, ofR v (fun ρ => Instr.extract (ρ x) i) (fun ρ => rfl) fun S act hs ho => hr S _ (ho x (by simp [Op.operands]))⟩
  · rename_i t parts
    obtain ⟨v, hv, hr⟩ := gbuild_sound hk
    refine ⟨v, hv, ofR v (fun ρ => Instr.build t (parts.map fun (i, x) => (i, ρ x))) (fun ρ => rfl) fun S act hs ho => hr S _ ?_⟩
    have := prel_of (S := S) (a := a) (act := act) parts.toList (fun x hx => ho x (by simpa [Op.operands] using hx))
    simpa using this
  · rename_i t x
    obtain ⟨v, hv, hr⟩ := gloadI_sound hk
    exact ⟨v, hv, ofR v (fun ρ => Instr.loadAt t (ρ x)) (fun ρ => rfl) fun S act hs ho => hr S _ (ho x (by simp [Op.operands]))⟩
  · rename_i t n parts
    obtain ⟨v, hv, hr⟩ := glitVal_sound hk
    refine ⟨v, hv, fun h w μ act hs ho next Q hn => ?_⟩
    have hp := prel_of (S := ⟨w, h, μ⟩) (a := a) (act := act) parts.toList (fun x hx => ho x (by simpa [Op.operands] using hx))
    obtain ⟨r, w', μ', hrun, hs', E, hrel⟩ := hr w h μ (parts.map fun (i, x) => (i, act.eval x)) hs (by simpa using hp)
    unfold Oper.wp
    have : (execOp act.eval ⟨dst, .buildSlice t n parts, type, pos, after, guard⟩).run P w = .ok (.value r) w' := by
      simp only [execOp, Sem.run_bind, Sem.run_pure]
      rw [show Sem.run P (Instr.buildSlice t n (parts.map fun (i, x) => (i, act.eval x))) w = .ok r w' from hrun]
      rfl
    rw [this]
    exact hn r w' v h μ' ⟨rfl, rfl⟩ hs' E hrel
  · rename_i args argTypes
    split at hk
    · rename_i x t hx ht
      obtain rfl : args = #[x] := by rw [← Array.toArray_toList (xs := args), hx]
      obtain rfl : argTypes = #[t] := by rw [← Array.toArray_toList (xs := argTypes), ht]
      obtain ⟨v, hv, hr⟩ := glen_sound (ty := type) hk
      refine ⟨v, hv, of v fun S act hs ho => ?_⟩
      obtain ⟨r, hrun, hrel⟩ := hr S (act.eval x) (ho x (by simp [Op.operands, Call.operands]))
      exact ⟨r, by simp [execOp, resolve, invoke, builtin, hrun], hrel⟩
    · exact hk.elim
  · exact hk.elim

/-! ### calls -/
def CallsTo (P : Program) (f : FuncId) : Prop := ∀ args w, (callFunc f args).run P w = .ok (.enter f args) w

/-- What a call comes to, whatever the world. -/
def GCall (P : Program) (f : FuncId) (args : List GV) (h : GH) (R : GV → GH → Prop) (_p : Ph R := ()) : Prop :=
  CallsTo P f ∧ ∀ w μ (vs : Array Value), Sim ⟨w, h, μ⟩ → vs.size = args.length → (∀ (i : Nat) (g : GV) (x : Value), args[i]? = some g → vs[i]? = some x → VRel ⟨w, h, μ⟩ g x) →
    Calls P f vs w fun e w' => ∃ x g h' μ', e = .returned x ∧ Sim ⟨w', h', μ'⟩ ∧ Evolve ⟨w, h, μ⟩ ⟨w', h', μ'⟩ ∧ VRel ⟨w', h', μ'⟩ g x ∧ R g h'


theorem GCall.mono {P : Program} {f : FuncId} {args : List GV} {h : GH} {R R' : GV → GH → Prop} (hc : GCall P f args h R) (hr : ∀ v h', R v h' → R' v h') : GCall P f args h R' :=
  ⟨hc.1, fun w μ vs hs hn hv => (hc.2 w μ vs hs hn hv).mono fun e w' ⟨x, g, h', μ', h1, h2, h3, h4, h5⟩ => ⟨x, g, h', μ', h1, h2, h3, h4, hr _ _ h5⟩⟩

/-- The call of a function value. -/
def gcallv (P : Program) (fv : GV) (args : List GV) (h : GH) (k : GV → GH → Prop) (_p : Ph k := ()) : Prop :=
  match fv with
  | .fn (.func f) first caps => GCall P f (first ++ args ++ caps) h k
  | _ => False

theorem gcallv_sound {P : Program} {o : Oper} {a : GF} {h : GH} {f : Operand} {args : Array Operand} {ts : Array TypeId} (ho : o.op = .call { callee := .value f, args, argTypes := ts })
    {k : GV → GH → Prop} (hk : gcallv P (a.ev f) (args.toList.map a.ev) h k) : OpR P o a h k := fun w μ act hs hops next Q hn => by
  unfold gcallv at hk
  split at hk
  · rename_i fid first caps hf
    obtain ⟨hto, hc⟩ := hk
    have hfv := hops f (by rw [ho]; simp [Op.operands, Call.operands])
    rw [hf] at hfv
    generalize he : act.eval f = fv at hfv
    cases hfv with
    | @fn _ _ _ fs cs h1 h2 h3 h4 =>
      unfold Oper.wp
      have hrun : (execOp act.eval o).run P w = .ok (.enter fid (fs ++ args.map act.eval ++ cs)) w := by
        simp only [execOp, ho, resolve, he, Deferred.ofValue, Sem.run_bind, Sem.run_pure, Result.andThen, invoke]
        exact hto _ _
      rw [hrun]
      refine (hc w μ (fs ++ args.map act.eval ++ cs) hs (by simp [h1, h2]) (fun i g x hg hx => ?_)).mono ?_
      · by_cases hi : i < first.length
        · rw [List.append_assoc, List.getElem?_append_left hi] at hg
          rw [Array.append_assoc, Array.getElem?_append_left (by omega)] at hx
          exact h3 i g x hg hx
        · rw [List.append_assoc, List.getElem?_append_right (by omega)] at hg
          rw [Array.append_assoc, Array.getElem?_append_right (by omega)] at hx
          rw [h1] at hx
          by_cases hj : i - first.length < args.size
          · rw [List.getElem?_append_left (by simpa using hj)] at hg
            rw [Array.getElem?_append_left (by simpa using hj)] at hx
            simp only [List.getElem?_map, Option.map_eq_some_iff, Array.getElem?_toList] at hg
            obtain ⟨y, hy, rfl⟩ := hg
            simp only [Array.getElem?_map, hy, Option.map_some, Option.some.injEq] at hx
            subst hx
            exact hops y (by rw [ho]; simp only [Op.operands, Call.operands, Array.mem_append]; exact .inr (Array.mem_of_getElem? hy))
          · rw [List.getElem?_append_right (by simp; omega)] at hg
            rw [Array.getElem?_append_right (by simp; omega)] at hx
            simp only [List.length_map, Array.length_toList, Array.size_map] at hg hx
            exact h4 _ g x hg hx
      · rintro e w' ⟨x, g, h', μ', rfl, hs', E, hrel, hR⟩
        exact hn x w' g h' μ' hR hs' E hrel
  · exact hk.elim

/-! ### one operation -/
def gbuiltin (P : Program) (b : Builtin) (ts : List TypeId) (args : List GV) (h : GH) (k : GV → GH → Prop) (_p : Ph k := ()) : Prop :=
  match b, ts, args with
  | .len, [t], [x] => glen P t x fun v => k v h
  | .append, [t, t'], [s, x] => gassert (t = t') (gapp P t s x h k)
  | .max, _, [x, y] => gmaxmin true x y fun v => k v h
  | .min, _, [x, y] => gmaxmin false x y fun v => k v h
  | _, _, _ => False

def gdo (P : Program) (o : Op) (a : GF) (h : GH) (k : GV → GH → Prop) (_p : Ph k := ()) : Prop :=
  match o with
  | .alloc t => galloc P t h k
  | .box t x => gbox P t (a.ev x) h k
  | .load t x => gload P t (a.ev x) h fun v => k v h
  | .store t x v => gstore P t (a.ev x) (a.ev v) h fun h' => k .dead h'
  | .buildSlice t n parts => glitNew P t n (parts.toList.map fun p => (p.1, a.ev p.2)) h k
  | .makeSlice t l c => gmake P t (a.ev l) (a.ev c) h k
  | .call { callee := .builtin b, args, argTypes } => gbuiltin P b argTypes.toList (args.toList.map a.ev) h k
  | .call { callee := .value f, args, .. } => gcallv P (a.ev f) (args.toList.map a.ev) h k
  | o => gpu P o a fun v => k v h

theorem OpR.mono {P : Program} {o : Oper} {a : GF} {h : GH} {R R' : GV → GH → Prop} (hr : ∀ v h', R v h' → R' v h') (ho : OpR P o a h R) : OpR P o a h R' :=
  fun w μ act hs hops next Q hn => ho w μ act hs hops next Q fun y w' v h' μ' h1 => hn y w' v h' μ' (hr _ _ h1)

theorem OpR.of_runsTo {P : Program} {o : Oper} {a : GF} {h : GH} {v : GV} {h' : GH} (s : (Operand → Value) → Sem Value) (he : ∀ ρ, execOp ρ o = (do pure (.value (← s ρ))))
    (hr : ∀ w μ (act : Act), Sim ⟨w, h, μ⟩ → (∀ x ∈ o.op.operands, VRel ⟨w, h, μ⟩ (a.ev x) (act.eval x)) → RunsTo P ⟨w, h, μ⟩ (s act.eval) v h') : OpR P o a h fun v1 h1 => v1 = v ∧ h1 = h' :=
  fun w μ act hs hops next Q hn => by
    obtain ⟨r, w', μ', hrun, hs', E, hrel⟩ := hr w μ act hs hops
    unfold Oper.wp
    have hrun' : (s act.eval).run P w = .ok r w' := hrun
    rw [he]
    simp only [Sem.run_bind, hrun', Result.andThen, Sem.run_pure]
    exact hn r w' v h' μ' ⟨rfl, rfl⟩ hs' E hrel

theorem gmaxmin_sound {P : Program} {mx : Bool} {x y : GV} {k : GV → Prop} (hk : gmaxmin mx x y k) :
    ∃ v, k v ∧ ∀ (S : Sh) (xv yv : Value) (ts : Array TypeId) (ty : TypeId), VRel S x xv → VRel S y yv →
      Runs P S (if mx then Builtin.max_ ts ty #[xv, yv] else Builtin.min_ ts ty #[xv, yv]) v := by
  unfold gmaxmin at hk
  split at hk
  · split at hk
    · rename_i i a j b hij
      subst hij
      refine ⟨_, hk, fun S xv yv ts ty hx hy => ?_⟩
      rw [hx.v_inv, hy.v_inv]
      refine ⟨_, ?_, .v rfl⟩
      cases mx
      · have e : (if b < a then b else a) = min a b := by rw [Int.min_def]; split <;> split <;> omega
        simp [Builtin.min_, Builtin.min2, e]
      · have e : (if b > a then b else a) = max a b := by rw [Int.max_def]; split <;> split <;> omega
        simp [Builtin.max_, Builtin.max2, e]
    · exact hk.elim
  · exact hk.elim

theorem gdo_sound {P : Program} {o : Oper} {a : GF} {h : GH} {k : GV → GH → Prop} (hk : gdo P o.op a h k) : OpR P o a h k := by
  obtain ⟨dst, op, type, pos, after, guard⟩ := o
  simp only at hk
  unfold gdo at hk
  split at hk
  · rename_i t
    obtain ⟨v, h', hv, hr⟩ := galloc_sound hk
    exact (OpR.of_runsTo (v := v) (h' := h') (fun ρ => Instr.alloc t true (.tuple #[])) (fun ρ => rfl) fun w μ act hs ho => hr w μ hs).mono fun v1 h1 ⟨e1, e2⟩ => by rw [e1, e2]; exact hv
  · rename_i t x
    obtain ⟨v, h', hv, hr⟩ := gbox_sound (P := P) hk
    exact (OpR.of_runsTo (v := v) (h' := h') (fun ρ => Instr.box t (ρ x)) (fun ρ => rfl) fun w μ act hs ho => hr w μ _ hs (ho x (by simp [Op.operands]))).mono fun v1 h1 ⟨e1, e2⟩ => by rw [e1, e2]; exact hv
  · rename_i t x
    obtain ⟨v, hv, hr⟩ := gload_sound hk
    refine (OpR.of_runsTo (v := v) (h' := h) (fun ρ => Instr.loadAt t (ρ x)) (fun ρ => rfl) fun w μ act hs ho => ?_).mono fun v1 h1 ⟨e1, e2⟩ => by rw [e1, e2]; exact hv
    obtain ⟨r, hrun, hrel⟩ := hr w μ _ hs (ho x (by simp [Op.operands]))
    exact ⟨r, w, μ, hrun, hs, Evolve.refl _, hrel⟩
  · rename_i t x v
    obtain ⟨h', hv, hr⟩ := gstore_sound hk
    intro w μ act hs ho next Q hn
    obtain ⟨w', μ', hrun, hs', E⟩ := hr w μ _ _ hs (ho x (by simp [Op.operands])) (ho v (by simp [Op.operands]))
    unfold Oper.wp
    have hrun' : (Instr.storeAt t (act.eval x) (act.eval v)).run P w = .ok () w' := hrun
    simp only [execOp, Sem.run_bind, hrun', Result.andThen, Sem.run_pure]
    exact hn undef w' .dead h' μ' hv hs' E (.dead _)
  · rename_i t n parts
    obtain ⟨v, h', hv, hr⟩ := glitNew_sound hk
    refine (OpR.of_runsTo (v := v) (h' := h') (fun ρ => Instr.buildSlice t n (parts.map fun (i, x) => (i, ρ x))) (fun ρ => rfl) fun w μ act hs ho => hr w μ _ hs ?_).mono fun v1 h1 ⟨e1, e2⟩ => by rw [e1, e2]; exact hv
    have hp := prel_of (S := ⟨w, h, μ⟩) (a := a) (act := act) parts.toList (fun x hx => ho x (by simpa [Op.operands] using hx))
    simpa using hp
  · rename_i t l c
    obtain ⟨v, h', hv, hr⟩ := gmake_sound hk
    exact (OpR.of_runsTo (v := v) (h' := h') (fun ρ => Instr.makeSlice t (ρ l) (ρ c)) (fun ρ => rfl) fun w μ act hs ho => hr w μ _ _ hs (ho l (by simp [Op.operands])) (ho c (by simp [Op.operands]))).mono fun v1 h1 ⟨e1, e2⟩ => by rw [e1, e2]; exact hv
  · rename_i b args argTypes
    unfold gbuiltin at hk
    split at hk
    · rename_i t x ht hx
      obtain ⟨y, rfl, rfl⟩ : ∃ y, args = #[y] ∧ x = a.ev y := by
        obtain ⟨l⟩ := args
        match l, hx with
        | [y], h => simp at h; exact ⟨y, rfl, h.symm⟩
      obtain rfl : argTypes = #[t] := by rw [← Array.toArray_toList (xs := argTypes), ht]
      obtain ⟨v, hv, hr⟩ := glen_sound (ty := type) hk
      refine (OpR.of_run (v := v) fun w μ act hs ho => ?_).mono fun v1 h1 ⟨e1, e2⟩ => by rw [e1, e2]; exact hv
      obtain ⟨r, hrun, hrel⟩ := hr ⟨w, h, μ⟩ (act.eval y) (ho y (by simp [Op.operands, Call.operands]))
      have hrun' : (Builtin.len_ #[t] type #[act.eval y]).run P w = .ok r w := hrun
      exact ⟨r, by simp [execOp, resolve, invoke, builtin, hrun'], hrel⟩
    · rename_i t t' s x ht hx
      obtain ⟨y, z, rfl, rfl, rfl⟩ : ∃ y z, args = #[y, z] ∧ s = a.ev y ∧ x = a.ev z := by
        obtain ⟨l⟩ := args
        match l, hx with
        | [y, z], h => simp at h; exact ⟨y, z, rfl, h.1.symm, h.2.symm⟩
      obtain rfl : argTypes = #[t, t'] := by rw [← Array.toArray_toList (xs := argTypes), ht]
      obtain ⟨rfl, hk⟩ := hk
      obtain ⟨v, h', hv, hr⟩ := gapp_sound (ty := type) hk
      refine (OpR.of_runsTo (v := v) (h' := h') (fun ρ => Builtin.append_ #[t, t] type #[ρ y, ρ z]) (fun ρ => by simp [execOp, resolve, invoke, builtin]) fun w μ act hs ho =>
        hr w μ _ _ hs (ho y (by simp [Op.operands, Call.operands])) (ho z (by simp [Op.operands, Call.operands]))).mono fun v1 h1 ⟨e1, e2⟩ => by rw [e1, e2]; exact hv
    · rename_i x y hx
      obtain ⟨y', z', rfl, rfl, rfl⟩ : ∃ y' z', args = #[y', z'] ∧ x = a.ev y' ∧ y = a.ev z' := by
        obtain ⟨l⟩ := args
        match l, hx with
        | [y, z], h => simp at h; exact ⟨y, z, rfl, h.1.symm, h.2.symm⟩
      obtain ⟨v, hv, hr⟩ := gmaxmin_sound (P := P) hk
      refine (OpR.of_run (v := v) fun w μ act hs ho => ?_).mono fun v1 h1 ⟨e1, e2⟩ => by rw [e1, e2]; exact hv
      obtain ⟨r, hrun, hrel⟩ := hr ⟨w, h, μ⟩ (act.eval y') (act.eval z') argTypes type (ho y' (by simp [Op.operands, Call.operands])) (ho z' (by simp [Op.operands, Call.operands]))
      have hrun' : (Builtin.max_ argTypes type #[act.eval y', act.eval z']).run P w = .ok r w := hrun
      exact ⟨r, by simp [execOp, resolve, invoke, builtin, hrun'], hrel⟩
    · rename_i x y hx
      obtain ⟨y', z', rfl, rfl, rfl⟩ : ∃ y' z', args = #[y', z'] ∧ x = a.ev y' ∧ y = a.ev z' := by
        obtain ⟨l⟩ := args
        match l, hx with
        | [y, z], h => simp at h; exact ⟨y, z, rfl, h.1.symm, h.2.symm⟩
      obtain ⟨v, hv, hr⟩ := gmaxmin_sound (P := P) hk
      refine (OpR.of_run (v := v) fun w μ act hs ho => ?_).mono fun v1 h1 ⟨e1, e2⟩ => by rw [e1, e2]; exact hv
      obtain ⟨r, hrun, hrel⟩ := hr ⟨w, h, μ⟩ (act.eval y') (act.eval z') argTypes type (ho y' (by simp [Op.operands, Call.operands])) (ho z' (by simp [Op.operands, Call.operands]))
      have hrun' : (Builtin.min_ argTypes type #[act.eval y', act.eval z']).run P w = .ok r w := hrun
      exact ⟨r, by simp [execOp, resolve, invoke, builtin, hrun'], hrel⟩
    · exact hk.elim
  · exact gcallv_sound rfl hk
  · obtain ⟨v, hv, hr⟩ := gpu_sound (o := ⟨dst, _, type, pos, after, guard⟩) hk
    exact (hr h).mono fun v1 h1 ⟨e1, e2⟩ => by rw [e1, e2]; exact hv
end Gx
