/- Bodies, loops, functions, and what a function hands back. -/
import Derived.Test.YtbibihbkkflidaaGxDraw
set_option linter.unusedSimpArgs false
set_option linter.unusedVariables false
namespace Gx
open Go

def gcond (c : GV) (X Y : Prop) (_p : Ph X := ()) (_q : Ph Y := ()) : Prop :=
  match c with
  | .v (.bool b) => gcase b X Y
  | _ => False

/-- A closed check. -/
def gstat (c X : Prop) (_p : Ph X := ()) (_q : Ph c := ()) : Prop := c ∧ X
theorem gstat_intro {c X : Prop} (h : c) (k : X) : gstat c X := ⟨h, k⟩

def effsOf (order : List (Nat × Nat)) : List Nat := (order.filter fun p => 2 ≤ p.2 && p.2 != 3).map (·.1)
def planOf : List (Nat × List (Nat × Nat)) → Nat → List (Nat × Nat)
  | [], _ => []
  | (k, o) :: r, id => if k = id then o else planOf r id

/-- The plans of the regions that draw: what is asked of each. -/
def drawOk (ops : Array Oper) (order : List (Nat × Nat)) : Bool :=
  dstat ops (Region.before ops) (effsOf order) [] order (Array.replicate ops.size false) && order.length == ops.size

/-- The first region of a piece of code: its name as a place where ways meet again. -/
def firstId : Code → Option Nat
  | .region id _ _ => some id
  | .seq x _ => firstId x
  | .block _ c => firstId c
  | .loop c => firstId c
  | .cond _ x _ => firstId x
  | _ => none
/-- A plan may bear a mark (1000000 and the region's number): the ways ahead of it are to meet there. -/
def planCut (plan : List (Nat × List (Nat × Nat))) : Option Nat → Bool
  | some id => plan.any fun p => p.1 == 1000000 + id
  | none => false

def gseqx (b : Bool) (J X : Prop) (_p : Ph J := ()) (_q : Ph X := ()) : Prop := match b with | true => J | false => X
theorem gseqx_or {b : Bool} {J X : Prop} (h : gseqx b J X) : J ∨ X := by cases b; exact .inr h; exact .inl h

def gwp (P : Program) (S0 : Sh) (plan : List (Nat × List (Nat × Nat))) : (c : Code) → (Q : Exit → GF → GH → Prop) → GF → GH → (_p : Ph Q := ()) → (_q : Ph c := ()) → Prop
  | .skip, Q, a, h, _, _ => Q .normal a h
  | .region id ops draw, Q, a, h, _, _ => match draw with
    | false => gw P ops ops.toList (Q .normal) a h
    | true => gstat (drawOk ops (planOf plan id) = true) (gdr P ops [] (planOf plan id) (Q .normal) a h)
  | .seq x y, Q, a, h, _, _ => gseqx (planCut plan (firstId y)) (gwp P S0 plan x (Exit.thenG (fun a h => GWp P S0 y Q a h) Q) a h) (gwp P S0 plan x (Exit.thenG (fun a h => gwp P S0 plan y Q a h) Q) a h)
  | .cond c x y, Q, a, h, _, _ => gcond (a.ev c) (gwp P S0 plan x Q a h) (gwp P S0 plan y Q a h)
  | .block id c, Q, a, h, _, _ => gwp P S0 plan c (Exit.inBlockG id Q) a h
  | .loop c, Q, a, h, _, _ => GWp P S0 (.loop c) Q a h
  | .exit id, Q, a, h, _, _ => Q (.exit id) a h
  | .ret, Q, a, h, _, _ => Q .ret a h
  | _, _, _, _, _, _ => False

theorem GWp.cond {P : Program} {S0 : Sh} {Q : Exit → GF → GH → Prop} {a : GF} {h : GH} {c : Operand} {x y : Code} (hk : gcond (a.ev c) (GWp P S0 x Q a h) (GWp P S0 y Q a h)) : GWp P S0 (.cond c x y) Q a h := fun w μ act hs he => by
  unfold gcond at hk
  split at hk
  · rename_i b hb
    have hv := ev_rel hs.2 c
    rw [hb] at hv
    refine wp_cond hv.v_inv ?_
    cases b with
    | true => exact hk.1 rfl w μ act hs he
    | false => exact hk.2 rfl w μ act hs he
  · exact hk.elim

theorem gcond_imp {c : GV} {X Y X' Y' : Prop} (hx : X → X') (hy : Y → Y') (h : gcond c X Y) : gcond c X' Y' := by
  unfold gcond at h ⊢
  split at h
  · exact ⟨fun e => hx (h.1 e), fun e => hy (h.2 e)⟩
  · exact h.elim

theorem gwp_sound {P : Program} {S0 : Sh} (hn : ∀ id, S0.h.get id ≠ none → id < S0.h.next) (hm : P.follows .mixedOrders = true) (plan : List (Nat × List (Nat × Nat))) :
    ∀ (c : Code) (Q : Exit → GF → GH → Prop) (a : GF) (h : GH), gwp P S0 plan c Q a h → GWp P S0 c Q a h
  | .skip, Q, a, h, hk => GWp.skip hk
  | .region id ops false, Q, a, h, hk => GWp.region hn hk
  | .region id ops true, Q, a, h, hk => by
    obtain ⟨hs, hk⟩ := hk
    simp only [drawOk, Bool.and_eq_true, beq_iff_eq] at hs
    exact GWp.draw hn hm _ _ hs.1 hs.2 hk
  | .seq x y, Q, a, h, hk => by
    rcases gseqx_or hk with hk | hk
    · exact GWp.seq (gwp_sound hn hm plan x _ a h hk)
    · exact GWp.seq ((gwp_sound hn hm plan x _ a h hk).mono fun e a' h' hq => by
        cases e <;> first | exact hq | exact gwp_sound hn hm plan y Q a' h' hq)
  | .cond c x y, Q, a, h, hk => GWp.cond (gcond_imp (gwp_sound hn hm plan x Q a h) (gwp_sound hn hm plan y Q a h) hk)
  | .block id c, Q, a, h, hk => GWp.block (gwp_sound hn hm plan c _ a h hk)
  | .loop c, Q, a, h, hk => hk
  | .exit id, Q, a, h, hk => GWp.exit hk
  | .ret, Q, a, h, hk => GWp.ret hk
  | .rangeFunc .., _, _, _, hk => hk.elim
  | .scope _, _, _, _, hk => hk.elim
  | .label _, _, _, _, hk => hk.elim
  | .goto _, _, _, _, hk => hk.elim
  | .refuse _, _, _, _, hk => hk.elim

/-! ### loops -/
theorem GWp.loop {P : Program} {S0 : Sh} {Q : Exit → GF → GH → Prop} {c : Code} {σ : Type} (I : σ → GF → GH → Prop) (m : σ → Nat)
    (step : ∀ s a h, I s a h → GWp P S0 c (Exit.thenG (fun a' h' => ∃ s', m s' < m s ∧ ∃ a2 h2, Wk S0 a' h' a2 h2 ∧ I s' a2 h2) Q) a h) :
    ∀ (s : σ) (a : GF) (h : GH), I s a h → GWp P S0 (.loop c) Q a h := fun s0 a0 h0 hI0 w0 μ0 act0 hs0 he0 => by
  refine wp_loop_rounds (m s0 + 1) ?_
  have key : ∀ (n : Nat) (s : σ) (a : GF) (h : GH), m s < n → I s a h → ∀ w μ act, St ⟨w, h, μ⟩ a act → Evolve S0 ⟨w, h, μ⟩ → Code.rounds P c (GPostE S0 Q) n act w := by
    intro n
    induction n with
    | zero => intro s a h hlt; omega
    | succ n ih =>
      intro s a h hlt hI w μ act hs he
      rw [rounds_succ]
      refine wp_mono (step s a h hI w μ act hs he) fun e act' w' hq => ?_
      cases e with
      | normal =>
        obtain ⟨a1, h1, μ1, hs1, he1, s', hm, a2, h2, wk, hI2⟩ := hq
        obtain ⟨μ2, hs2, he2⟩ := wk w' μ1 act' hs1 he1
        exact ih s' a2 h2 (by omega) hI2 w' μ2 act' hs2 he2
      | _ => exact hq
  exact key _ s0 a0 h0 (Nat.lt_succ_self _) hI0 w0 μ0 act0 hs0 he0

/-- A frame that says less. -/
def GF.le (a' a : GF) : Prop := a'.n = a.n ∧ ∀ p ∈ a'.m, a.get p.1 = p.2

theorem look_mem (m : List (Nat × GV)) (t : Nat) : GF.look m t = .dead ∨ (t, GF.look m t) ∈ m := by
  induction m with
  | nil => exact .inl rfl
  | cons p r ih =>
    obtain ⟨k, g⟩ := p
    simp only [GF.look]
    split
    · rename_i h; subst h; exact .inr (by simp)
    · rcases ih with h | h
      · exact .inl h
      · exact .inr (by simp [h])

theorem GF.le.frel {a a' : GF} (h : a'.le a) {S : Sh} {act : Act} (hf : FRel S a act) : FRel S a' act :=
  ⟨hf.defers, hf.size.trans h.1.symm, fun t => by
    rcases look_mem a'.m t with e | e
    · simp only [GF.get, e]; exact .dead _
    · have := h.2 _ e
      simp only at this
      simp only [GF.get]
      rw [← this]
      exact hf.tmps t⟩

theorem Wk.frame {S0 : Sh} {a a' : GF} {h : GH} (hl : a'.le a) : Wk S0 a h a' h := fun _ μ _ hs he => ⟨μ, ⟨hs.1, hl.frel hs.2⟩, he⟩

/-- A block that nobody needs any more. -/
theorem Wk.del {S0 : Sh} {a : GF} {h : GH} (hn : ∀ id, S0.h.get id ≠ none → id < S0.h.next) (id : Nat) : Wk S0 a h a (h.del id) := fun w μ _ hs he =>
  ⟨μ, ⟨sim_del hs.1 id, hs.2.mono hs.1.next (evolve_del ⟨w, h, μ⟩ id)⟩, he.trans hn (evolve_del ⟨w, h, μ⟩ id)⟩

/-! ### functions -/
def argsOf : Nat → List GV → List (Nat × GV)
  | _, [] => []
  | n, g :: r => (n, g) :: argsOf (n + 1) r

theorem look_argsOf (args : List GV) : ∀ (n t : Nat), GF.look (argsOf n args) t = if n ≤ t then (args[t - n]?).getD .dead else .dead := by
  induction args with
  | nil => intro n t; simp [argsOf, GF.look]
  | cons g r ih =>
    intro n t
    simp only [argsOf, GF.look]
    by_cases h : n = t
    · subst h; simp
    · rw [if_neg h, ih (n + 1) t]
      by_cases h2 : n + 1 ≤ t
      · rw [if_pos h2, if_pos (by omega)]
        have : t - n = (t - (n + 1)) + 1 := by omega
        rw [this]; rfl
      · rw [if_neg h2, if_neg (by omega)]

/-- The value that a function hands back. -/
def gres (P : Program) (rs : List ResultVar) (a : GF) (h : GH) (k : List GV → Prop) (_p : Ph k := ()) : Prop :=
  match rs with
  | [] => k []
  | .tmp t :: r => gres P r a h fun gs => k (a.get t :: gs)
  | .cell d t :: r => gload P t (a.get d) h fun g => gres P r a h fun gs => k (g :: gs)

def gtup : List GV → GV
  | [g] => g
  | gs => .tup gs

/-- What is told of a value and a heap may be told less at the return: h0 is the heap at the call. -/
structure Back (h0 : GH) (v : GV) (h : GH) (v' : GV) (h' : GH) : Prop where
  to : ∀ (S0 : Sh) (w : World) (μ : Nat → Option (Nat × Nat)) (x : Value), S0.h = h0 → Sim S0 → Sim ⟨w, h, μ⟩ → Evolve S0 ⟨w, h, μ⟩ → VRel ⟨w, h, μ⟩ v x →
    ∃ μ', Sim ⟨w, h', μ'⟩ ∧ Evolve S0 ⟨w, h', μ'⟩ ∧ VRel ⟨w, h', μ'⟩ v' x

theorem Back.refl (h0 : GH) (v : GV) (h : GH) : Back h0 v h v h := ⟨fun _ _ μ _ _ _ hs he hv => ⟨μ, hs, he, hv⟩⟩

def GRet (h0 : GH) (R : GV → GH → Prop) (v : GV) (h : GH) (_p : Ph R := ()) : Prop := ∃ v' h', Back h0 v h v' h' ∧ R v' h'

def GPost (P : Program) (rs : List ResultVar) (h0 : GH) (R : GV → GH → Prop) : Exit → GF → GH → Prop
  | .normal, a, h => gres P rs a h fun gs => GRet h0 R (gtup gs) h
  | .ret, a, h => gres P rs a h fun gs => GRet h0 R (gtup gs) h
  | _, _, _ => False

def resf (tmps : Array Value) : ResultVar → Sem Value
  | .tmp t => pure (tmps.getD t undef)
  | .cell a t => do loadVar t (← asAddr (tmps.getD a undef))

theorem results_eq (fn : Func) (tmps : Array Value) : results fn tmps = (do
    let vs ← fn.results.mapM (resf tmps)
    pure (if h : vs.size = 1 then vs[0] else .tuple vs)) := by
  unfold results
  congr 1

theorem gres_sound {P : Program} : ∀ (rs : List ResultVar) (a : GF) (h : GH) (k : List GV → Prop), gres P rs a h k → ∃ gs, k gs ∧ ∀ w μ act, St ⟨w, h, μ⟩ a act →
    ∃ vs : List Value, (rs.mapM (m := Sem) (resf act.tmps)).run P w = .ok vs w ∧ vs.length = gs.length ∧ ∀ (i : Nat) (g : GV) (x : Value), gs[i]? = some g → vs[i]? = some x → VRel ⟨w, h, μ⟩ g x
  | [], a, h, k, hk => ⟨[], hk, fun w μ act hs => ⟨[], by simp, rfl, fun i g x hg => by simp at hg⟩⟩
  | .tmp t :: r, a, h, k, hk => by
    obtain ⟨gs, hg, hr⟩ := gres_sound r a h _ hk
    refine ⟨_, hg, fun w μ act hs => ?_⟩
    obtain ⟨vs, hrun, hl, hrel⟩ := hr w μ act hs
    refine ⟨act.tmps.getD t undef :: vs, ?_, by simp [hl], fun i g x hg hx => ?_⟩
    · rw [List.mapM_cons]
      simp only [resf, Sem.run_bind, Sem.run_pure, Result.andThen]
      rw [hrun]
    · cases i with
      | zero => simp at hg hx; subst hg; subst hx; simpa using hs.2.tmps t
      | succ i => simp only [List.getElem?_cons_succ] at hg hx; exact hrel i g x hg hx
  | .cell d t :: r, a, h, k, hk => by
    obtain ⟨v, hv, hload⟩ := gload_sound hk
    obtain ⟨gs, hg, hr⟩ := gres_sound r a h _ hv
    refine ⟨_, hg, fun w μ act hs => ?_⟩
    obtain ⟨vs, hrun, hl, hrel⟩ := hr w μ act hs
    obtain ⟨y, hy, hyr⟩ := hload w μ _ hs.1 (hs.2.tmps d)
    refine ⟨y :: vs, ?_, by simp [hl], fun i g x hg hx => ?_⟩
    · rw [List.mapM_cons]
      have hy' : (do loadVar t (← asAddr (act.tmps.getD d undef)) : Sem Value).run P w = .ok y w := by
        have h1 : (Instr.loadAt t (act.tmps.getD d undef)).run P w = .ok y w := hy
        simp only [Instr.loadAt, Sem.run_bind] at h1 ⊢
        generalize act.tmps.getD d undef = u at h1
        cases u <;> first
          | (simp [Instr.sureAddr, stuck, Sem.run] at h1; done)
          | skip
        rename_i ad
        cases ad
        · simp [Instr.sureAddr, stuck, Sem.run] at h1
        · simpa [Instr.sureAddr, asAddr] using h1
      have hy2 : (resf act.tmps (.cell d t)).run P w = .ok y w := hy'
      simp only [Sem.run_bind, hy2, Result.andThen, hrun, Sem.run_pure]
    · cases i with
      | zero => simp at hg hx; subst hg; subst hx; exact hyr
      | succ i => simp only [List.getElem?_cons_succ] at hg hx; exact hrel i g x hg hx

theorem gcall_enter {P : Program} {f : FuncId} {fn : Func} {c : Code} {args : List GV} {h : GH} {R : GV → GH → Prop} (hm : P.follows .mixedOrders = true) (plan : List (Nat × List (Nat × Nat)))
    (hto : CallsTo P f) (hf : P.funcs[f]? = some fn) (hb : fn.body = some c) {n : Nat} (hnt : fn.ntmps = n) (hargs : args.length ≤ n) {rs : List ResultVar} (hrs : fn.results.toList = rs)
    (hk : ∀ S0 : Sh, S0.h = h → (∀ id, S0.h.get id ≠ none → id < S0.h.next) → gwp P S0 plan c (GPost P rs h R) ⟨n, argsOf 0 args⟩ h) : GCall P f args h R := by
  refine ⟨hto, fun w μ vs hs hvs hrel => ?_⟩
  have hg := gwp_sound (S0 := ⟨w, h, μ⟩) hs.next hm plan c _ _ _ (hk ⟨w, h, μ⟩ rfl hs.next)
  refine calls_of_wp hf hb ?_
  have hst : St ⟨w, h, μ⟩ ⟨n, argsOf 0 args⟩ { tmps := vs ++ Array.replicate (fn.ntmps - vs.size) undef, defers := [] } := by
    refine ⟨hs, rfl, by simp [hnt]; omega, fun t => ?_⟩
    simp only [GF.get, look_argsOf, Nat.zero_le, if_true, Nat.sub_zero]
    cases hgt : args[t]? with
    | none => exact .dead _
    | some g =>
      have hlt : t < vs.size := by have := (List.getElem?_eq_some_iff.1 hgt).1; omega
      have := hrel t g vs[t] hgt (Array.getElem?_eq_getElem hlt)
      simpa [Array.getElem?_append_left hlt, hlt] using this
  refine wp_mono (hg w μ _ hst (Evolve.refl _)) fun e act' w' hq => ?_
  obtain ⟨a', h', μ', hs', he', hp⟩ := hq
  have fin : (gres P rs a' h' fun gs => GRet h R (gtup gs) h') → act'.defers = [] ∧ ∃ v, (results fn act'.tmps).run P w' = .ok v w' ∧
      ∃ x g h'' μ'', (Ending.returned v = .returned x) ∧ Sim ⟨w', h'', μ''⟩ ∧ Evolve ⟨w, h, μ⟩ ⟨w', h'', μ''⟩ ∧ VRel ⟨w', h'', μ''⟩ g x ∧ R g h'' := fun hp => by
    obtain ⟨gs, ⟨v', h'', hback, hR⟩, hres⟩ := gres_sound rs a' h' _ hp
    obtain ⟨us, hrun, hl, hrel'⟩ := hres w' μ' act' hs'
    have hrun2 : (results fn act'.tmps).run P w' = .ok (if hh : us.toArray.size = 1 then us.toArray[0] else .tuple us.toArray) w' := by
      rw [results_eq]
      simp only [Array.mapM_eq_mapM_toList, hrs, bind_map_left, Sem.run_bind, hrun]
      rfl
    have hv : VRel ⟨w', h', μ'⟩ (gtup gs) (if hh : us.toArray.size = 1 then us.toArray[0] else .tuple us.toArray) := by
      match us, gs, hl, hrel' with
      | [x], [g], _, hr => exact hr 0 g x rfl rfl
      | [], [], _, hr => exact .tup (by simp) (fun i g x hg => by simp at hg)
      | x :: y :: us, g :: g' :: gs, hl, hr => exact .tup (by simpa using hl) (fun i g x hg hx => hr i g x hg (by simpa using hx))
    obtain ⟨μ'', h1, h2, h3⟩ := hback.to ⟨w, h, μ⟩ w' μ' _ rfl hs hs'.1 he' hv
    exact ⟨hs'.2.defers, _, hrun2, _, v', h'', μ'', rfl, h1, h2, h3, hR⟩
  cases e with
  | normal => exact fin hp
  | ret => exact fin hp
  | _ => exact hp.elim
end Gx
