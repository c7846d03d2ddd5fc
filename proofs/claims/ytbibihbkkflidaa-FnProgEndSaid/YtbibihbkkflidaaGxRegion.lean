/- Regions: in the order of the text, and in whatever order. -/
import Derived.Test.YtbibihbkkflidaaGxGop
import Derived.Orders
set_option linter.unusedSimpArgs false
set_option linter.unusedVariables false
namespace Gx
open Go

def fixl : List (Nat × GV) → Nat → GV → List (Nat × GV)
  | [], _, _ => []
  | (k, g) :: r, d, x => if k = d then (k, x) :: r else (k, g) :: fixl r d x
def GF.fix (a : GF) (d : Nat) (x : GV) : GF := ⟨a.n, fixl a.m d x⟩

theorem look_fixl (m : List (Nat × GV)) (d : Nat) (x : GV) (t : Nat) (h : GF.look m d = x) : GF.look (fixl m d x) t = GF.look m t := by
  induction m with
  | nil => rfl
  | cons p r ih =>
    obtain ⟨k, g⟩ := p
    simp only [GF.look] at h
    simp only [fixl]
    by_cases hk : k = d
    · rw [if_pos hk] at h
      rw [if_pos hk]
      subst h
      rfl
    · rw [if_neg hk] at h
      rw [if_neg hk]
      simp only [GF.look]
      split
      · rfl
      · exact ih h

theorem fix_get {a : GF} {d : Nat} {x : GV} (h : a.get d = x) (t : Nat) : (a.fix d x).get t = a.get t := look_fixl a.m d x t h

/-- Frames that read alike. -/
def GF.like (a b : GF) : Prop := a.n = b.n ∧ ∀ t, a.get t = b.get t
theorem fix_like {a : GF} {d : Nat} {x : GV} (h : a.get d = x) : (a.fix d x).like a := ⟨rfl, fix_get h⟩
theorem GF.like.ev {a b : GF} (h : a.like b) (x : Operand) : a.ev x = b.ev x := by cases x <;> first | exact h.2 _ | rfl
theorem GF.like.frel {a b : GF} (h : a.like b) {S : Sh} {act : Act} (hf : FRel S a act) : FRel S b act := ⟨hf.defers, hf.size.trans h.1, fun t => by rw [← h.2]; exact hf.tmps t⟩
theorem GF.like.symm {a b : GF} (h : a.like b) : b.like a := ⟨h.1.symm, fun t => (h.2 t).symm⟩
theorem GF.like.opR {a b : GF} (h : a.like b) {P : Program} {o : Oper} {hp : GH} {R : GV → GH → Prop} (ho : OpR P o a hp R) : OpR P o b hp R :=
  fun w μ act hs hops => ho w μ act hs fun x hx => by rw [h.ev]; exact hops x hx

/-- Whether an operation is carried out. -/
def gguard (ops : Array Oper) (g : Option (Nat × Bool)) (a : GF) (yes no : GF → Prop) (_p : Ph yes := ()) (_q : Ph no := ()) : Prop :=
  match g with
  | none => yes a
  | some (j, want) => match (ops[j]?).bind (·.dst) with
    | some d => match a.get d with
      | .v (.bool b) => gcase b (if want = true then yes (a.fix d (.v (.bool true))) else no (a.fix d (.v (.bool true)))) (if want = false then yes (a.fix d (.v (.bool false))) else no (a.fix d (.v (.bool false))))
      | .tup [] => no a
      | _ => False
    | none => False

def gwant (ops : Array Oper) (o : Oper) (a : GF) : Option Bool :=
  match o.guard with
  | none => some true
  | some (j, want) => match (ops[j]?).bind (·.dst) with
    | some d => match a.get d with
      | .v (.bool b) => some (b == want)
      | .tup [] => some false
      | _ => none
    | none => none

theorem gguard_or {ops : Array Oper} {o : Oper} {a : GF} {yes no : GF → Prop} (h : gguard ops o.guard a yes no) :
    ∃ a', a'.like a ∧ ((gwant ops o a = some true ∧ yes a') ∨ (gwant ops o a = some false ∧ no a')) := by
  unfold gguard at h
  unfold gwant
  split at h
  · exact ⟨a, ⟨rfl, fun _ => rfl⟩, .inl ⟨rfl, h⟩⟩
  · rename_i j want hg
    split at h
    · rename_i d hd
      split at h
      · rename_i b hb
        cases b with
        | true =>
          have h1 := h.1 rfl
          refine ⟨_, fix_like hb, ?_⟩
          cases want
          · rw [if_neg (by simp)] at h1; exact .inr ⟨by simp, h1⟩
          · rw [if_pos rfl] at h1; exact .inl ⟨by simp, h1⟩
        | false =>
          have h1 := h.2 rfl
          refine ⟨_, fix_like hb, ?_⟩
          cases want
          · rw [if_pos rfl] at h1; exact .inl ⟨by simp, h1⟩
          · rw [if_neg (by simp)] at h1; exact .inr ⟨by simp, h1⟩
      · exact ⟨a, ⟨rfl, fun _ => rfl⟩, .inr ⟨rfl, h⟩⟩
      · exact h.elim
    · exact h.elim

theorem gwant_wanted {ops : Array Oper} {o : Oper} {a : GF} {S : Sh} {act : Act} (hf : FRel S a act) {b : Bool} (h : gwant ops o a = some b) : Region.wanted o (yielded ops act.tmps) = b := by
  unfold gwant at h
  unfold Region.wanted
  split at h
  · rename_i hg
    rw [hg]
    simpa using h
  · rename_i j want hg
    rw [hg]
    simp only
    split at h
    · rename_i d hd
      split at h
      · rename_i q hq
        have hx := hf.tmps d
        rw [hq] at hx
        have hv := hx.v_inv
        have hget : act.tmps[d]? = some (.bool q) := by
          cases e : act.tmps[d]? with
          | none => simp [e, undef] at hv
          | some y => simp [e] at hv; rw [hv]
        have hy : yielded ops act.tmps j = some q := by
          unfold yielded
          rw [hd]
          simp [hget]
        rw [hy]
        simp only [Option.some.injEq] at h
        rw [← h]
        cases q <;> cases want <;> rfl
      · rename_i hq
        have hx := hf.tmps d
        rw [hq] at hx
        have hv : act.tmps.getD d undef = .tuple #[] := by
          generalize act.tmps.getD d undef = z at hx
          cases hx with
          | tup h1 _ => simp only [List.length_nil, Array.size_eq_zero_iff] at h1; rw [h1]
        have hy : yielded ops act.tmps j = none := by
          unfold yielded
          rw [hd]
          cases e : act.tmps[d]? with
          | none => simp [e]
          | some y => simp [e] at hv; simp [e, hv]
        rw [hy]
        simp only [Option.some.injEq] at h
        rw [← h]
        rfl
      · cases h
    · cases h

theorem vrel_undef {S : Sh} : VRel S (.tup []) undef := .tup rfl (fun i g x h => by simp at h)

/-- Operations in the order of the text. -/
def gw (P : Program) (ops : Array Oper) : (l : List Oper) → (K : GF → GH → Prop) → GF → GH → (_p : Ph K := ()) → (_q : Ph l := ()) → Prop
  | [], K, a, h, _, _ => K a h
  | o :: r, K, a, h, _, _ => gguard ops o.guard a (fun a' => gdo P o.op a' h fun v h' => gw P ops r K (a'.put o.dst v) h') (fun a' => gw P ops r K (a'.put o.dst (.tup [])) h)

theorem GF.like.put {a b : GF} (h : a.like b) (dst : Option Nat) (g : GV) : (a.put dst g).like (b.put dst g) := by
  cases dst with
  | none => exact h
  | some d =>
    simp only [GF.put, h.1]
    split
    · exact ⟨rfl, fun t => by simp only [GF.get, GF.look]; split; rfl; exact h.2 t⟩
    · exact h

theorem gw_sound {P : Program} {S0 : Sh} {ops : Array Oper} {K : GF → GH → Prop} : ∀ (l : List Oper) (a : GF) (h : GH), gw P ops l K a h → ∀ w μ act, St ⟨w, h, μ⟩ a act → Evolve S0 ⟨w, h, μ⟩ → (∀ id, S0.h.get id ≠ none → id < S0.h.next) →
    wpList P ops (fun e act w => match e with | .normal => GN S0 K act w | _ => False) l act w
  | [], a, h, hk, w, μ, act, hs, he, hn => ⟨a, h, μ, hs, he, hk⟩
  | o :: r, a, h, hk, w, μ, act, hs, he, hn => by
    obtain ⟨a', hl, hyn⟩ := gguard_or hk
    refine wpList_step fun K' hK' => ?_
    rcases hyn with ⟨hw, hy⟩ | ⟨hw, hno⟩
    · rw [if_pos (gwant_wanted hs.2 hw)]
      have hs' : St ⟨w, h, μ⟩ a' act := ⟨hs.1, hl.symm.frel hs.2⟩
      refine gdo_sound hy w μ act hs.1 (fun x hx => ev_rel hs'.2 x) K' _ fun y w' v h' μ' hv hs1 E hrel => ?_
      refine hK' _ _ (gw_sound r _ _ hv w' μ' _ ⟨hs1, (hs'.2.mono hs.1.next E).put o.dst hrel⟩ (he.trans hn E) hn)
    · rw [if_neg (by rw [gwant_wanted hs.2 hw]; simp)]
      have hs' : FRel ⟨w, h, μ⟩ a' act := hl.symm.frel hs.2
      exact hK' _ _ (gw_sound r _ _ hno w μ _ ⟨hs.1, hs'.put o.dst vrel_undef⟩ he hn)

theorem GWp.region {P : Program} {S0 : Sh} {Q : Exit → GF → GH → Prop} {a : GF} {h : GH} (hn : ∀ id, S0.h.get id ≠ none → id < S0.h.next) {id : Nat} {ops : Array Oper}
    (hk : gw P ops ops.toList (Q .normal) a h) : GWp P S0 (.region id ops false) Q a h := fun w μ act hs he => by
  have := gw_sound ops.toList a h hk w μ act hs he hn
  refine wp_mono (wp_region_list (Q := fun e act w => match e with | .normal => GN S0 (Q .normal) act w | _ => False) this) fun e act' w' he' => ?_
  cases e <;> first | exact he' | exact he'.elim

/-! ### whatever order -/
def GStep (P : Program) (ops : Array Oper) (o : Oper) (a : GF) (h : GH) (R : GV → GH → Prop) : Prop :=
  (gwant ops o a = some true ∧ OpR P o a h R) ∨ (gwant ops o a = some false ∧ R (.tup []) h)

def GGA (P : Program) (ops : Array Oper) (eff : Nat → Bool) (prot : List (Nat × Nat)) (K : GF → GH → Prop) : Nat → Array Bool → GF → GH → Prop
  | 0, listed, a, h => Region.ready .any ops listed = [] ∧ K a h
  | fuel + 1, listed, a, h => (Region.ready .any ops listed = [] → K a h) ∧ ∀ j ∈ Region.ready .any ops listed, ∃ o, ops[j]? = some o ∧
      GStep P ops o a h fun v h' => ((eff j = false → h' = h) ∧ ∀ p ∈ prot, ((Region.before ops).getD j 0).testBit p.1 = false → h'.get p.2 = h.get p.2) ∧ GGA P ops eff prot K fuel (listed.setIfInBounds j true) (a.put o.dst v) h'

theorem gga_sound {P : Program} {S0 : Sh} {ops : Array Oper} {eff : Nat → Bool} {prot : List (Nat × Nat)} {K : GF → GH → Prop} (hn : ∀ id, S0.h.get id ≠ none → id < S0.h.next) :
    ∀ (fuel : Nat) (listed : Array Bool) (a : GF) (h : GH), GGA P ops eff prot K fuel listed a h → ∀ w μ act, St ⟨w, h, μ⟩ a act → Evolve S0 ⟨w, h, μ⟩ →
      wpAny P .any ops (fun e act w => match e with | .normal => GN S0 K act w | _ => False) fuel listed act w
  | 0, listed, a, h, hk, w, μ, act, hs, he => ⟨hk.1, a, h, μ, hs, he, hk.2⟩
  | fuel + 1, listed, a, h, hk, w, μ, act, hs, he => by
    refine ⟨fun hr => ⟨a, h, μ, hs, he, hk.1 hr⟩, fun j hj => ?_⟩
    obtain ⟨o, ho, hst⟩ := hk.2 j hj
    unfold wpOp
    rw [ho]
    simp only
    rcases hst with ⟨hw, hop⟩ | ⟨hw, hd⟩
    · rw [if_pos (gwant_wanted hs.2 hw)]
      refine .inl (hop w μ act hs.1 (fun x hx => ev_rel hs.2 x) _ _ fun y w' v h' μ' hv hs1 E hrel => ?_)
      exact gga_sound hn fuel _ _ _ hv.2 w' μ' _ ⟨hs1, (hs.2.mono hs.1.next E).put o.dst hrel⟩ (he.trans hn E)
    · rw [if_neg (by rw [gwant_wanted hs.2 hw]; simp)]
      exact gga_sound hn fuel _ _ _ hd.2 w μ _ ⟨hs.1, hs.2.put o.dst vrel_undef⟩ he
end Gx
