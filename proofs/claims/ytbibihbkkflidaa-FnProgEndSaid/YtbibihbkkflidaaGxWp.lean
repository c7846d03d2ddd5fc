/- What a piece of code does to ghost frames and ghost heaps: rules over the model's own. -/
import Derived.Test.YtbibihbkkflidaaGxCore
import Derived.LoopN
namespace Gx
open Go

/-- A mark that keeps simp out of what it bears: an argument on which the type of a later one hangs is left alone. -/
def Ph {α : Sort _} (_a : α) : Type := Unit

/-- Some ghost state that stands for the world, has come of S0, and meets K. -/
def GN (S0 : Sh) (K : GF → GH → Prop) (act : Act) (w : World) : Prop := ∃ a h μ, St ⟨w, h, μ⟩ a act ∧ Evolve S0 ⟨w, h, μ⟩ ∧ K a h

theorem GN.mono {S0 : Sh} {K K' : GF → GH → Prop} (hk : ∀ a h, K a h → K' a h) {act : Act} {w : World} (h : GN S0 K act w) : GN S0 K' act w := by
  obtain ⟨a, h, μ, hs, he, k⟩ := h
  exact ⟨a, h, μ, hs, he, hk _ _ k⟩

def GPostE (S0 : Sh) (Q : Exit → GF → GH → Prop) (e : Exit) (act : Act) (w : World) : Prop := GN S0 (Q e) act w

def GWp (P : Program) (S0 : Sh) (c : Code) (Q : Exit → GF → GH → Prop) (a : GF) (h : GH) (_p : Ph Q := ()) (_q : Ph c := ()) : Prop :=
  ∀ w μ act, St ⟨w, h, μ⟩ a act → Evolve S0 ⟨w, h, μ⟩ → c.wp P (GPostE S0 Q) act w

section
variable {P : Program} {S0 : Sh} {Q : Exit → GF → GH → Prop} {a : GF} {h : GH}

theorem GWp.mono {c : Code} {Q' : Exit → GF → GH → Prop} (hq : ∀ e a h, Q e a h → Q' e a h) (hw : GWp P S0 c Q a h) : GWp P S0 c Q' a h :=
  fun w μ act hs he => wp_mono (hw w μ act hs he) fun e _ _ hn => GN.mono (hq e) hn

/-- Weakening: what is known may be known less. -/
def Wk (S0 : Sh) (a : GF) (h : GH) (a' : GF) (h' : GH) : Prop :=
  ∀ w μ act, St ⟨w, h, μ⟩ a act → Evolve S0 ⟨w, h, μ⟩ → ∃ μ', St ⟨w, h', μ'⟩ a' act ∧ Evolve S0 ⟨w, h', μ'⟩

theorem Wk.refl : Wk S0 a h a h := fun _ μ _ hs he => ⟨μ, hs, he⟩
theorem Wk.trans {a1 a2 : GF} {h1 h2 : GH} (x : Wk S0 a h a1 h1) (y : Wk S0 a1 h1 a2 h2) : Wk S0 a h a2 h2 := fun w μ act hs he => by
  obtain ⟨μ1, hs1, he1⟩ := x w μ act hs he
  exact y w μ1 act hs1 he1

theorem GWp.weaken {c : Code} {a' : GF} {h' : GH} (wk : Wk S0 a h a' h') (hw : GWp P S0 c Q a' h') : GWp P S0 c Q a h := fun w μ act hs he => by
  obtain ⟨μ', hs', he'⟩ := wk w μ act hs he
  exact hw w μ' act hs' he'

theorem GN.weaken {K : GF → GH → Prop} {act : Act} {w : World} (hn : GN S0 (fun a h => ∃ a' h', Wk S0 a h a' h' ∧ K a' h') act w) : GN S0 K act w := by
  obtain ⟨a, h, μ, hs, he, a', h', wk, k⟩ := hn
  obtain ⟨μ', hs', he'⟩ := wk w μ act hs he
  exact ⟨a', h', μ', hs', he', k⟩

theorem GWp.post_weaken {c : Code} (hw : GWp P S0 c (fun e a h => ∃ a' h', Wk S0 a h a' h' ∧ Q e a' h') a h) : GWp P S0 c Q a h :=
  fun w μ act hs he => wp_mono (hw w μ act hs he) fun _ _ _ hn => GN.weaken hn

/-- Behind a piece of code: on if it ends as usual, out else. -/
def Exit.thenG (K : GF → GH → Prop) (Q : Exit → GF → GH → Prop) : Exit → GF → GH → Prop
  | .normal => K
  | e => Q e

theorem GWp.seq {x y : Code} (hw : GWp P S0 x (Exit.thenG (GWp P S0 y Q) Q) a h) : GWp P S0 (.seq x y) Q a h := fun w μ act hs he => by
  refine wp_seq (wp_mono (hw w μ act hs he) fun e act' w' hn => ?_)
  cases e with
  | normal =>
    obtain ⟨a', h', μ', hs', he', k⟩ := hn
    exact k w' μ' act' hs' he'
  | _ => exact hn

theorem GWp.skip (hq : Q .normal a h) : GWp P S0 .skip Q a h := fun _ μ _ hs he => wp_skip ⟨a, h, μ, hs, he, hq⟩
theorem GWp.exit {id : Nat} (hq : Q (.exit id) a h) : GWp P S0 (.exit id) Q a h := fun _ μ _ hs he => wp_exit ⟨a, h, μ, hs, he, hq⟩
theorem GWp.ret (hq : Q .ret a h) : GWp P S0 .ret Q a h := fun _ μ _ hs he => wp_ret ⟨a, h, μ, hs, he, hq⟩

def Exit.inBlockG (id : Nat) (Q : Exit → GF → GH → Prop) : Exit → GF → GH → Prop
  | .exit id' => if id' = id then Q .normal else Q (.exit id')
  | e => Q e

theorem GWp.block {id : Nat} {c : Code} (hw : GWp P S0 c (Exit.inBlockG id Q) a h) : GWp P S0 (.block id c) Q a h := fun w μ act hs he => by
  refine wp_block (wp_mono (hw w μ act hs he) fun e act' w' hn => ?_)
  cases e with
  | exit id' =>
    simp only [Go.Exit.inBlock]
    obtain ⟨a', h', μ', hs', he', k⟩ := hn
    simp only [Exit.inBlockG] at k
    split
    · rename_i hid
      rw [if_pos hid] at k
      exact ⟨a', h', μ', hs', he', k⟩
    · rename_i hid
      rw [if_neg hid] at k
      exact ⟨a', h', μ', hs', he', k⟩
  | _ => exact hn

/-- An operand as the ghost frame has it. -/
def ofConst : Value → GV
  | .slice none 0 0 => .esl
  | .agg cs => if cs.all one then .agg (cs.toList.map fun
    | .slice none 0 0 => .esl
    | x => if scalar x then .v x else .dead) else .dead
  | x => if scalar x then .v x else .dead

def GF.ev (a : GF) : Operand → GV
  | .tmp t => a.get t
  | .const x => ofConst x
  | .func f => .fn (.func f) [] []
  | .global _ => .dead

theorem ofConst_rel (S : Sh) (x : Value) : VRel S (ofConst x) x := by
  have leaf : ∀ y : Value, VRel S (if scalar y then GV.v y else .dead) y := fun y => by
    split
    · rename_i h; exact .v h
    · exact .dead y
  unfold ofConst
  split
  · exact .esl none
  · rename_i cs
    split
    · rename_i ha
      simp only [Array.all_eq_true_iff_forall_mem] at ha
      refine .agg (by simp) (fun i g y hg hy => ?_) (fun i y hy => ha y (Array.mem_of_getElem? hy))
      simp only [List.getElem?_map, Array.getElem?_toList, hy, Option.map_some, Option.some.injEq] at hg
      subst hg
      split
      · exact .esl none
      · exact leaf _
    · exact .dead _
  · exact leaf x

theorem ev_rel {S : Sh} {a : GF} {act : Act} (h : FRel S a act) (x : Operand) : VRel S (a.ev x) (act.eval x) := by
  cases x with
  | tmp t => exact h.tmps t
  | const x => exact ofConst_rel S x
  | global g => exact .dead _
  | func f => exact .fn rfl rfl (fun i g x h => by simp at h) (fun i g x h => by simp at h)
end
end Gx
