/- A part of the proof: what some of the functions come to. -/
import Derived.Test.YtbibihbkkflidaaGxSimp4
set_option linter.unusedSimpArgs false
set_option linter.unusedVariables false
namespace Gx
open Go
/-- A ghost value that says less. -/
def Sub (g g' : GV) : Prop := ∀ (S : Sh) (x : Value), VRel S g x → VRel S g' x
theorem Sub.refl (g : GV) : Sub g g := fun _ _ h => h
theorem Sub.esl (e : Nat) : Sub .esl (.isl e []) := fun S x h => by cases h; exact .isl0 e _ _
inductive Subs : List GV → List GV → Prop where
  | nil : Subs [] []
  | cons {g g' : GV} {r r' : List GV} (h : Sub g g') (hr : Subs r r') : Subs (g :: r) (g' :: r')
theorem Subs.length_eq {a b : List GV} (h : Subs a b) : a.length = b.length := by
  induction h with
  | nil => rfl
  | cons _ _ ih => simp [ih]
theorem Subs.get {a b : List GV} (h : Subs a b) : ∀ {i : Nat} {g' : GV}, b[i]? = some g' → ∃ g, a[i]? = some g ∧ Sub g g' := by
  induction h with
  | nil => intro i g' h; simp at h
  | cons h hr ih =>
    intro i g' hg
    cases i with
    | zero => simp at hg; subst hg; exact ⟨_, by simp, h⟩
    | succ i => simp at hg; obtain ⟨g, h1, h2⟩ := ih hg; exact ⟨g, by simpa using h1, h2⟩
theorem Sub.agg {ls ls' : List GV} (h : Subs ls ls') : Sub (.agg ls) (.agg ls') := fun S x hx => by
  cases hx with
  | agg h1 h2 h3 =>
    refine .agg (h1.trans h.length_eq) (fun i g x hg hx => ?_) h3
    obtain ⟨g0, e1, e2⟩ := h.get hg
    exact e2 S x (h2 i g0 x e1 hx)
theorem Sub.tup {ls ls' : List GV} (h : Subs ls ls') : Sub (.tup ls) (.tup ls') := fun S x hx => by
  cases hx with
  | tup h1 h2 =>
    refine .tup (h1.trans h.length_eq) (fun i g x hg hx => ?_)
    obtain ⟨g0, e1, e2⟩ := h.get hg
    exact e2 S x (h2 i g0 x e1 hx)
theorem Sub.trans {a b c : GV} (x : Sub a b) (y : Sub b c) : Sub a c := fun S v h => y S v (x S v h)
/-- Rows that say less. -/
inductive Subss : List (List GV) → List (List GV) → Prop where
  | nil : Subss [] []
  | cons {g g' : List GV} {r r' : List (List GV)} (h : Subs g g') (hi : ∀ x ∈ g', x.idl = true) (hr : Subss r r') : Subss (g :: r) (g' :: r')
theorem Subs.rfl' : ∀ (l : List GV), Subs l l
  | [] => .nil
  | g :: r => .cons (.refl g) (Subs.rfl' r)
theorem Subss.refl : ∀ (l : List (List GV)) (h : ∀ r ∈ l, ∀ x ∈ r, x.idl = true), Subss l l
  | [], _ => .nil
  | g :: r, h => .cons (Subs.rfl' g) (h g (by simp)) (Subss.refl r fun r hr => h r (by simp [hr]))
theorem Subss.app {a a' b b' : List (List GV)} (h1 : Subss a a') (h2 : Subss b b') : Subss (a ++ b) (a' ++ b') := by
  induction h1 with
  | nil => exact h2
  | cons h hi _ ih => exact .cons h hi ih
theorem Subss.length_eq {a b : List (List GV)} (h : Subss a b) : a.length = b.length := by
  induction h with
  | nil => rfl
  | cons _ _ _ ih => simp [ih]
theorem Subss.get {a b : List (List GV)} (h : Subss a b) : ∀ {i : Nat} {g' : List GV}, b[i]? = some g' → ∃ g, a[i]? = some g ∧ Subs g g' := by
  induction h with
  | nil => intro i g' h; simp at h
  | cons h _ hr ih =>
    intro i g' hg
    cases i with
    | zero => simp at hg; subst hg; exact ⟨_, by simp, h⟩
    | succ i => simp at hg; obtain ⟨g, h1, h2⟩ := ih hg; exact ⟨g, by simpa using h1, h2⟩
theorem Subss.idl {a b : List (List GV)} (h : Subss a b) : ∀ r ∈ b, ∀ x ∈ r, x.idl = true := by
  induction h with
  | nil => intro r h; simp at h
  | cons h hi hr ih =>
    intro r hm
    rcases List.mem_cons.1 hm with rfl | hm
    · exact hi
    · exact ih r hm
theorem Sub.isl {e : Nat} {a b : List (List GV)} (h : Subss a b) : Sub (.isl e a) (.isl e b) := fun S x hx => by
  have hl := h.length_eq
  cases hx with
  | isl0 e a cap =>
    have : b = [] := List.length_eq_zero_iff.1 (by rw [← hl]; rfl)
    subst this; exact .isl0 _ _ _
  | isl u h1 hb ho hcap hsz hc hone hf hv =>
    refine .isl u (h1.trans hl) hb ho hcap (fun r hr => ?_) (fun i j hi hj => hc i j (by omega) hj) (fun i j hi hj => hone i j (by omega) hj) h.idl (fun i j r g hr hg => ?_)
    · obtain ⟨i, hi, rfl⟩ := List.mem_iff_getElem.1 hr
      obtain ⟨g, e1, e2⟩ := h.get (List.getElem?_eq_getElem hi)
      rw [← e2.length_eq]; exact hsz g (List.mem_of_getElem? e1)
    · obtain ⟨r0, e1, e2⟩ := h.get hr
      obtain ⟨g0, e3, e4⟩ := e2.get hg
      exact e4 S _ (hv i j r0 g0 e1 e3)
/-- A return that says less of its value. -/
theorem GRet.sub {h0 h : GH} {R : GV → GH → Prop} {v g' : GV} (hr : GRet h0 (fun v' h' => Sub v' g' ∧ R g' h') v h) : GRet h0 R v h := by
  obtain ⟨v', h', hb, hs, hR⟩ := hr
  exact ⟨g', h', ⟨fun S0 w μ x e h1 h2 h3 h4 => by
    obtain ⟨μ', a, b, c⟩ := hb.to S0 w μ x e h1 h2 h3 h4
    exact ⟨μ', a, b, hs _ _ c⟩⟩, hR⟩
end Gx
