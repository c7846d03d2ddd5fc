/- Plain: what runs are like. -/
import Derived.Test.YtbibihbkkflidaaGxTidy
set_option linter.unusedSimpArgs false
set_option linter.unusedVariables false
namespace Gx
open Go
theorem runG_len {τ : Type} (p : Prog) (M : Mk τ) : ∀ (k : Nat) (st : τ) (inp outs path : List Int) (at_ : Nat) (fr : Int),
    (runG p M k st inp outs path at_ fr).1.outs.length ≤ outs.length + k ∧ (runG p M k st inp outs path at_ fr).1.path.length ≤ path.length + k
  | 0, st, inp, outs, path, at_, fr => by simp [runG]
  | k + 1, st, inp, outs, path, at_, fr => by
    have go : ∀ st inp outs' at' fr', outs'.length ≤ outs.length + 1 → (runG p M k st inp outs' (path ++ [(at_ : Int)]) at' fr').1.outs.length ≤ outs.length + (k + 1) ∧ (runG p M k st inp outs' (path ++ [(at_ : Int)]) at' fr').1.path.length ≤ path.length + (k + 1) := fun st inp outs' at' fr' h => by
      obtain ⟨a, b⟩ := runG_len p M k st inp outs' (path ++ [(at_ : Int)]) at' fr'
      simp only [List.length_append, List.length_singleton] at b
      exact ⟨by omega, by omega⟩
    have stop : ∀ c, ((⟨c, outs, path ++ [(at_ : Int)]⟩ : Res).outs.length ≤ outs.length + (k + 1)) ∧ ((⟨c, outs, path ++ [(at_ : Int)]⟩ : Res).path.length ≤ path.length + (k + 1)) := fun c => ⟨by dsimp only; omega, by simp⟩
    simp only [runG]
    split
    · exact go _ _ _ _ _ (by omega)
    split
    · exact go _ _ _ _ _ (by omega)
    split
    · cases inp with
      | nil => exact stop _
      | cons x r => exact go _ _ _ _ _ (by omega)
    split
    · exact go _ _ _ _ _ (by simp)
    split
    · exact go _ _ _ _ _ (by omega)
    split
    · exact stop _
    · exact go _ _ _ _ _ (by omega)
/-- How many of a way's steps write. -/
def c4 (p : Prog) (l : List Int) : Nat := l.countP fun x => decide ((p.getD x.toNat step0).kind = 4)
theorem nx_in {p : Prog} (hf : Fits p) {at_ : Nat} (ha : at_ < p.length) (i : Nat) : (nx (p.getD at_ step0) i).toNat < p.length := by
  have e : p.getD at_ step0 = p[at_] := by rw [List.getD_eq_getElem?_getD, List.getElem?_eq_getElem ha]; rfl
  rw [e, nx, List.getD_eq_getElem?_getD]
  rcases Nat.lt_or_ge i p[at_].next.length with h | h
  · rw [List.getElem?_eq_getElem h]
    have := hf.2 at_ ha _ (List.getElem_mem h)
    simp only [Option.getD_some]; omega
  · rw [List.getElem?_eq_none h]
    simp only [Option.getD_none]; have := hf.1; omega
theorem c4_snoc (p : Prog) (l : List Int) (a : Nat) : c4 p (l ++ [(a : Int)]) = c4 p l + if (p.getD a step0).kind = 4 then 1 else 0 := by
  simp only [c4, List.countP_append, List.countP_singleton, Int.toNat_natCast, decide_eq_true_eq]
theorem runG_outs {τ : Type} (p : Prog) (M : Mk τ) (hf : Fits p) : ∀ (k : Nat) (st : τ) (inp outs path : List Int) (at_ : Nat) (fr : Int), at_ < p.length → (∀ x ∈ path, 0 ≤ x ∧ x < p.length) → outs.length = c4 p path →
    (∀ x ∈ (runG p M k st inp outs path at_ fr).1.path, 0 ≤ x ∧ x < p.length) ∧ (runG p M k st inp outs path at_ fr).1.outs.length = c4 p (runG p M k st inp outs path at_ fr).1.path
  | 0, st, inp, outs, path, at_, fr, ha, hp, ho => by simp only [runG]; exact ⟨hp, ho⟩
  | k + 1, st, inp, outs, path, at_, fr, ha, hp, ho => by
    have hp' : ∀ x ∈ path ++ [(at_ : Int)], 0 ≤ x ∧ x < p.length := fun x hx => by
      rcases List.mem_append.1 hx with hx | hx
      · exact hp x hx
      · obtain rfl := List.mem_singleton.1 hx; omega
    have h4 := c4_snoc p path at_
    have go : ∀ st inp outs' i fr', outs'.length = c4 p (path ++ [(at_ : Int)]) →
        (∀ x ∈ (runG p M k st inp outs' (path ++ [(at_ : Int)]) (nx (p.getD at_ step0) i).toNat fr').1.path, 0 ≤ x ∧ x < p.length) ∧ (runG p M k st inp outs' (path ++ [(at_ : Int)]) (nx (p.getD at_ step0) i).toNat fr').1.outs.length = c4 p (runG p M k st inp outs' (path ++ [(at_ : Int)]) (nx (p.getD at_ step0) i).toNat fr').1.path :=
      fun st inp outs' i fr' h => runG_outs p M hf k st inp outs' _ _ fr' (nx_in hf ha i) hp' h
    simp only [runG]
    split
    · rename_i e; rw [if_neg (by omega)] at h4; exact go _ _ _ _ _ (by omega)
    split
    · rename_i e; rw [if_neg (by omega)] at h4; exact go _ _ _ _ _ (by omega)
    split
    · rename_i e; rw [if_neg (by omega)] at h4
      cases inp with
      | nil => exact ⟨hp', by dsimp only; omega⟩
      | cons x r => exact go _ _ _ _ _ (by omega)
    split
    · rename_i e; rw [if_pos e] at h4; exact go _ _ _ _ _ (by simp; omega)
    split
    · rename_i e; rw [if_neg (by omega)] at h4; exact go _ _ _ _ _ (by omega)
    split
    · rename_i e; rw [if_neg (by omega)] at h4; exact ⟨hp', by dsimp only; omega⟩
    · rename_i e _; rw [if_neg (by omega)] at h4; exact go _ _ _ _ _ (by omega)
/-- A run that did not want for numbers goes the same where more are given. -/
theorem runG_more {τ : Type} (p : Prog) (M : Mk τ) (e : List Int) : ∀ (k : Nat) (st : τ) (inp outs path : List Int) (at_ : Nat) (fr : Int), (runG p M k st inp outs path at_ fr).1.code ≠ 2 →
    runG p M k st (inp ++ e) outs path at_ fr = runG p M k st inp outs path at_ fr
  | 0, st, inp, outs, path, at_, fr, h => by simp only [runG]
  | k + 1, st, inp, outs, path, at_, fr, h => by
    simp only [runG] at h ⊢
    split
    · rename_i c; rw [if_pos c] at h; exact runG_more p M e k _ _ _ _ _ _ h
    rename_i c1; rw [if_neg c1] at h
    split
    · rename_i c; rw [if_pos c] at h; exact runG_more p M e k _ _ _ _ _ _ h
    rename_i c2; rw [if_neg c2] at h
    split
    · rename_i c; rw [if_pos c] at h
      cases inp with
      | nil => exact absurd rfl h
      | cons x r => exact runG_more p M e k _ _ _ _ _ _ h
    rename_i c3; rw [if_neg c3] at h
    split
    · rename_i c; rw [if_pos c] at h; exact runG_more p M e k _ _ _ _ _ _ h
    rename_i c4; rw [if_neg c4] at h
    split
    · rename_i c; rw [if_pos c] at h; exact runG_more p M e k _ _ _ _ _ _ h
    rename_i c5; rw [if_neg c5] at h
    split
    · rfl
    · rename_i c6; rw [if_neg c6] at h; exact runG_more p M e k _ _ _ _ _ _ h
theorem getD_app {p : Prog} {s : Step} {i : Nat} (h : i < p.length) : (p ++ [s]).getD i step0 = p.getD i step0 := by
  simp only [List.getD_eq_getElem?_getD, List.getElem?_append_left h]
/-- A step that nothing leads to changes no run. -/
theorem runG_end (p : Prog) (s : Step) (hf : Fits p) : ∀ (k : Nat) (st : List Int) (inp outs path : List Int) (at_ : Nat) (fr : Int), at_ < p.length →
    runG (p ++ [s]) (varM (p ++ [s])) k st inp outs path at_ fr = runG p (varM p) k st inp outs path at_ fr
  | 0, st, inp, outs, path, at_, fr, ha => by simp only [runG]
  | k + 1, st, inp, outs, path, at_, fr, ha => by
    have ih : ∀ st inp outs path i fr, runG (p ++ [s]) (varM (p ++ [s])) k st inp outs path (nx (p.getD at_ step0) i).toNat fr = runG p (varM p) k st inp outs path (nx (p.getD at_ step0) i).toNat fr :=
      fun st inp outs path i fr => runG_end p s hf k st inp outs path _ fr (nx_in hf ha i)
    have e1 : ∀ st b, (varM (p ++ [s])).rd st at_ b = (varM p).rd st at_ b := fun st b => by simp only [varM, getD_app ha]
    have e2 : ∀ st v, (varM (p ++ [s])).wr st at_ v = (varM p).wr st at_ v := fun st v => by simp only [varM, getD_app ha]
    have e3 : ∀ st f, (varM (p ++ [s])).ent st at_ f = (varM p).ent st at_ f := fun st f => rfl
    simp only [runG, getD_app ha, e1, e2, e3, ih]
theorem ok_null {n : Int} : Step.ok ⟨7, 0, 0, ⟨0, 0⟩, ⟨0, 0⟩, []⟩ n = true := by
  simp [Step.ok, inB, nexts, changes, usesA, Opnd.zero]
theorem ok_end {p : Prog} (h : progOk p = true) (hl : p.length < 60) : progOk (p ++ [⟨7, 0, 0, ⟨0, 0⟩, ⟨0, 0⟩, []⟩]) = true := by
  obtain ⟨h1, h2, h3⟩ := prog_facts h
  have e : ((p ++ [(⟨7, 0, 0, ⟨0, 0⟩, ⟨0, 0⟩, []⟩ : Step)]).length : Int) = p.length + 1 := by simp
  simp only [progOk, inB, Bool.and_eq_true, decide_eq_true_eq, Bool.not_eq_true', List.any_eq_false]
  refine ⟨by omega, fun s hs => ?_⟩
  rw [e]
  rcases List.mem_append.1 hs with hs | hs
  · obtain ⟨i, hi, rfl⟩ := List.mem_iff_getElem.1 hs
    rw [ok_mono (h3 i hi) (by omega)]; simp
  · obtain rfl := List.mem_singleton.1 hs
    rw [ok_null]; simp
end Gx
