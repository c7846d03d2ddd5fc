/- Plain: what runs are like. -/
import Derived.Test.YtbibihbkkflidaaGxTidy
set_option linter.unusedSimpArgs false
set_option linter.unusedVariables false
namespace Gx
open Go
theorem runG_len {τ : Type} (p : Prog) (M : Mk τ) : ∀ (k : Nat) (st : τ) (inp outs path : List Int) (at_ : Nat) (fr : Int),
    (runG p M k st inp outs path at_ fr).1.outs.length ≤ outs.length + k ∧ (runG p M k st inp outs path at_ fr).1.path.length ≤ path.length + k
  | 0, st, inp, outs, path, at_, fr => by simp [runG]
  | k + 1, st, inp, outs, path, at_, fr => by
    have go : ∀ st inp outs' at' fr', outs'.length ≤ outs.length + 1 → (runG p M k st inp outs' (path ++ [(at_ : Int)]) at' fr').1.outs.length ≤ outs.length + (k + 1) ∧ (runG p M k st inp outs' (path ++ [(at_ : Int)]) at' fr').1.path.length ≤ path.length + (k + 1) := fun st inp outs' at' fr' h => by
      obtain ⟨a, b⟩ := runG_len p M k st inp outs' (path ++ [(at_ : Int)]) at' fr'
      simp only [List.length_append, List.length_singleton] at b
      exact ⟨by omega, by omega⟩
    have stop : ∀ c, ((⟨c, outs, path ++ [(at_ : Int)]⟩ : Res).outs.length ≤ outs.length + (k + 1)) ∧ ((⟨c, outs, path ++ [(at_ : Int)]⟩ : Res).path.length ≤ path.length + (k + 1)) := fun c => ⟨by dsimp only; omega, by simp⟩
    simp only [runG]
    split
    · exact go _ _ _ _ _ (by omega)
    split
    · exact go _ _ _ _ _ (by omega)
    split
    · cases inp with
      | nil => exact stop _
      | cons x r => exact go _ _ _ _ _ (by omega)
    split
    · exact go _ _ _ _ _ (by simp)
    split
    · exact go _ _ _ _ _ (by omega)
    split
    · exact stop _
    · exact go _ _ _ _ _ (by omega)
end Gx
