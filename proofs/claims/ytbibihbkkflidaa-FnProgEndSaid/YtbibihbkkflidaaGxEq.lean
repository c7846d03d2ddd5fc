/- A part of the proof: what some of the functions come to. -/
import Derived.Test.YtbibihbkkflidaaGxSeat
import Derived.Laws.StructEq
import Derived.Laws.Cover3
namespace Gx
open Go Go.Proofs
theorem gk_int : ∀ {xs : List Value} {ks : List Nat}, gkinds (xs.map .v) = 1 :: ks → ∃ k a r, xs = .int k a :: r ∧ gkinds (r.map .v) = ks
  | [], _, h => by simp [gkinds] at h
  | x :: r, ks, h => by cases x <;> simp [gkinds] at h; exact ⟨_, _, _, rfl, h⟩
theorem gk_nil : ∀ {xs : List Value}, gkinds (xs.map .v) = [] → xs = []
  | [], _ => rfl
  | x :: r, h => by cases x <;> simp [gkinds] at h
theorem gl_int {k : IntKind} {a : Int} {r : List GV} : ∀ {ys : List Value} {q : Bool}, gleq (.v (.int k a) :: r) (ys.map .v) = some q → ∃ b s q', ys = .int k b :: s ∧ gleq r (s.map .v) = some q' ∧ q = ((a == b) && q')
  | [], _, h => by simp [gleq] at h
  | y :: s, q, h => by
    cases y <;> try (simp [gleq] at h; done)
    simp only [List.map_cons, gleq] at h
    split at h
    · rename_i e
      subst e
      simp only [Option.map_eq_some_iff] at h
      obtain ⟨q', h1, h2⟩ := h
      exact ⟨_, _, q', rfl, h1, h2.symm⟩
    · cases h
theorem gl_nil : ∀ {ys : List Value} {q : Bool}, gleq [] (ys.map .v) = some q → ys = [] ∧ q = true
  | [], q, h => by simp [gleq] at h; exact ⟨rfl, h⟩
  | y :: s, q, h => by simp [gleq] at h
theorem leq47 : LeafEq Pg 47 [1, 1] := by
  refine ⟨by kernel_rfl, fun xs ys q w hq hk => ?_⟩
  obtain ⟨k1, a1, xs1, rfl, hk1⟩ := gk_int hk
  obtain ⟨k2, a2, xs2, rfl, hk2⟩ := gk_int hk1
  obtain rfl := gk_nil hk2
  obtain ⟨b1, ys1, q1, rfl, hq1, rfl⟩ := gl_int hq
  obtain ⟨b2, ys2, q2, rfl, hq2, rfl⟩ := gl_int hq1
  obtain ⟨rfl, rfl⟩ := gl_nil hq2
  have u3 := Try.underlying3
  have a3 := Try.isAgg3
  have z3 := Try.sizeOf3
  have hS : Try.prog.underlying 47 = some (.struct (Try.prog.fieldsOf 47)) := by kernel_rfl
  have hp : Try.prog.stoodInHeld 47 = false := by kernel_rfl
  show (Op.equalIn 10000 47 _ _).run Try.prog w = _
  rw [show (10000 : Nat) = 9999 + 1 from rfl, run_equalIn_agg w 9999 47 _ _ hS hp]
  simp only [Program.fieldsOf, Try.underlying47]
  go_simp
  by_cases h1 : a1 = b1 <;> by_cases h2 : a2 = b2 <;> simp [h1, h2]
@[push_cast] theorem leq47t : LeafEq Pg 47 [1, 1] = True := eq_true leq47
@[push_cast] theorem gassert_yes {X : Prop} : gassert True X = X := by simp [gassert]
theorem bcontra {b : Bool} (h : b = true) (h' : b = false) : False := by rw [h] at h'; cases h'
theorem hd_map {α : Type} {l : List α} {k : Nat} {f : α → GV} {d : α} (h : k < l.length) : (List.take 1 (List.drop k (l.map f))).headD .dead = f (l.getD k d) := by
  rw [← List.map_drop, ← List.map_take]
  rw [List.drop_eq_getElem_cons h]
  simp only [List.take_succ_cons, List.take_zero, List.map_cons, List.headD_cons]
  simp [h]
theorem hd_int {l : List Int} {k : Nat} {f : Int → GV} (h : k < l.length) : (List.take 1 (List.drop k (l.map f))).headD .dead = f (l.getD k 0) := hd_map h
end Gx
