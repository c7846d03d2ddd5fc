/- Families of blocks: one for each of a list's members. -/
import Derived.Test.YtbibihbkkflidaaGxLend
set_option linter.unusedSimpArgs false
set_option linter.unusedVariables false
namespace Gx
open Go
@[push_cast] theorem wipe_next {h : GH} : (wipe h).next = h.next := nd rfl
/-! ### families of blocks -/
section
variable {α β : Type} {l : List α} {f : α → β} {r : List β}
@[push_cast] theorem fam_at0 : (l.map f ++ r)[l.length]? = r[0]? := by
  rw [List.getElem?_append_right (by simp)]; simp
@[push_cast] theorem fam_at {j : Nat} : (l.map f ++ r)[l.length + j]? = r[j]? := by
  rw [List.getElem?_append_right (by simp)]; simp
@[push_cast] theorem fam_set0 {b : β} : (l.map f ++ r).set l.length b = l.map f ++ r.set 0 b := by
  rw [List.set_append_right _ _ (by simp)]; simp
@[push_cast] theorem fam_set {j : Nat} {b : β} : (l.map f ++ r).set (l.length + j) b = l.map f ++ r.set j b := by
  rw [List.set_append_right _ _ (by simp)]; simp
@[push_cast] theorem fam_assoc {a b : List β} : (l.map f ++ a) ++ b = l.map f ++ (a ++ b) := List.append_assoc ..
theorem fam_set_in {i : Nat} {b : β} (h : i < l.length) : (l.map f ++ r).set i b = (l.map f).set i b ++ r := List.set_append_left _ _ (by simpa using h)
@[push_cast] theorem fam2_at0 {i : Nat} {b : β} : ((l.map f).set i b ++ r)[l.length]? = r[0]? := by
  rw [List.getElem?_append_right (by simp)]; simp
@[push_cast] theorem fam2_at {i j : Nat} {b : β} : ((l.map f).set i b ++ r)[l.length + j]? = r[j]? := by
  rw [List.getElem?_append_right (by simp)]; simp
@[push_cast] theorem fam2_set0 {i : Nat} {b c : β} : ((l.map f).set i b ++ r).set l.length c = (l.map f).set i b ++ r.set 0 c := by
  rw [List.set_append_right _ _ (by simp)]; simp
@[push_cast] theorem fam2_set {i j : Nat} {b c : β} : ((l.map f).set i b ++ r).set (l.length + j) c = (l.map f).set i b ++ r.set j c := by
  rw [List.set_append_right _ _ (by simp)]; simp
@[push_cast] theorem fam2_assoc {i : Nat} {x : β} {a b : List β} : ((l.map f).set i x ++ a) ++ b = (l.map f).set i x ++ (a ++ b) := List.append_assoc ..
theorem fam2_in {i j : Nat} {b : β} (h : j < l.length) (h2 : j ≠ i) : ((l.map f).set i b ++ r)[j]? = some (f l[j]) := by
  rw [List.getElem?_append_left (by simpa using h), List.getElem?_set_ne (Ne.symm h2)]; simp [h]
theorem fam_in {i : Nat} (h : i < l.length) : (l.map f ++ r)[i]? = some (f l[i]) := by
  rw [List.getElem?_append_left (by simpa using h)]; simp [h]
theorem fam_in' {i : Nat} (h : i < l.length) : (l.map f)[i]? = some (f l[i]) := by simp [h]
end
theorem optq_mapIdx {α β : Type} {l : List α} {f : Nat → α → β} {i : Nat} {k : β → Prop} : optq (l.mapIdx f)[i]? k = optq l[i]? (fun x => k (f i x)) := by
  rw [List.getElem?_mapIdx]; cases l[i]? <;> rfl
theorem lt_add_lit {a n c : Nat} (h : a < c) : (a < n + c) = True := eq_true (by omega)
theorem lt_lit_add {a n c : Nat} (h : a < c) : (a < c + n) = True := eq_true (by omega)
theorem replicate_at {α : Type} {n i : Nat} {a : α} (h : i < n) : (List.replicate n a)[i]? = some a := by simp [h]
theorem range_at {n i : Nat} (h : i < n) : (List.range n)[i]? = some i := by simp [h]
/-- Where the blocks of a family come from. -/
def famO (m : Nat) (q : Nat → Nat) : List Src := (List.range m).map fun i => .o (q i)
@[push_cast] theorem famO_length {m : Nat} {q : Nat → Nat} : (famO m q).length = m := by simp [famO]
theorem famO_get {m : Nat} {q : Nat → Nat} {i : Nat} (h : i < m) : (famO m q)[i]? = some (.o (q i)) := by simp [famO, h]
theorem TopOk.app {n : Nat} {os : List Src} {h : GH} : ∀ {l1 l2 : List Src} {b1 b2 : List (Option GBlk)}, TopOk n os h l1 b1 → TopOk n os h l2 b2 → TopOk n os h (l1 ++ l2) (b1 ++ b2)
  | [], _, [], _, _, h2 => h2
  | .o _ :: _, _, some _ :: _, _, h1, h2 => ⟨h1.1, TopOk.app h1.2 h2⟩
  | .z _ :: _, _, some (.cells _ _ []) :: _, _, h1, h2 => ⟨h1.1, TopOk.app h1.2 h2⟩
  | .z _ :: _, _, some (.cells _ _ (_ :: _)) :: _, _, h1, _ => h1.elim
  | .z _ :: _, _, some (.mp _) :: _, _, h1, _ => h1.elim
  | .z _ :: _, _, none :: _, _, h1, _ => h1.elim
  | .z _ :: _, _, [], _, h1, _ => h1.elim
  | .o _ :: _, _, none :: _, _, h1, _ => h1.elim
  | .o _ :: _, _, [], _, h1, _ => h1.elim
  | [], _, _ :: _, _, h1, _ => h1.elim
theorem TopOk.famg {n : Nat} {os : List Src} {h : GH} : ∀ (m : Nat) (s : Nat → Src) (j : Nat → Nat) (bs : List GBlk), bs.length = m → (∀ i, i < m → s i = .o (j i)) →
    (∀ i (hi : i < bs.length), some (unB n os 6 bs[i]) = h.get (n + j i)) → TopOk n os h ((List.range m).map s) (bs.map some)
  | 0, s, j, bs, hl, _, _ => by
    have : bs = [] := List.length_eq_zero_iff.1 hl
    subst this; exact trivial
  | m + 1, s, j, b :: bs, hl, hs, hb => by
    rw [List.range_succ_eq_map, List.map_cons, List.map_map, List.map_cons, hs 0 (by omega)]
    refine ⟨hb 0 (by simp), ?_⟩
    exact TopOk.famg m (s ∘ Nat.succ) (fun i => j (i + 1)) bs (by simpa using hl) (fun i hi => hs (i + 1) (by omega)) (fun i hi => hb (i + 1) (by simp; omega))
/-- A family whose blocks name no other block. -/
theorem TopOk.fam {n : Nat} {os : List Src} {h : GH} {α : Type} {l : List α} {f : α → GBlk} {q : Nat → Nat} (m : Nat) (hm : l.length = m) (hf : ∀ x ∈ l, unB n os 6 (f x) = f x) (hb : ∀ i (hi : i < l.length), some (f l[i]) = h.get (n + q i)) :
    TopOk n os h (famO m q) (l.map fun x => some (f x)) := by
  have := TopOk.famg (n := n) (os := os) (h := h) m (fun i => .o (q i)) q (l.map f) (by simpa using hm) (fun _ _ => rfl) (fun i hi => by
    have hi' : i < l.length := by simpa using hi
    rw [List.getElem_map, hf _ (List.getElem_mem hi')]; exact hb i hi')
  rw [List.map_map] at this
  exact this
theorem TopOk.oc {n : Nat} {os : List Src} {h : GH} {j : Nat} {r : List Src} {b : GBlk} {s : List (Option GBlk)} (h1 : some (unB n os 6 b) = h.get (n + j)) (h2 : TopOk n os h r s) : TopOk n os h (.o j :: r) (some b :: s) := ⟨h1, h2⟩
theorem TopOk.zc {n : Nat} {os : List Src} {h : GH} {e : Nat} {t : TypeId} {r : List Src} {s : List (Option GBlk)} (h2 : TopOk n os h r s) : TopOk n os h (.z e :: r) (some (.cells t e []) :: s) := ⟨rfl, h2⟩
/-- Sources that differ. -/
theorem srcNodup_of {l : List Src} (h : ∀ (i j o : Nat), l[i]? = some (.o o) → l[j]? = some (.o o) → i = j) : srcNodup l = true := by
  induction l with
  | nil => rfl
  | cons a r ih =>
    have hr : srcNodup r = true := ih fun i j o h1 h2 => by
      have := h (i + 1) (j + 1) o (by simpa using h1) (by simpa using h2)
      omega
    cases a with
    | z e => exact hr
    | o k =>
      simp only [srcNodup, hr, Bool.and_true, Bool.not_eq_true', List.contains_eq_mem, decide_eq_false_iff_not]
      intro hm
      obtain ⟨j, hj, e⟩ := List.mem_iff_getElem.1 hm
      have := h 0 (j + 1) k (by simp) (by simp [hj, e])
      omega
theorem srcNodup_fam {l : List Src} {m : Nat} {q : Nat → Nat} (hl : srcNodup l = true) (hq : ∀ i j, i < m → j < m → q i = q j → i = j) (hd : ∀ i, i < m → Src.o (q i) ∉ l) : srcNodup (l ++ famO m q) = true := by
  refine srcNodup_of fun i j o h1 h2 => ?_
  have key : ∀ k, (l ++ famO m q)[k]? = some (.o o) → (k < l.length ∧ l[k]? = some (.o o)) ∨ (∃ x, k = l.length + x ∧ x < m ∧ q x = o) := fun k hk => by
    rcases Nat.lt_or_ge k l.length with h | h
    · rw [List.getElem?_append_left h] at hk; exact .inl ⟨h, hk⟩
    · rw [List.getElem?_append_right h] at hk
      have hx : k - l.length < m := by have := (List.getElem?_eq_some_iff.1 hk).1; simpa [famO] using this
      rw [famO_get hx] at hk
      simp only [Option.some.injEq, Src.o.injEq] at hk
      exact .inr ⟨k - l.length, by omega, hx, hk⟩
  rcases key i h1 with ⟨a1, a2⟩ | ⟨x, a1, a2, a3⟩ <;> rcases key j h2 with ⟨b1, b2⟩ | ⟨y, b1, b2, b3⟩
  · exact srcNodup_spec hl i j o a2 b2
  · exact absurd (List.mem_of_getElem? a2) (by rw [← b3]; exact hd y b2)
  · exact absurd (List.mem_of_getElem? b2) (by rw [← a3]; exact hd x a2)
  · have := hq x y a2 b2 (a3.trans b3.symm); omega
theorem mapIdx_congr {α β : Type} {l : List α} {f g : Nat → α → β} (h : ∀ i (hi : i < l.length), f i l[i] = g i l[i]) : l.mapIdx f = l.mapIdx g := by
  apply List.ext_getElem
  · simp
  · intro i h1 h2
    simp only [List.getElem_mapIdx]
    exact h i (by simpa using h1)
theorem map_mapIdx {α β γ : Type} {l : List α} {f : Nat → α → β} {g : β → γ} : (l.mapIdx f).map g = l.mapIdx fun i x => g (f i x) := by
  apply List.ext_getElem
  · simp
  · intro i h1 h2; simp
end Gx
