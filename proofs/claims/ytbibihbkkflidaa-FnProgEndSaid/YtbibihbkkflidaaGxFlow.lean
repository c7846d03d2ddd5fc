/- Plain: where a program's ways lead. -/
import Derived.Test.YtbibihbkkflidaaGxM
set_option linter.unusedSimpArgs false
set_option linter.unusedVariables false
namespace Gx
open Go

inductive Rch (p : Prog) : Nat → Prop where
  | zero : Rch p 0
  | step {i : Nat} (hi : i < p.length) (h : Rch p i) {x : Int} (hx : x ∈ p[i].next) : Rch p x.toNat
noncomputable def rchB (p : Prog) (i : Nat) : Bool := @decide (Rch p i) (Classical.propDecidable _)
theorem rchB_iff {p : Prog} {i : Nat} : rchB p i = true ↔ Rch p i := by simp [rchB]
noncomputable def reachL (p : Prog) : List Bool := (List.range p.length).map (rchB p)
theorem reachL_length (p : Prog) : (reachL p).length = p.length := by simp [reachL]
theorem reachL_get {p : Prog} {i : Nat} (h : i < (reachL p).length) : (reachL p)[i] = rchB p i := by simp [reachL]

theorem ok_v {o : Opnd} (h : o.ok = true) : o.v ≤ 11 := by
  simp only [Opnd.ok, isVar, inB, Bool.or_eq_true, Bool.and_eq_true, decide_eq_true_eq, beq_iff_eq] at h; omega
theorem zero_v {o : Opnd} (h : o.zero = true) : o.v ≤ 11 := by
  simp only [Opnd.zero, Bool.and_eq_true, beq_iff_eq] at h; omega
theorem step_facts {s : Step} {n : Int} (h : s.ok n = true) : 1 ≤ s.kind ∧ s.kind ≤ 7 ∧ s.a.v ≤ 11 ∧ s.b.v ≤ 11 ∧ (s.kind ≤ 3 → 0 ≤ s.dst ∧ s.dst ≤ 11) ∧ ((s.next.length : Int) = nexts s.kind) ∧ ∀ x ∈ s.next, 0 ≤ x ∧ x < n := by
  simp only [Step.ok, Bool.and_eq_true, beq_iff_eq, Bool.not_eq_true', List.any_eq_false] at h
  obtain ⟨⟨⟨⟨⟨h1, h2⟩, h3⟩, h4⟩, h5⟩, h6⟩ := h
  simp only [inB, Bool.and_eq_true, decide_eq_true_eq] at h1
  refine ⟨h1.1, h1.2, ?_, ?_, fun hk => ?_, h2, fun x hx => ?_⟩
  · split at h5
    · exact ok_v h5
    · exact zero_v h5
  · split at h6
    · simp only [Bool.and_eq_true] at h6; exact ok_v h6.2
    · simp only [Bool.and_eq_true] at h6; exact zero_v h6.2
  · rw [if_pos (by simp [changes, inB]; omega)] at h4
    simp only [isVar, inB, Bool.and_eq_true, decide_eq_true_eq] at h4
    exact h4
  · have := h3 x hx
    simp [inB] at this
    omega
theorem prog_facts {p : Prog} (h : progOk p = true) : 1 ≤ p.length ∧ p.length ≤ 60 ∧ ∀ (i : Nat) (hi : i < p.length), p[i].ok p.length = true := by
  simp only [progOk, inB, Bool.and_eq_true, decide_eq_true_eq, Bool.not_eq_true', List.any_eq_false] at h
  exact ⟨by omega, by omega, fun i hi => by have := h.2 p[i] (List.getElem_mem hi); simpa using this⟩

/-- All ways lead to steps. -/
def Fits (p : Prog) : Prop := 1 ≤ p.length ∧ ∀ (i : Nat) (hi : i < p.length), ∀ x ∈ p[i].next, 0 ≤ x ∧ x < (p.length : Int)
theorem Rch.lt {p : Prog} (hp : Fits p) {i : Nat} (h : Rch p i) : i < p.length := by
  induction h with
  | zero => exact hp.1
  | step hi h hx ih => have := hp.2 _ hi _ hx; omega
def bget (bs : List Bool) (i : Nat) : Bool := bs.getD i false
theorem bget_lt {bs : List Bool} {i : Nat} (h : i < bs.length) : bget bs i = bs[i] := by simp [bget, h]
/-- What is marked can be come to. -/
def Sound (p : Prog) (bs : List Bool) : Prop := ∀ i, i < bs.length → bget bs i = true → Rch p i
def ClosedAt (p : Prog) (bs : List Bool) (i : Nat) : Prop := ∀ (hi : i < p.length), bget bs i = true → ∀ x ∈ p[i].next, bget bs x.toNat = true
theorem reach_done {p : Prog} {bs : List Bool} (hp : Fits p) (hl : bs.length = p.length) (h0 : bget bs 0 = true) (hs : Sound p bs) (hc : ∀ i, i < p.length → ClosedAt p bs i) : bs = reachL p := by
  have all : ∀ i, Rch p i → bget bs i = true := fun i h => by
    induction h with
    | zero => exact h0
    | step hi h hx ih => exact hc _ hi hi ih _ hx
  apply List.ext_getElem
  · rw [hl, reachL_length]
  · intro i h1 h2
    rw [reachL_get, ← bget_lt h1]
    cases e : bget bs i with
    | true => exact (rchB_iff.2 (hs i h1 e)).symm
    | false =>
      cases e2 : rchB p i with
      | false => rfl
      | true => rw [all i (rchB_iff.1 e2)] at e; cases e
def cnt (bs : List Bool) : Nat := bs.count false
theorem bget_set {bs : List Bool} {j i : Nat} {b : Bool} (h : j < bs.length) : bget (bs.set j b) i = if i = j then b else bget bs i := by
  simp only [bget, List.getD_eq_getElem?_getD, List.getElem?_set]
  by_cases e : j = i
  · subst e; simp [h]
  · simp [e, Ne.symm e]
theorem cnt_set {bs : List Bool} {j : Nat} (h : j < bs.length) (hf : bget bs j = false) : cnt (bs.set j true) + 1 = cnt bs := by
  induction bs generalizing j with
  | nil => simp at h
  | cons b r ih =>
    cases j with
    | zero => simp [bget] at hf; subst hf; simp [cnt]
    | succ j =>
      have := ih (j := j) (by simpa using h) (by simpa [bget] using hf)
      simp only [cnt, List.set_cons_succ, List.count_cons] at this ⊢
      omega
theorem Sound.set {p : Prog} {bs : List Bool} {i : Nat} (hi : i < p.length) (hs : Sound p bs) (hl : bs.length = p.length) (hb : bget bs i = true) {x : Int} (hx : x ∈ p[i].next) (hx2 : x.toNat < bs.length) : Sound p (bs.set x.toNat true) := fun j hj h => by
  rw [bget_set hx2] at h
  split at h
  · rename_i e; subst e; exact .step hi (hs i (by omega) hb) hx
  · exact hs j (by simpa using hj) h

/-- How many ways lead to a step. -/
def waysL (p : Prog) (to : Int) : Nat := (p.map fun s => s.next.count to).sum
theorem waysL_le (p : Prog) (to : Int) (B : Nat) (h : ∀ s ∈ p, s.next.length ≤ B) : waysL p to ≤ p.length * B := by
  induction p with
  | nil => simp [waysL]
  | cons s r ih =>
    have h1 := ih fun s hs => h s (by simp [hs])
    have h2 := h s (by simp)
    have h3 : s.next.count to ≤ s.next.length := List.count_le_length
    simp only [waysL, List.map_cons, List.sum_cons, List.length_cons] at *
    rw [Nat.add_mul]; omega
theorem waysL_append (p q : Prog) (to : Int) : waysL (p ++ q) to = waysL p to + waysL q to := by simp [waysL]
end Gx
namespace Gx
/-- The new number of a step: how many that can be come to stand ahead of it. -/
def plc (bs : List Bool) (i : Nat) : Nat := (bs.take i).count true
def pruneF (f : Int → Int) : Prog → List Bool → Prog
  | s :: r, b :: bs => if b then { s with next := s.next.map f } :: pruneF f r bs else pruneF f r bs
  | _, _ => []
theorem pruneF_snoc (f : Int → Int) (s : Step) (b : Bool) : ∀ (p : Prog) (bs : List Bool), p.length = bs.length → pruneF f (p ++ [s]) (bs ++ [b]) = pruneF f p bs ++ if b then [{ s with next := s.next.map f }] else []
  | [], [], _ => by cases b <;> simp [pruneF]
  | t :: r, c :: bs, h => by
    have ih := pruneF_snoc f s b r bs (by simpa using h)
    simp only [List.cons_append, pruneF, ih]
    split <;> simp
  | [], _ :: _, h => by simp at h
  | _ :: _, [], h => by simp at h
theorem pruneF_length (f : Int → Int) : ∀ (p : Prog) (bs : List Bool), (pruneF f p bs).length ≤ p.length
  | [], _ => by simp [pruneF]
  | _ :: _, [] => by simp [pruneF]
  | s :: r, b :: bs => by
    have := pruneF_length f r bs
    simp only [pruneF]; split <;> simp <;> omega
noncomputable def pruneL (p : Prog) : Prog := pruneF (fun x => (plc (reachL p) x.toNat : Int)) p (reachL p)
theorem plc_succ {bs : List Bool} {i : Nat} (h : i < bs.length) : plc bs (i + 1) = plc bs i + if bs[i] then 1 else 0 := by
  unfold plc
  rw [List.take_succ_eq_append_getElem h, List.count_append]
  cases bs[i] <;> simp
theorem plc_le (bs : List Bool) (i : Nat) : plc bs i ≤ i := by
  unfold plc
  have h1 : (bs.take i).count true ≤ (bs.take i).length := List.count_le_length
  have h2 : (bs.take i).length ≤ i := by simp; omega
  omega
end Gx
namespace Gx
def skipTo (n : Int) : Step := ⟨6, 0, 0, ⟨0, 0⟩, ⟨0, 0⟩, [n]⟩
def mapNext (f : Int → Int) (s : Step) : Step := { s with next := s.next.map f }
/-- A program to whose first step no way leads. -/
def firstL (p : Prog) : Prog :=
  if waysL p 0 = 0 then p else skipTo p.length :: (p.tail ++ [p.headD step0]).map (mapNext fun x => if x = 0 then (p.length : Int) else x)
theorem get_mid {α : Type} {l r : List α} {y : α} : ∀ h : l.length < (l ++ y :: r).length, (l ++ y :: r)[l.length] = y := fun h => by simp
theorem get_mid? {α : Type} {l r : List α} {y : α} : (l ++ y :: r)[l.length]? = some y := by simp
theorem set_mid {α : Type} {l r : List α} {y z : α} : (l ++ y :: r).set l.length z = l ++ z :: r := by simp
end Gx
namespace Gx
/-- A list of which the first k have been turned. -/
def half {α : Type} (f : α → α) (l : List α) (k : Nat) : List α := (l.take k).map f ++ l.drop k
theorem half_length {α : Type} (f : α → α) (l : List α) (k : Nat) : (half f l k).length = l.length := by simp [half]; omega
theorem half_zero {α : Type} (f : α → α) (l : List α) : half f l 0 = l := by simp [half]
theorem half_all {α : Type} (f : α → α) (l : List α) {k : Nat} (h : l.length ≤ k) : half f l k = l.map f := by
  simp only [half]; rw [List.take_of_length_le h, List.drop_eq_nil_of_le h]; simp
theorem half_get {α : Type} (f : α → α) (l : List α) {k : Nat} (h : k < l.length) : (half f l k)[k]? = some l[k] := by
  simp only [half]
  rw [List.getElem?_append_right (by simp; omega)]
  simp [Nat.min_eq_left (Nat.le_of_lt h), h]
theorem half_succ {α : Type} (f : α → α) (l : List α) {k : Nat} (h : k < l.length) : half f l (k + 1) = (half f l k).set k (f l[k]) := by
  apply List.ext_getElem
  · simp [half_length]
  · intro i h1 h2
    simp only [half, List.getElem_set]
    have hi : i < l.length := by rw [half_length] at h1; exact h1
    by_cases e : k = i
    · subst e
      rw [if_pos rfl, List.getElem_append_left (by simp; omega)]
      simp
    · rw [if_neg e]
      rcases Nat.lt_or_ge i k with h3 | h3
      · rw [List.getElem_append_left (by simp; omega), List.getElem_append_left (by simp; omega)]; simp
      · rw [List.getElem_append_right (by simp; omega), List.getElem_append_right (by simp; omega)]
        simp only [List.getElem_drop, List.length_map, List.length_take]
        congr 1; omega
theorem half_same {α : Type} (f : α → α) (l : List α) {k : Nat} (h : k < l.length) (hf : f l[k] = l[k]) : half f l (k + 1) = half f l k := by
  rw [half_succ f l h, hf]
  apply List.ext_getElem
  · simp
  · intro i h1 h2
    rw [List.getElem_set]
    split
    · rename_i e; subst e
      have := half_get f l h
      rw [List.getElem?_eq_getElem h2] at this
      exact (Option.some.inj this).symm
    · rfl
end Gx
