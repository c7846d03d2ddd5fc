/- Plain: what makes a program tidy. -/
import Derived.Test.YtbibihbkkflidaaGxFlow
set_option linter.unusedSimpArgs false
set_option linter.unusedVariables false
namespace Gx
open Go

theorem ok_mapNext {s : Step} {n m : Int} {f : Int → Int} (h : s.ok n = true) (hf : ∀ x ∈ s.next, 0 ≤ f x ∧ f x < m) : (mapNext f s).ok m = true := by
  simp only [Step.ok, Bool.and_eq_true, beq_iff_eq, Bool.not_eq_true', List.any_eq_false] at h ⊢
  obtain ⟨⟨⟨⟨⟨h1, h2⟩, h3⟩, h4⟩, h5⟩, h6⟩ := h
  refine ⟨⟨⟨⟨⟨h1, by simpa [mapNext] using h2⟩, fun x hx => ?_⟩, h4⟩, h5⟩, h6⟩
  simp only [mapNext, List.mem_map] at hx
  obtain ⟨y, hy, rfl⟩ := hx
  have := hf y hy
  simp [inB]; omega
theorem ok_skipTo {n m : Int} (h : 0 ≤ n ∧ n < m) : (skipTo n).ok m = true := by
  simp [skipTo, Step.ok, inB, nexts, changes, usesA, Opnd.zero]; omega
theorem pruneF_mem {f : Int → Int} : ∀ {p : Prog} {bs : List Bool} {s : Step}, s ∈ pruneF f p bs → ∃ (i : Nat) (h1 : i < p.length) (h2 : i < bs.length), bs[i] = true ∧ s = mapNext f p[i]
  | [], _, s, h => by simp [pruneF] at h
  | _ :: _, [], s, h => by simp [pruneF] at h
  | t :: r, b :: bs, s, h => by
    simp only [pruneF] at h
    have go : s ∈ pruneF f r bs → ∃ (i : Nat) (h1 : i < (t :: r).length) (h2 : i < (b :: bs).length), (b :: bs)[i] = true ∧ s = mapNext f (t :: r)[i] := fun h => by
      obtain ⟨i, h1, h2, h3, h4⟩ := pruneF_mem h
      exact ⟨i + 1, by simp; omega, by simp; omega, by simpa using h3, by simpa using h4⟩
    split at h
    · rename_i hb
      rcases List.mem_cons.1 h with rfl | h
      · exact ⟨0, by simp, by simp, by simpa using hb, rfl⟩
      · exact go h
    · exact go h
theorem pruneF_len {f : Int → Int} : ∀ {p : Prog} {bs : List Bool}, p.length = bs.length → (pruneF f p bs).length = bs.count true
  | [], [], _ => rfl
  | t :: r, b :: bs, h => by
    have ih := pruneF_len (f := f) (p := r) (bs := bs) (by simpa using h)
    simp only [pruneF, List.count_cons]
    cases b <;> simp [ih]
  | [], _ :: _, h => by simp at h
  | _ :: _, [], h => by simp at h
theorem plc_lt {bs : List Bool} {i : Nat} (h : i < bs.length) (hb : bs[i] = true) : plc bs i < bs.count true := by
  have h1 := plc_succ h
  rw [hb, if_pos rfl] at h1
  have h2 : plc bs (i + 1) ≤ bs.count true := by
    unfold plc
    conv => rhs; rw [← List.take_append_drop (i + 1) bs, List.count_append]
    omega
  omega
theorem pruneL_ok {p : Prog} (h : progOk p = true) : progOk (pruneL p) = true ∧ (pruneL p).length ≤ p.length := by
  obtain ⟨h1, h2, h3⟩ := prog_facts h
  have hfit : Fits p := ⟨h1, fun i hi => (step_facts (h3 i hi)).2.2.2.2.2.2⟩
  have hl := reachL_length p
  have hlen : (pruneL p).length = (reachL p).count true := pruneF_len hl.symm
  have hle := pruneF_length (fun x => (plc (reachL p) x.toNat : Int)) p (reachL p)
  have h0 : 0 < (reachL p).count true := by
    apply List.count_pos_iff.2
    have : (reachL p)[0]'(by omega) = true := by rw [reachL_get]; exact rchB_iff.2 .zero
    exact this ▸ List.getElem_mem _
  have hok : ∀ s ∈ pruneL p, s.ok (pruneL p).length = true := fun s hs => by
    obtain ⟨i, hi1, hi2, hb, rfl⟩ := pruneF_mem hs
    refine ok_mapNext (h3 i hi1) fun x hx => ⟨by omega, ?_⟩
    have hr : Rch p i := rchB_iff.1 (by rw [reachL_get] at hb; exact hb)
    have hx2 := hfit.2 i hi1 x hx
    have hxr : (reachL p)[x.toNat]'(by omega) = true := by rw [reachL_get]; exact rchB_iff.2 (.step hi1 hr hx)
    have := plc_lt (by omega) hxr
    rw [hlen]; omega
  refine ⟨?_, hle⟩
  simp only [progOk, inB, Bool.and_eq_true, decide_eq_true_eq, Bool.not_eq_true', List.any_eq_false]
  refine ⟨⟨by omega, by have : (pruneL p).length ≤ p.length := hle; omega⟩, fun s hs => by simp [hok s hs]⟩
theorem firstL_ok {p : Prog} (h : progOk p = true) : (∀ s ∈ firstL p, s.ok (firstL p).length = true) ∧ p.length ≤ (firstL p).length ∧ (firstL p).length ≤ p.length + 1 := by
  obtain ⟨h1, h2, h3⟩ := prog_facts h
  have hmem : ∀ s ∈ p, s.ok p.length = true := fun s hs => by
    obtain ⟨i, hi, rfl⟩ := List.mem_iff_getElem.1 hs; exact h3 i hi
  by_cases hw : waysL p 0 = 0
  · simp only [firstL, hw, if_true]; exact ⟨hmem, by omega, by omega⟩
  · cases p with
    | nil => simp at h1
    | cons y r =>
      have hl : (firstL (y :: r)).length = r.length + 2 := by simp [firstL, hw]
      rw [hl]
      refine ⟨fun s hs => ?_, by simp, by simp⟩
      simp only [firstL, hw, if_false, List.tail_cons, List.headD_cons, List.mem_cons, List.mem_map, List.mem_append, List.mem_singleton, List.not_mem_nil, or_false] at hs
      rcases hs with rfl | ⟨t, ht, rfl⟩
      · exact ok_skipTo (by simp; omega)
      · have hto : t.ok (y :: r).length = true := hmem t (by rcases ht with ht | rfl <;> simp [*])
        refine ok_mapNext hto fun x hx => ?_
        have := (step_facts hto).2.2.2.2.2.2 x hx
        simp only [List.length_cons] at this ⊢
        split <;> omega

/-- One way to where ways meet is led over a skip. -/
def tdK (mt : Int → Bool) (i : Nat) (out : Prog) (k : Nat) : Prog :=
  let s := out.getD i step0
  let to := s.next.getD k 0
  if mt to then out.set i { s with next := s.next.set k out.length } ++ [skipTo to] else out
def tdI (mt : Int → Bool) (out : Prog) (i : Nat) : Prog :=
  if (out.getD i step0).kind = 6 then out else (List.range (out.getD i step0).next.length).foldl (tdK mt i) out
def meets (q : Prog) (to : Int) : Bool := decide (1 < waysL q to)
def tidyF (q : Prog) : Prog := (List.range q.length).foldl (tdI (meets q)) q
noncomputable def tidyO (p : Prog) : Option Prog :=
  if progOk p = true then
    if progOk (tidyF (firstL (pruneL p))) = true then some (tidyF (firstL (pruneL p))) else none
  else none

/-- How far the tidying has come: the steps behind are as they were; of step i the ways from k on. -/
structure TI (q : Prog) (i k : Nat) (out : Prog) : Prop where
  len : q.length ≤ out.length
  few : out.length ≤ q.length + 2 * i + k
  rest : ∀ j, i < j → j < q.length → out.getD j step0 = q.getD j step0
  kind : i < q.length → (out.getD i step0).kind = (q.getD i step0).kind
  nl : i < q.length → (out.getD i step0).next.length = (q.getD i step0).next.length
  next : ∀ k', k ≤ k' → i < q.length → (out.getD i step0).next.getD k' 0 = (q.getD i step0).next.getD k' 0
  two : ∀ s ∈ out, s.next.length ≤ 2
theorem TI.start {q : Prog} (h2 : ∀ s ∈ q, s.next.length ≤ 2) : TI q 0 0 q := ⟨Nat.le_refl _, by omega, fun _ _ _ => rfl, fun _ => rfl, fun _ => rfl, fun _ _ _ => rfl, h2⟩
theorem TI.up {q out : Prog} {i k : Nat} (I : TI q i k out) (hk : k ≤ 2) : TI q (i + 1) 0 out :=
  ⟨I.len, by have := I.few; omega, fun j h1 h2 => I.rest j (by omega) h2, fun h => by rw [I.rest (i + 1) (by omega) h], fun h => by rw [I.rest (i + 1) (by omega) h], fun k' _ h => by rw [I.rest (i + 1) (by omega) h], I.two⟩
theorem TI.step {q out : Prog} {i k : Nat} (I : TI q i k out) (hi : i < q.length) (mt : Int → Bool) : TI q i (k + 1) (tdK mt i out k) := by
  have hio : i < out.length := Nat.lt_of_lt_of_le hi I.len
  unfold tdK
  simp only
  split
  · have hgi : (out.set i { out.getD i step0 with next := (out.getD i step0).next.set k out.length } ++ [skipTo ((out.getD i step0).next.getD k 0)]).getD i step0 = { out.getD i step0 with next := (out.getD i step0).next.set k out.length } := by
      rw [List.getD_eq_getElem?_getD, List.getElem?_append_left (by simp; omega)]
      simp [hio]
    refine ⟨by simp; have := I.len; omega, by simp; have := I.few; omega, fun j h1 h2 => ?_, fun _ => ?_, fun _ => ?_, fun k' hk' _ => ?_, fun s hs => ?_⟩
    · rw [← I.rest j h1 h2]
      have hjo : j < out.length := Nat.lt_of_lt_of_le h2 I.len
      rw [List.getD_eq_getElem?_getD, List.getElem?_append_left (by simp; omega), List.getElem?_set_ne (by omega), List.getD_eq_getElem?_getD]
    · rw [hgi]; exact I.kind hi
    · rw [hgi]; simp only [List.length_set]; exact I.nl hi
    · rw [hgi]
      have := I.next k' (by omega) hi
      rw [← this]
      simp only [List.getD_eq_getElem?_getD]
      rw [List.getElem?_set_ne (by omega)]
    · simp only [List.mem_append, List.mem_singleton] at hs
      rcases hs with hs | rfl
      · rcases List.mem_or_eq_of_mem_set hs with hs | rfl
        · exact I.two s hs
        · simp only [List.length_set]
          have : out.getD i step0 ∈ out := by rw [List.getD_eq_getElem?_getD]; simp [hio]
          exact I.two _ this
      · simp [skipTo]
  · exact ⟨I.len, by have := I.few; omega, I.rest, I.kind, I.nl, fun k' hk' h => I.next k' (by omega) h, I.two⟩
/-! ### tidying keeps steps right -/
def AllOk (p : Prog) : Prop := ∀ s ∈ p, s.ok p.length = true
theorem ok_next {s : Step} {n m : Int} {l : List Int} (h : s.ok n = true) (hl : l.length = s.next.length) (hb : ∀ x ∈ l, 0 ≤ x ∧ x < m) : ({ s with next := l } : Step).ok m = true := by
  simp only [Step.ok, Bool.and_eq_true, beq_iff_eq, Bool.not_eq_true', List.any_eq_false] at h ⊢
  obtain ⟨⟨⟨⟨⟨h1, h2⟩, h3⟩, h4⟩, h5⟩, h6⟩ := h
  refine ⟨⟨⟨⟨⟨h1, by rw [hl]; exact h2⟩, fun x hx => ?_⟩, h4⟩, h5⟩, h6⟩
  have := hb x hx
  simp [inB]; omega
theorem ok_mono {s : Step} {n m : Int} (h : s.ok n = true) (hm : n ≤ m) : s.ok m = true := ok_next (l := s.next) h rfl fun x hx => by have := (step_facts h).2.2.2.2.2.2 x hx; omega
theorem ok_two {s : Step} {n : Int} (h : s.ok n = true) : s.next.length ≤ 2 := by
  have := (step_facts h).2.2.2.2.2.1
  simp only [nexts] at this; split at this <;> (try split at this) <;> omega
theorem getD_mem {α : Type} {l : List α} {k : Nat} {d : α} (h : k < l.length) : l.getD k d ∈ l := by
  rw [List.getD_eq_getElem?_getD, List.getElem?_eq_getElem h]; exact List.getElem_mem h
theorem tdK_ok {mt : Int → Bool} {out : Prog} {i k : Nat} (h : AllOk out) (hi : i < out.length) (hk : k < (out.getD i step0).next.length) :
    AllOk (tdK mt i out k) ∧ out.length ≤ (tdK mt i out k).length ∧ (tdK mt i out k).length ≤ out.length + 1 ∧ ((tdK mt i out k).getD i step0).next.length = (out.getD i step0).next.length := by
  have hm : out.getD i step0 ∈ out := by rw [List.getD_eq_getElem?_getD]; simp [hi]
  have hto : 0 ≤ (out.getD i step0).next.getD k 0 ∧ (out.getD i step0).next.getD k 0 < out.length := (step_facts (h _ hm)).2.2.2.2.2.2 _ (getD_mem hk)
  unfold tdK
  simp only
  split
  · refine ⟨fun s hs => ?_, by simp, by simp, ?_⟩
    · rw [show ((out.set i { out.getD i step0 with next := (out.getD i step0).next.set k out.length } ++ [skipTo ((out.getD i step0).next.getD k 0)]).length : Int) = out.length + 1 by simp]
      simp only [List.mem_append, List.mem_singleton] at hs
      rcases hs with hs | rfl
      · rcases List.mem_or_eq_of_mem_set hs with hs | rfl
        · exact ok_mono (h s hs) (by omega)
        · refine ok_next (h _ hm) (by simp) fun x hx => ?_
          rcases List.mem_or_eq_of_mem_set hx with hx | rfl
          · have := (step_facts (h _ hm)).2.2.2.2.2.2 x hx; omega
          · omega
      · exact ok_skipTo (by omega)
    · rw [List.getD_eq_getElem?_getD, List.getElem?_append_left (by simp; omega)]
      simp [hi]
  · exact ⟨h, by omega, by omega, rfl⟩
theorem tdKs_ok {mt : Int → Bool} {i n : Nat} : ∀ (ks : List Nat) (out : Prog), (∀ k ∈ ks, k < n) → AllOk out → i < out.length → (out.getD i step0).next.length = n →
    AllOk (ks.foldl (tdK mt i) out) ∧ out.length ≤ (ks.foldl (tdK mt i) out).length ∧ (ks.foldl (tdK mt i) out).length ≤ out.length + ks.length
  | [], out, _, h, _, _ => ⟨h, by simp, by simp⟩
  | k :: ks, out, hk, h, hi, hn => by
    obtain ⟨h1, h2, h3, h4⟩ := tdK_ok (mt := mt) h hi (k := k) (by rw [hn]; exact hk k (by simp))
    obtain ⟨a1, a2, a3⟩ := tdKs_ok (mt := mt) ks (tdK mt i out k) (fun k' h' => hk k' (by simp [h'])) h1 (by omega) (h4.trans hn)
    simp only [List.foldl_cons, List.length_cons]
    exact ⟨a1, by omega, by omega⟩
theorem tdI_ok {mt : Int → Bool} {out : Prog} {i : Nat} (h : AllOk out) (hi : i < out.length) : AllOk (tdI mt out i) ∧ out.length ≤ (tdI mt out i).length ∧ (tdI mt out i).length ≤ out.length + 2 := by
  unfold tdI
  split
  · exact ⟨h, by omega, by omega⟩
  · have hm : out.getD i step0 ∈ out := by rw [List.getD_eq_getElem?_getD]; simp [hi]
    have h2 := ok_two (h _ hm)
    obtain ⟨a1, a2, a3⟩ := tdKs_ok (mt := mt) (i := i) (List.range (out.getD i step0).next.length) out (fun k hk => List.mem_range.1 hk) h hi rfl
    rw [List.length_range] at a3
    exact ⟨a1, a2, by omega⟩
theorem tdIs_ok {mt : Int → Bool} : ∀ (is : List Nat) (out : Prog), (∀ i ∈ is, i < out.length) → AllOk out → AllOk (is.foldl (tdI mt) out) ∧ out.length ≤ (is.foldl (tdI mt) out).length ∧ (is.foldl (tdI mt) out).length ≤ out.length + 2 * is.length
  | [], out, _, h => ⟨h, by simp, by simp⟩
  | i :: is, out, hi, h => by
    obtain ⟨h1, h2, h3⟩ := tdI_ok (mt := mt) h (hi i (by simp))
    obtain ⟨a1, a2, a3⟩ := tdIs_ok (mt := mt) is (tdI mt out i) (fun k h' => by have := hi k (by simp [h']); omega) h1
    simp only [List.foldl_cons, List.length_cons]
    exact ⟨a1, by omega, by omega⟩
/-- A small program can be made tidy. -/
theorem tidy_small {p : Prog} (h : progOk p = true) (hl : p.length ≤ 19) : ∃ t, tidyO p = some t ∧ progOk t = true := by
  obtain ⟨h1, h2⟩ := pruneL_ok h
  obtain ⟨h3, h4, h5⟩ := firstL_ok h1
  obtain ⟨q1, q2, _⟩ := prog_facts h1
  obtain ⟨a1, a2, a3⟩ := tdIs_ok (mt := meets (firstL (pruneL p))) (List.range (firstL (pruneL p)).length) _ (fun i hi => List.mem_range.1 hi) h3
  rw [List.length_range] at a3
  have hok : progOk (tidyF (firstL (pruneL p))) = true := by
    simp only [progOk, inB, Bool.and_eq_true, decide_eq_true_eq, Bool.not_eq_true', List.any_eq_false]
    refine ⟨⟨?_, ?_⟩, fun s hs => by rw [show s.ok (tidyF (firstL (pruneL p))).length = true from a1 s hs]; simp⟩
    · show (1 : Int) ≤ ((List.foldl (tdI (meets (firstL (pruneL p)))) (firstL (pruneL p)) (List.range (firstL (pruneL p)).length)).length : Int); omega
    · show ((List.foldl (tdI (meets (firstL (pruneL p)))) (firstL (pruneL p)) (List.range (firstL (pruneL p)).length)).length : Int) ≤ 60; omega
  exact ⟨_, by simp only [tidyO, h, hok, if_true], hok⟩
end Gx
