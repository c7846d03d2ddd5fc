/- New blocks, loads and stores: how ghost heaps follow the world. -/
import Derived.Test.YtbibihbkkflidaaGxPure
set_option linter.unusedSimpArgs false
set_option linter.unusedVariables false
namespace Gx
open Go

theorem one_eq (x : Value) : one x = x.oneCell' := by cases x <;> rfl

/-- A new block of the world that no ghost block stands for. -/
theorem evolve_push (S : Sh) (hs : Sim S) (o : Obj) : Evolve S ⟨{ S.w with heap := S.w.heap.push o }, S.h, S.μ⟩ where
  os := rfl
  tape := rfl
  output := rfl
  size := by simp
  keep := fun b hb _ => by simp [Array.getElem?_push, Nat.ne_of_lt hb]
  own := fun b hb h => h
  cells := fun b c t fr hc => by
    have hb : b < S.w.heap.size := (Array.getElem?_eq_some_iff.1 hc).1
    exact ⟨c, fr, by simp [Array.getElem?_push, Nat.ne_of_lt hb, hc], rfl⟩
  next := Nat.le_refl _
  old := fun id _ h => ⟨h, rfl⟩
  rows := fun id t esz rows h => .inr ⟨rows, h, rfl⟩
  maps := fun id es h => .inr ⟨es, h⟩

theorem Sim.block_lt {S : Sh} (hs : Sim S) {id b o : Nat} (h : S.h.get id ≠ none) (hm : S.μ id = some (b, o)) : b < S.w.heap.size := by
  cases hg : S.h.get id with
  | none => exact absurd hg h
  | some blk =>
    cases blk with
    | cells t esz rows =>
      rcases (hs.cells id t esz rows hg).2 with ⟨_, h0⟩ | ⟨rb, base, c, h0, h1, _⟩
      · rw [h0] at hm; cases hm
      · rw [h0] at hm; cases hm
        exact (Array.getElem?_eq_some_iff.1 h1).1
    | mp es =>
      obtain ⟨rb, ms, clock, h0, h1, _⟩ := hs.maps id es hg
      rw [h0] at hm; cases hm
      exact (Array.getElem?_eq_some_iff.1 h1).1

/-- The world may change as it likes where nobody looks: every part of Sim but the heap's own follows. -/
theorem Sim.of_evolve {S S' : Sh} (hs : Sim S) (E : Evolve S S') (hh : S'.h = S.h) (hm : S'.μ = S.μ)
    (hb : ∀ b, S.owned b → S'.w.heap[b]? = S.w.heap[b]?) : Sim S' where
  next := by rw [hh]; exact hs.next
  inj := by rw [hh, hm]; exact hs.inj
  cells := fun id t esz rows hg => by
    rw [hh] at hg
    obtain ⟨h1, h2⟩ := hs.cells id t esz rows hg
    refine ⟨h1, ?_⟩
    rcases h2 with h2 | ⟨rb, base, c, h3, h4, h5, h6⟩
    · exact .inl ⟨h2.1, by rw [hm]; exact h2.2⟩
    · refine .inr ⟨rb, base, c, by rw [hm]; exact h3, by rw [hb rb ⟨id, base, by rw [hg]; simp, h3⟩]; exact h4, h5, fun i j r g hr hgj => ?_⟩
      obtain ⟨u, hu, h1u, hv⟩ := h6 i j r g hr hgj
      exact ⟨u, hu, h1u, hv.mono hs.next E⟩
  maps := fun id es hg => by
    rw [hh] at hg
    obtain ⟨rb, ms, clock, h1, h2, h3, h4, h5, h6⟩ := hs.maps id es hg
    refine ⟨rb, ms, clock, by rw [hm]; exact h1, by rw [hb rb ⟨id, 0, by rw [hg]; simp, h1⟩]; exact h2, h3, h4, h5, fun i k g hi => ?_⟩
    obtain ⟨e, he, hk, hv⟩ := h6 i k g hi
    exact ⟨e, he, hk, hv.mono hs.next E⟩

theorem sim_push (S : Sh) (hs : Sim S) (o : Obj) : Sim ⟨{ S.w with heap := S.w.heap.push o }, S.h, S.μ⟩ :=
  hs.of_evolve (evolve_push S hs o) rfl rfl fun b hb => by
    obtain ⟨id, base, hg, hm⟩ := hb
    have hlt := hs.block_lt hg hm
    simp [Array.getElem?_push, Nat.ne_of_lt hlt]

def mset (μ : Nat → Option (Nat × Nat)) (id : Nat) (p : Option (Nat × Nat)) : Nat → Option (Nat × Nat) := fun j => if j = id then p else μ j

theorem not_owned_size {S : Sh} (hs : Sim S) : ¬ S.owned S.w.heap.size := fun ⟨id, base, hg, hm⟩ => Nat.lt_irrefl _ (hs.block_lt hg hm)

/-- A ghost block that comes to own a block of the world that nobody owned. -/
theorem evolve_new (S : Sh) (hs : Sim S) (blk : GBlk) (p : Option (Nat × Nat)) (B : Nat) (hp : ∀ b o, p = some (b, o) → B ≤ b) (w0 : World) (hw : B = w0.heap.size)
    (h0 : Evolve ⟨w0, S.h, S.μ⟩ S) : Evolve ⟨w0, S.h, S.μ⟩ ⟨S.w, S.h.new blk, mset S.μ S.h.next p⟩ where
  os := h0.os
  tape := h0.tape
  output := h0.output
  size := h0.size
  keep := h0.keep
  own := fun b hb ⟨id, base, hg, hm⟩ => by
    simp only [mset] at hm
    by_cases hid : id = S.h.next
    · rw [if_pos hid] at hm
      have := hp b base hm
      have hb' : b < w0.heap.size := hb
      omega
    · rw [if_neg hid] at hm
      simp only [GH.new, if_neg hid] at hg
      exact ⟨id, base, hg, hm⟩
  cells := h0.cells
  next := Nat.le_succ _
  old := fun id hid hg => by
    have : id ≠ S.h.next := Nat.ne_of_lt hid
    simp only [GH.new, if_neg this] at hg
    exact ⟨hg, by simp only [mset, if_neg this]⟩
  rows := fun id t esz rows hg => by
    have : id ≠ S.h.next := fun e => by
      have := hs.next id (by rw [hg]; simp)
      omega
    exact .inr ⟨rows, by simp only [GH.new, if_neg this]; exact hg, rfl⟩
  maps := fun id es hg => by
    have : id ≠ S.h.next := fun e => by
      have := hs.next id (by rw [hg]; simp)
      omega
    exact .inr ⟨es, by simp only [GH.new, if_neg this]; exact hg⟩

theorem new_get_ne {h : GH} {blk : GBlk} {id : Nat} (hid : id ≠ h.next) : (h.new blk).get id = h.get id := by simp only [GH.new, if_neg hid]
theorem new_get_same {h : GH} {blk : GBlk} : (h.new blk).get h.next = some blk := by simp only [GH.new, if_true]

/-- A new ghost block of cells: S before, h1 what is left of its heap, w' the world behind. -/
theorem sim_new_cells {S : Sh} (hs : Sim S) {h1 : GH} (hsub : ∀ i, h1.get i ≠ none → h1.get i = S.h.get i) (hnx : h1.next = S.h.next) {w' : World} {t : TypeId} {esz : Nat} {rows : List (List GV)} {p : Option (Nat × Nat)}
    (E : Evolve S ⟨w', h1.new (.cells t esz rows), mset S.μ S.h.next p⟩) (hb : ∀ b, Sh.owned ⟨S.w, h1, S.μ⟩ b → w'.heap[b]? = S.w.heap[b]?)
    (hr : ∀ r ∈ rows, r.length = esz) (hfree : ∀ b o, p = some (b, o) → ¬ Sh.owned ⟨S.w, h1, S.μ⟩ b)
    (hc : (rows = [] ∧ p = none) ∨ ∃ (rb base : Nat) (c : Array Value), p = some (rb, base) ∧ w'.heap[rb]? = some (.cells c t (0, 0)) ∧ base + rows.length * esz ≤ c.size ∧
      ∀ (i j : Nat) (r : List GV) (g : GV), rows[i]? = some r → r[j]? = some g → ∃ u : Value, c[base + (i * esz + j)]? = some u ∧ one u = true ∧ VRel S g u) :
    Sim ⟨w', h1.new (.cells t esz rows), mset S.μ S.h.next p⟩ where
  next := fun id hg => by
    by_cases hid : id = h1.next
    · subst hid; exact Nat.lt_succ_self _
    · rw [new_get_ne hid] at hg
      have := hs.next id (by rw [← hsub id hg]; exact hg)
      exact Nat.lt_succ_of_lt (by rw [hnx]; exact this)
  inj := fun id id' b o o' hg hg' hm hm' => by
    simp only [mset] at hm hm'
    by_cases hid : id = S.h.next
    · by_cases hid' : id' = S.h.next
      · rw [hid, hid']
      · rw [if_pos hid] at hm
        rw [if_neg hid'] at hm'
        rw [new_get_ne (by rw [hnx]; exact hid')] at hg'
        exact absurd ⟨id', o', hg', hm'⟩ (hfree b o hm)
    · by_cases hid' : id' = S.h.next
      · rw [if_pos hid'] at hm'
        rw [if_neg hid] at hm
        rw [new_get_ne (by rw [hnx]; exact hid)] at hg
        exact absurd ⟨id, o, hg, hm⟩ (hfree b o' hm')
      · rw [if_neg hid] at hm
        rw [if_neg hid'] at hm'
        rw [new_get_ne (by rw [hnx]; exact hid)] at hg
        rw [new_get_ne (by rw [hnx]; exact hid')] at hg'
        exact hs.inj id id' b o o' (by rw [← hsub id hg]; exact hg) (by rw [← hsub id' hg']; exact hg') hm hm'
  cells := fun id t' esz' rows' hg => by
    by_cases hid : id = h1.next
    · subst hid
      simp only [new_get_same, Option.some.injEq, GBlk.cells.injEq] at hg
      obtain ⟨rfl, rfl, rfl⟩ := hg
      refine ⟨hr, ?_⟩
      simp only [mset, hnx, if_true]
      rcases hc with hc | ⟨rb, base, c, h1, h2, h3, h4⟩
      · exact .inl hc
      · refine .inr ⟨rb, base, c, h1, h2, h3, fun i j r g hr hg => ?_⟩
        obtain ⟨u, hu, h1u, hv⟩ := h4 i j r g hr hg
        exact ⟨u, hu, h1u, hv.mono hs.next E⟩
    · have hid' : id ≠ S.h.next := by rw [← hnx]; exact hid
      rw [new_get_ne hid] at hg
      have hg0 : S.h.get id = some (.cells t' esz' rows') := by rw [← hsub id (by rw [hg]; simp)]; exact hg
      obtain ⟨h1', h2⟩ := hs.cells id t' esz' rows' hg0
      refine ⟨h1', ?_⟩
      simp only [mset, if_neg hid']
      rcases h2 with h2 | ⟨rb, base, c, h3, h4, h5, h6⟩
      · exact .inl h2
      · refine .inr ⟨rb, base, c, h3, by rw [hb rb ⟨id, base, by rw [hg]; simp, h3⟩]; exact h4, h5, fun i j r g hr hg => ?_⟩
        obtain ⟨u, hu, h1u, hv⟩ := h6 i j r g hr hg
        exact ⟨u, hu, h1u, hv.mono hs.next E⟩
  maps := fun id es hg => by
    by_cases hid : id = h1.next
    · subst hid
      simp [new_get_same] at hg
    · have hid' : id ≠ S.h.next := by rw [← hnx]; exact hid
      rw [new_get_ne hid] at hg
      have hg0 : S.h.get id = some (.mp es) := by rw [← hsub id (by rw [hg]; simp)]; exact hg
      obtain ⟨rb, ms, clock, h1', h2, h3, h4, h5, h6⟩ := hs.maps id es hg0
      refine ⟨rb, ms, clock, by simp only [mset, if_neg hid']; exact h1', by rw [hb rb ⟨id, 0, by rw [hg]; simp, h1'⟩]; exact h2, h3, h4, h5, fun i k g hi => ?_⟩
      obtain ⟨e, he, hk, hv⟩ := h6 i k g hi
      exact ⟨e, he, hk, hv.mono hs.next E⟩

theorem owned_push {S : Sh} (hs : Sim S) (o : Obj) (b : Nat) (hb : S.owned b) : (S.w.heap.push o)[b]? = S.w.heap[b]? := by
  obtain ⟨id, base, hg, hm⟩ := hb
  have hlt := hs.block_lt hg hm
  simp [Array.getElem?_push, Nat.ne_of_lt hlt]

/-- An allocation of cells, and the ghost block that owns it. -/
theorem alloc_cells {S : Sh} (hs : Sim S) (t : TypeId) (c : Array Value) (esz : Nat) (rows : List (List GV))
    (hr : ∀ r ∈ rows, r.length = esz) (hsz : rows.length * esz ≤ c.size)
    (hv : ∀ (i j : Nat) (r : List GV) (g : GV), rows[i]? = some r → r[j]? = some g → ∃ u : Value, c[i * esz + j]? = some u ∧ one u = true ∧ VRel S g u) :
    Sim ⟨{ S.w with heap := S.w.heap.push (.cells c t) }, S.h.new (.cells t esz rows), mset S.μ S.h.next (some (S.w.heap.size, 0))⟩ ∧
    Evolve S ⟨{ S.w with heap := S.w.heap.push (.cells c t) }, S.h.new (.cells t esz rows), mset S.μ S.h.next (some (S.w.heap.size, 0))⟩ := by
  have E : Evolve S ⟨{ S.w with heap := S.w.heap.push (.cells c t) }, S.h.new (.cells t esz rows), mset S.μ S.h.next (some (S.w.heap.size, 0))⟩ :=
    evolve_new ⟨{ S.w with heap := S.w.heap.push (.cells c t) }, S.h, S.μ⟩ (sim_push S hs _) (.cells t esz rows) (some (S.w.heap.size, 0)) S.w.heap.size
      (fun b o h => by cases h; exact Nat.le_refl _) S.w rfl (evolve_push S hs _)
  refine ⟨sim_new_cells hs (h1 := S.h) (fun _ _ => rfl) rfl E (fun b hb => owned_push hs _ b hb) hr (fun b o h => by cases h; exact not_owned_size hs) (.inr ⟨S.w.heap.size, 0, c, rfl, by simp, by omega, fun i j r g h1 h2 => ?_⟩), E⟩
  rw [Nat.zero_add]
  exact hv i j r g h1 h2

/-! ### stores -/
theorem evolve_setRow {S : Sh} (hs : Sim S) {id base rb : Nat} {t : TypeId} {esz : Nat} {rows rows' : List (List GV)} {c c' : Array Value} (hg : S.h.get id = some (.cells t esz rows)) (hm : S.μ id = some (rb, base))
    (hc : S.w.heap[rb]? = some (.cells c t (0, 0))) (hsz : c'.size = c.size) (hl : rows'.length = rows.length) :
    Evolve S ⟨S.w.setRow rb c', S.h.set id (.cells t esz rows'), S.μ⟩ where
  os := rfl
  tape := rfl
  output := rfl
  size := by simp
  keep := fun b hb ho => setRow_other _ _ _ _ (fun e => ho ⟨id, base, by rw [hg]; simp, by rw [e]; exact hm⟩)
  own := fun b hb ⟨i, o, hg', hm'⟩ => by
    simp only [GH.set] at hg'
    by_cases hi : i = id
    · exact ⟨i, o, by rw [hi, hg]; simp, hm'⟩
    · rw [if_neg hi] at hg'; exact ⟨i, o, hg', hm'⟩
  cells := fun b cc tt fr hb => by
    by_cases e : b = rb
    · subst e
      rw [hc] at hb
      cases hb
      exact ⟨c', (0, 0), setRow_heap _ _ _ _ _ _ hc, hsz⟩
    · exact ⟨cc, fr, by rw [setRow_other _ _ _ _ e]; exact hb, rfl⟩
  next := Nat.le_refl _
  old := fun i _ hg' => by
    simp only [GH.set] at hg'
    by_cases hi : i = id
    · exact ⟨by rw [hi, hg]; simp, rfl⟩
    · rw [if_neg hi] at hg'; exact ⟨hg', rfl⟩
  rows := fun i t' e' r' hg' => by
    by_cases hi : i = id
    · subst hi
      rw [hg] at hg'
      simp only [Option.some.injEq, GBlk.cells.injEq] at hg'
      obtain ⟨rfl, rfl, rfl⟩ := hg'
      exact .inr ⟨rows', by simp [GH.set], hl⟩
    · exact .inr ⟨r', by simp only [GH.set, if_neg hi]; exact hg', rfl⟩
  maps := fun i es hg' => by
    by_cases hi : i = id
    · subst hi; rw [hg] at hg'; cases hg'
    · exact .inr ⟨es, by simp only [GH.set, if_neg hi]; exact hg'⟩

theorem sim_setRow {S : Sh} (hs : Sim S) {id base rb : Nat} {t : TypeId} {esz : Nat} {rows rows' : List (List GV)} {c c' : Array Value} (hg : S.h.get id = some (.cells t esz rows)) (hm : S.μ id = some (rb, base))
    (hc : S.w.heap[rb]? = some (.cells c t (0, 0))) (hsz : c'.size = c.size) (hl : rows'.length = rows.length) (hr : ∀ r ∈ rows', r.length = esz)
    (hv : ∀ (i j : Nat) (r : List GV) (g : GV), rows'[i]? = some r → r[j]? = some g → ∃ u : Value, c'[base + (i * esz + j)]? = some u ∧ one u = true ∧ VRel S g u) :
    Sim ⟨S.w.setRow rb c', S.h.set id (.cells t esz rows'), S.μ⟩ := by
  have E := evolve_setRow hs hg hm hc hsz hl
  obtain ⟨h1, h2⟩ := hs.cells id t esz rows hg
  have hfit : base + rows.length * esz ≤ c.size := by
    rcases h2 with h2 | ⟨rb', base', c1, h3, h4, h5, h6⟩
    · rw [h2.2] at hm; cases hm
    · rw [h3] at hm; cases hm
      rw [h4] at hc; cases hc
      exact h5
  refine ⟨fun i hi => ?_, fun i i' b o o' hi hi' hm1 hm2 => ?_, fun i t' e' r' hi => ?_, fun i es hi => ?_⟩
  · simp only [GH.set] at hi
    by_cases e : i = id
    · exact hs.next i (by rw [e, hg]; simp)
    · rw [if_neg e] at hi; exact hs.next i hi
  · have fix : ∀ i, (S.h.set id (.cells t esz rows')).get i ≠ none → S.h.get i ≠ none := fun i hi => by
      simp only [GH.set] at hi
      by_cases e : i = id
      · rw [e, hg]; simp
      · rw [if_neg e] at hi; exact hi
    exact hs.inj i i' b o o' (fix i hi) (fix i' hi') hm1 hm2
  · by_cases e : i = id
    · subst e
      simp only [GH.set, if_true, Option.some.injEq, GBlk.cells.injEq] at hi
      obtain ⟨rfl, rfl, rfl⟩ := hi
      refine ⟨hr, .inr ⟨rb, base, c', hm, setRow_heap _ _ _ _ _ _ hc, by rw [hl, hsz]; exact hfit, fun i j r g hri hgj => ?_⟩⟩
      obtain ⟨u, hu, h1u, hvu⟩ := hv i j r g hri hgj
      exact ⟨u, hu, h1u, hvu.mono hs.next E⟩
    · simp only [GH.set, if_neg e] at hi
      obtain ⟨h1, h2⟩ := hs.cells i t' e' r' hi
      refine ⟨h1, ?_⟩
      rcases h2 with h2 | ⟨rb', base', c1, h3, h4, h5, h6⟩
      · exact .inl h2
      · have hne : rb' ≠ rb := fun er => e (hs.inj i id rb base' base (by rw [hi]; simp) (by rw [hg]; simp) (er ▸ h3) hm)
        refine .inr ⟨rb', base', c1, h3, by rw [setRow_other _ _ _ _ hne]; exact h4, h5, fun i j r g hri hgj => ?_⟩
        obtain ⟨u, hu, h1u, hvu⟩ := h6 i j r g hri hgj
        exact ⟨u, hu, h1u, hvu.mono hs.next E⟩
  · by_cases e : i = id
    · subst e; simp [GH.set] at hi
    · simp only [GH.set, if_neg e] at hi
      obtain ⟨rb', ms, clock, h1, h2, h3, h4, h5, h6⟩ := hs.maps i es hi
      have hne : rb' ≠ rb := fun er => e (hs.inj i id rb 0 base (by rw [hi]; simp) (by rw [hg]; simp) (er ▸ h1) hm)
      refine ⟨rb', ms, clock, h1, by rw [setRow_other _ _ _ _ hne]; exact h2, h3, h4, h5, fun i k g hik => ?_⟩
      obtain ⟨e, he, hk, hvu⟩ := h6 i k g hik
      exact ⟨e, he, hk, hvu.mono hs.next E⟩
end Gx
