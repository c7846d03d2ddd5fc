/- What may be told less at a return: blocks that nobody names any more, and trees that nobody changes any more. -/
import Derived.Test.YtbibihbkkflidaaGxFun
set_option linter.unusedSimpArgs false
set_option linter.unusedVariables false
namespace Gx
open Go

/-- Names of blocks below n alone. -/
inductive Bel (n : Nat) : GV → Prop where
  | idl {g : GV} (h : g.idl = true) : Bel n g
  | msl {id esz off len : Nat} (h : id < n) : Bel n (.msl id esz off len)
  | mptr {id i off : Nat} (h : id < n) : Bel n (.mptr id i off)
  | mmap {id : Nat} (h : id < n) : Bel n (.mmap id)
  | fn {f : Fn} {first caps : List GV} (h1 : ∀ g ∈ first, Bel n g) (h2 : ∀ g ∈ caps, Bel n g) : Bel n (.fn f first caps)
  | agg {ls : List GV} (h : ∀ g ∈ ls, Bel n g) : Bel n (.agg ls)
  | tup {ls : List GV} (h : ∀ g ∈ ls, Bel n g) : Bel n (.tup ls)

theorem VRel.bel {S : Sh} (hn : ∀ id, S.h.get id ≠ none → id < S.h.next) {g : GV} {x : Value} (h : VRel S g x) : Bel S.h.next g := by
  have each : ∀ (ls : List GV) (cs : Array Value), cs.size = ls.length → (∀ (i : Nat) (g : GV) (x : Value), ls[i]? = some g → cs[i]? = some x → Bel S.h.next g) → ∀ g ∈ ls, Bel S.h.next g := fun ls cs hl hh g hg => by
    obtain ⟨i, hi, e⟩ := List.mem_iff_getElem.1 hg
    exact hh i g (cs[i]'(by omega)) (by rw [List.getElem?_eq_getElem hi, e]) (Array.getElem?_eq_getElem (by omega))
  induction h with
  | v h => exact .idl rfl
  | esl a => exact .idl rfl
  | isl0 => exact .idl rfl
  | isl => exact .idl rfl
  | iptr => exact .idl rfl
  | msl hg hl hr => exact .msl (hn _ (by rw [hg]; simp))
  | mslOld hg hn' => exact .msl hn'
  | mptr hg hi hm => exact .mptr (hn _ (by rw [hg]; simp))
  | mptrOld hg hn' => exact .mptr hn'
  | mmap hg hm => exact .mmap (hn _ (by rw [hg]; simp))
  | mmapOld hg hn' => exact .mmap hn'
  | fn h1 h2 h3 h4 ih3 ih4 => exact .fn (each _ _ h1 ih3) (each _ _ h2 ih4)
  | agg h1 h2 h3 ih => exact .agg (each _ _ h1 ih)
  | tup h1 h2 ih => exact .tup (each _ _ h1 ih)
  | dead x => exact .idl rfl

/-- h' is what is left of h below n. -/
structure Less (n : Nat) (h h' : GH) : Prop where
  next : h'.next = n
  low : ∀ id, id < n → h'.get id = h.get id ∨ h'.get id = none
  high : ∀ id, n ≤ id → h'.get id = none

theorem Less.owned {n : Nat} {h h' : GH} (l : Less n h h') {w : World} {μ : Nat → Option (Nat × Nat)} {b : Nat} (ho : Sh.owned ⟨w, h', μ⟩ b) : ∃ id base, id < n ∧ h'.get id ≠ none ∧ h.get id ≠ none ∧ μ id = some (b, base) := by
  obtain ⟨id, base, hg, hm⟩ := ho
  have hg' : h'.get id ≠ none := hg
  rcases Nat.lt_or_ge id n with hlt | hge
  · rcases l.low id hlt with e | e
    · exact ⟨id, base, hlt, hg', by rw [← e]; exact hg', hm⟩
    · exact absurd e hg'
  · exact absurd (l.high id hge) hg'

theorem Less.owned' {n : Nat} {h h' : GH} (l : Less n h h') {w : World} {μ : Nat → Option (Nat × Nat)} {b : Nat} (ho : ¬ Sh.owned ⟨w, h, μ⟩ b) : ¬ Sh.owned ⟨w, h', μ⟩ b := fun h1 => by
  obtain ⟨id, base, _, _, h2, h3⟩ := l.owned h1
  exact ho ⟨id, base, h2, h3⟩

theorem VRel.less {n : Nat} {h h' : GH} (l : Less n h h') {w : World} {μ : Nat → Option (Nat × Nat)} {g : GV} {x : Value} (hv : VRel ⟨w, h, μ⟩ g x) (hb : Bel n g) : VRel ⟨w, h', μ⟩ g x := by
  have low : ∀ id, id < n → ∀ blk, h.get id = some blk → h'.get id = some blk ∨ h'.get id = none := fun id hid blk hg => by
    rcases l.low id hid with e | e
    · exact .inl (e.trans hg)
    · exact .inr e
  have old : ∀ id, id < n → h.get id = none → h'.get id = none := fun id hid hg => by
    rcases l.low id hid with e | e
    · exact e.trans hg
    · exact e
  induction hv with
  | v h => exact .v h
  | esl a => exact .esl a
  | isl0 esz a cap => exact .isl0 esz a cap
  | isl u hl hb' ho hcap hsz hc h1 hf hv ih => exact .isl u hl hb' (l.owned' ho) hcap hsz hc h1 hf fun i j r g hr hg => ih i j r g hr hg (.idl (hf r (List.mem_of_getElem? hr) g (List.mem_of_getElem? hg)))
  | iptr u hb' ho hc h1 hf hv ih => exact .iptr u hb' (l.owned' ho) hc h1 hf fun j g hg => ih j g hg (.idl (hf g (List.mem_of_getElem? hg)))
  | @msl id esz off len t rows a cap hg hl hr =>
    have hid : id < n := by cases hb with
      | idl h => simp [GV.idl] at h
      | msl h => exact h
    rcases low id hid _ hg with e | e
    · exact .msl e hl hr
    · refine .mslOld e (by rw [l.next]; exact hid) ?_ (by rcases hr with hr | hr <;> omega)
      rcases hr with hr | ⟨_, rb, base, c, fr, _, ha, _⟩
      · exact .inl hr.1
      · exact .inr ⟨_, _, ha⟩
  | @mslOld id esz off len a cap hg hn ha hcap =>
    have hid : id < n := by cases hb with
      | idl h => simp [GV.idl] at h
      | msl h => exact h
    exact .mslOld (old id hid hg) (by rw [l.next]; exact hid) ha hcap
  | @mptr id i off t esz rows rb base hg hi hm =>
    have hid : id < n := by cases hb with
      | idl h => simp [GV.idl] at h
      | mptr h => exact h
    rcases low id hid _ hg with e | e
    · exact .mptr e hi hm
    · exact .mptrOld e (by rw [l.next]; exact hid)
  | @mptrOld id i off b o hg hn =>
    have hid : id < n := by cases hb with
      | idl h => simp [GV.idl] at h
      | mptr h => exact h
    exact .mptrOld (old id hid hg) (by rw [l.next]; exact hid)
  | @mmap id es rb hg hm =>
    have hid : id < n := by cases hb with
      | idl h => simp [GV.idl] at h
      | mmap h => exact h
    rcases low id hid _ hg with e | e
    · exact .mmap e hm
    · exact .mmapOld e (by rw [l.next]; exact hid)
  | @mmapOld id b hg hn =>
    have hid : id < n := by cases hb with
      | idl h => simp [GV.idl] at h
      | mmap h => exact h
    exact .mmapOld (old id hid hg) (by rw [l.next]; exact hid)
  | @fn f first caps fs cs h1 h2 h3 h4 ih3 ih4 =>
    have : (∀ g ∈ first, Bel n g) ∧ ∀ g ∈ caps, Bel n g := by
      cases hb with
      | idl h =>
        simp only [GV.idl, Bool.and_eq_true, List.isEmpty_iff] at h
        rw [h.1, h.2]; simp
      | fn a b => exact ⟨a, b⟩
    exact .fn h1 h2 (fun i g x hg hx => ih3 i g x hg hx (this.1 g (List.mem_of_getElem? hg))) (fun i g x hg hx => ih4 i g x hg hx (this.2 g (List.mem_of_getElem? hg)))
  | agg h1 h2 h3 ih =>
    cases hb with
    | idl h => simp [GV.idl] at h
    | agg hb => exact .agg h1 (fun i g x hg hx => ih i g x hg hx (hb g (List.mem_of_getElem? hg))) h3
  | tup h1 h2 ih =>
    cases hb with
    | idl h => simp [GV.idl] at h
    | tup hb => exact .tup h1 (fun i g x hg hx => ih i g x hg hx (hb g (List.mem_of_getElem? hg)))
  | dead x => exact .dead x

/-- A value whose own blocks have become trees. -/
def frz (h : GH) (n : Nat) : Nat → GV → GV
  | 0, g => if g.idl then g else .dead
  | k + 1, g => match g with
    | .msl id esz off len => if id < n then .msl id esz off len else match h.get id with
      | some (.cells _ e rows) => if e = esz then .isl esz (((rows.drop off).take len).map fun r => r.map fun g => if (frz h n k g).idl then frz h n k g else .dead) else .dead
      | _ => .dead
    | .mptr id i off => if id < n then .mptr id i off else match h.get id with
      | some (.cells _ _ rows) => match rows[i]? with
        | some r => .iptr (r.map fun g => if (frz h n k g).idl then frz h n k g else .dead) off
        | none => .dead
      | _ => .dead
    | .mmap id => if id < n then .mmap id else .dead
    | .agg ls => .agg (ls.map (frz h n k))
    | .tup ls => .tup (ls.map (frz h n k))
    | .fn f first caps => if first.isEmpty && caps.isEmpty then .fn f first caps else .dead
    | g => g

theorem frz_rel {n : Nat} {h h' : GH} (l : Less n h h') {w : World} {μ : Nat → Option (Nat × Nat)} (hs : Sim ⟨w, h, μ⟩) : ∀ (k : Nat) (g : GV) (x : Value), VRel ⟨w, h, μ⟩ g x → VRel ⟨w, h', μ⟩ (frz h n k g) x
  | 0, g, x, hv => by
    simp only [frz]
    split
    · rename_i hi; exact hv.less l (.idl hi)
    · exact .dead x
  | k + 1, g, x, hv => by
    have ih := frz_rel l hs k
    have cellIdl : ∀ (g : GV) (u : Value), VRel ⟨w, h, μ⟩ g u → VRel ⟨w, h', μ⟩ (if (frz h n k g).idl then frz h n k g else .dead) u := fun g u hu => by
      split
      · exact ih g u hu
      · exact .dead u
    have idlIf : ∀ g : GV, (if (frz h n k g).idl then frz h n k g else .dead).idl = true := fun g => by
      split
      · assumption
      · rfl
    -- a block that h' does not own
    have free : ∀ id b base, n ≤ id → h.get id ≠ none → μ id = some (b, base) → ¬ Sh.owned ⟨w, h', μ⟩ b := fun id b base hge hg hm ho => by
      obtain ⟨id', base', hlt, _, hg', hm'⟩ := l.owned ho
      have := hs.inj id' id b base' base hg' hg hm' hm
      omega
    unfold frz
    split
    · rename_i id esz off len
      split
      · rename_i hid; exact hv.less l (.msl hid)
      · rename_i hid
        split
        · rename_i t e rows hg
          split
          · rename_i he
            subst he
            cases hv with
            | mslOld hg' => exact absurd (hg.symm.trans hg') (by simp)
            | @msl _ _ _ _ t' rows' a cap hg' hl hr =>
              have hg'' := hg.symm.trans hg'
              simp only [Option.some.injEq, GBlk.cells.injEq] at hg''
              obtain ⟨rfl, _, rfl⟩ := hg''
              have hml : ((rows.drop off).take len).length = len := by simp; omega
              rcases hr with ⟨rfl, rfl⟩ | ⟨hle, rb, base, c, fr, hm, ha, hc, hsz⟩
              · simp only [List.take_zero, List.map_nil]; exact .isl0 _ _ _
              · subst ha
                obtain ⟨hrows, hcase⟩ := hs.cells id t e rows hg
                rcases hcase with ⟨h0, h0'⟩ | ⟨rb', base', c', hm', hheap, hsz', hrel⟩
                · have hm2 : μ id = some (rb, base) := hm
                  have h0'' : μ id = none := h0'
                  rw [hm2] at h0''; cases h0''
                · have hm2 : μ id = some (rb, base) := hm
                  have hm3 : μ id = some (rb', base') := hm'
                  rw [hm2] at hm3
                  cases hm3
                  have hheap' : w.heap[rb]? = some (.cells c' t (0, 0)) := hheap
                  have hget : ∀ i, i < len → ((rows.drop off).take len)[i]? = rows[off + i]? := fun i hi => by rw [List.getElem?_take, if_pos hi, List.getElem?_drop]
                  have hcell : ∀ i j, i < len → j < e → ∃ u, c'[base + ((off + i) * e + j)]? = some u ∧ one u = true ∧ ∀ r g, rows[off + i]? = some r → r[j]? = some g → VRel ⟨w, h, μ⟩ g u := fun i j hi hj => by
                    have hri : rows[off + i]? = some (rows[off + i]'(by omega)) := List.getElem?_eq_getElem (by omega)
                    have hrj := hrows _ (List.getElem_mem (by omega : off + i < rows.length))
                    obtain ⟨u, hu, h1u, hv⟩ := hrel (off + i) j _ ((rows[off + i]'(by omega))[j]'(by omega)) hri (List.getElem?_eq_getElem (by omega))
                    refine ⟨u, hu, h1u, fun r g hr hg => ?_⟩
                    rw [hri] at hr; cases hr
                    rw [List.getElem?_eq_getElem (by omega)] at hg; cases hg
                    exact hv
                  refine .isl (fun i j => (c'[base + ((off + i) * e + j)]?).getD undef) (by simp only [List.length_map]; exact hml.symm) (Array.getElem?_eq_some_iff.1 hheap').1 (free id rb base (by omega) (by rw [hg]; simp) hm2) hle
                    (fun r hr => ?_) (fun i j hi hj => ?_) (fun i j hi hj => ?_) (fun r hr g hg => ?_) (fun i j r g hr hg => ?_)
                  · obtain ⟨r', hr', rfl⟩ := List.mem_map.1 hr
                    rw [List.length_map]; exact hrows r' (List.mem_of_mem_drop (List.mem_of_mem_take hr'))
                  · simp only [List.length_map, hml] at hi
                    obtain ⟨u, hu, _⟩ := hcell i j hi hj
                    simp only [World.cell?, hheap']
                    rw [show base + off * e + (i * e + j) = base + ((off + i) * e + j) by rw [Nat.add_mul]; omega, hu]
                    rfl
                  · simp only [List.length_map, hml] at hi
                    obtain ⟨u, hu, h1u, _⟩ := hcell i j hi hj
                    simp [hu, h1u]
                  · obtain ⟨r', hr', rfl⟩ := List.mem_map.1 hr
                    obtain ⟨g', hg', rfl⟩ := List.mem_map.1 hg
                    exact idlIf g'
                  · simp only [List.getElem?_map, Option.map_eq_some_iff] at hr
                    obtain ⟨r', hr', rfl⟩ := hr
                    simp only [List.getElem?_map, Option.map_eq_some_iff] at hg
                    obtain ⟨g', hg', rfl⟩ := hg
                    have hi : i < len := by have := (List.getElem?_eq_some_iff.1 hr').1; omega
                    rw [hget i hi] at hr'
                    have hj : j < e := by rw [← hrows r' (List.mem_of_getElem? hr')]; exact (List.getElem?_eq_some_iff.1 hg').1
                    obtain ⟨u, hu, _, hv⟩ := hcell i j hi hj
                    simp only [hu, Option.getD_some]
                    exact cellIdl g' u (hv r' g' hr' hg')
          · exact .dead x
        · exact .dead x
    · rename_i id i off
      split
      · rename_i hid; exact hv.less l (.mptr hid)
      · rename_i hid
        split
        · rename_i t e rows hg
          split
          · rename_i r hr
            cases hv with
            | mptrOld hg' => exact absurd (hg.symm.trans hg') (by simp)
            | @mptr _ _ _ t' esz' rows' rb base hg' hi hm =>
              have hg'' := hg.symm.trans hg'
              simp only [Option.some.injEq, GBlk.cells.injEq] at hg''
              obtain ⟨rfl, rfl, rfl⟩ := hg''
              obtain ⟨hrows, hcase⟩ := hs.cells id t e rows hg
              rcases hcase with ⟨h0, h0'⟩ | ⟨rb', base', c', hm', hheap, hsz', hrel⟩
              · rw [h0] at hr; simp at hr
              · have hm2 : μ id = some (rb, base) := hm
                have hm3 : μ id = some (rb', base') := hm'
                rw [hm2] at hm3
                cases hm3
                have hheap' : w.heap[rb]? = some (.cells c' t (0, 0)) := hheap
                have hcell : ∀ j, j < r.length → ∃ u, c'[base + (i * e + j)]? = some u ∧ one u = true ∧ ∀ g, r[j]? = some g → VRel ⟨w, h, μ⟩ g u := fun j hj => by
                  obtain ⟨u, hu, h1u, hv⟩ := hrel i j r r[j] hr (List.getElem?_eq_getElem hj)
                  exact ⟨u, hu, h1u, fun g hg => by rw [List.getElem?_eq_getElem hj] at hg; cases hg; exact hv⟩
                rw [← Nat.add_assoc]
                refine .iptr (fun j => (c'[base + (i * e + j)]?).getD undef) (Array.getElem?_eq_some_iff.1 hheap').1 (free id rb base (by omega) (by rw [hg]; simp) hm2) (fun j hj => ?_) (fun j hj => ?_) (fun g hg => ?_) (fun j g hg => ?_)
                · rw [List.length_map] at hj
                  obtain ⟨u, hu, _⟩ := hcell j hj
                  simp only [World.cell?, hheap']
                  rw [show base + i * e + j = base + (i * e + j) by omega, hu]
                  rfl
                · rw [List.length_map] at hj
                  obtain ⟨u, hu, h1u, _⟩ := hcell j hj
                  simp [hu, h1u]
                · obtain ⟨g', hg', rfl⟩ := List.mem_map.1 hg
                  exact idlIf g'
                · simp only [List.getElem?_map, Option.map_eq_some_iff] at hg
                  obtain ⟨g', hg', rfl⟩ := hg
                  obtain ⟨u, hu, _, hv⟩ := hcell j (List.getElem?_eq_some_iff.1 hg').1
                  simp only [hu, Option.getD_some]
                  exact cellIdl g' u (hv g' hg')
          · exact .dead x
        · exact .dead x
    · rename_i id
      split
      · rename_i hid; exact hv.less l (.mmap hid)
      · exact .dead x
    · cases hv with
      | agg h1 h2 h3 =>
        refine .agg (by rw [List.length_map]; exact h1) (fun i g x hg hx => ?_) h3
        simp only [List.getElem?_map, Option.map_eq_some_iff] at hg
        obtain ⟨g', hg', rfl⟩ := hg
        exact ih g' x (h2 i g' x hg' hx)
    · cases hv with
      | tup h1 h2 =>
        refine .tup (by rw [List.length_map]; exact h1) (fun i g x hg hx => ?_)
        simp only [List.getElem?_map, Option.map_eq_some_iff] at hg
        obtain ⟨g', hg', rfl⟩ := hg
        exact ih g' x (h2 i g' x hg' hx)
    · rename_i f first caps
      split
      · rename_i he; exact hv.less l (.idl he)
      · exact .dead x
    · rename_i h1 h2 h3 h4 h5 h6
      refine hv.less l (.idl ?_)
      cases g <;> first | rfl | exact (h1 _ _ _ _ rfl).elim | exact (h2 _ _ _ rfl).elim | exact (h3 _ rfl).elim | exact (h4 _ rfl).elim | exact (h5 _ rfl).elim | exact (h6 _ _ _ rfl).elim

/-- At the return: what the call made and does not hand back is forgotten; what it hands back becomes a tree. -/
theorem back_less {h0 h h' : GH} {v : GV} (k : Nat) (l : Less h0.next h h') (hc : ∀ id t esz rows, h'.get id = some (.cells t esz rows) → h0.get id = some (.cells t esz rows) ∨ ∀ r ∈ rows, ∀ g ∈ r, Bel h0.next g)
    (hmp : ∀ id es, h'.get id = some (.mp es) → h0.get id = some (.mp es) ∨ ∀ p ∈ es, Bel h0.next p.2) : Back h0 v h (frz h h0.next k v) h' := ⟨fun S0 w μ x e0 hs0 hs he hv => by
  subst e0
  have hlow : ∀ id, h'.get id ≠ none → id < S0.h.next ∧ h'.get id = h.get id := fun id hg => by
    rcases Nat.lt_or_ge id S0.h.next with hlt | hge
    · rcases l.low id hlt with e | e
      · exact ⟨hlt, e⟩
      · exact absurd e hg
    · exact absurd (l.high id hge) hg
  refine ⟨μ, ⟨fun id hg => ?_, fun id id' b o o' hg hg' => ?_, fun id t esz rows hg => ?_, fun id es hg => ?_⟩, ⟨he.os, he.tape, he.output, he.size, he.keep, fun b hb ho => ?_, he.cells, ?_, fun id hid hg => ?_, fun id t esz rows hg => ?_, fun id es hg => ?_⟩, frz_rel l hs k v x hv⟩
  · rw [show h'.next = S0.h.next from l.next]; exact (hlow id hg).1
  · exact hs.inj id id' b o o' (by rw [← (hlow id hg).2]; exact hg) (by rw [← (hlow id' hg').2]; exact hg')
  · have hg1 : h'.get id = some (.cells t esz rows) := hg
    obtain ⟨hlt, heq⟩ := hlow id (by rw [hg1]; simp)
    have hg2 : h.get id = some (.cells t esz rows) := heq.symm.trans hg1
    obtain ⟨h1, h2⟩ := hs.cells id t esz rows hg2
    have hbel : ∀ r ∈ rows, ∀ g ∈ r, Bel S0.h.next g := by
      rcases hc id t esz rows hg1 with e | e
      · intro r hr g hg
        obtain ⟨h1', h2'⟩ := hs0.cells id t esz rows e
        obtain ⟨i, hi, er⟩ := List.mem_iff_getElem.1 hr
        obtain ⟨j, hj, eg⟩ := List.mem_iff_getElem.1 hg
        rcases h2' with h | ⟨rb, base, c, _, _, _, hrel⟩
        · rw [h.1] at hr; cases hr
        · obtain ⟨u, _, _, hvu⟩ := hrel i j r g (by rw [List.getElem?_eq_getElem hi, er]) (by rw [List.getElem?_eq_getElem hj, eg])
          exact hvu.bel hs0.next
      · exact e
    refine ⟨h1, h2.imp (fun x => x) fun ⟨rb, base, c, h3, h4, h5, h6⟩ => ⟨rb, base, c, h3, h4, h5, fun i j r g hr hgj => ?_⟩⟩
    obtain ⟨u, hu, h1u, hvu⟩ := h6 i j r g hr hgj
    exact ⟨u, hu, h1u, hvu.less l (hbel r (List.mem_of_getElem? hr) g (List.mem_of_getElem? hgj))⟩
  · have hg1 : h'.get id = some (.mp es) := hg
    obtain ⟨hlt, heq⟩ := hlow id (by rw [hg1]; simp)
    have hg2 : h.get id = some (.mp es) := heq.symm.trans hg1
    obtain ⟨rb, ms, clock, h1, h2, h3, h4, h5, h6⟩ := hs.maps id es hg2
    refine ⟨rb, ms, clock, h1, h2, h3, h4, h5, fun i kk g hi => ?_⟩
    obtain ⟨e, hee, hk, hvu⟩ := h6 i kk g hi
    refine ⟨e, hee, hk, hvu.less l ?_⟩
    rcases hmp id es hg1 with e0 | e0
    · obtain ⟨rb', ms', clock', _, _, _, _, _, h6'⟩ := hs0.maps id es e0
      obtain ⟨e', _, _, hvu'⟩ := h6' i kk g hi
      exact hvu'.bel hs0.next
    · exact e0 (kk, g) (List.mem_of_getElem? hi)
  · obtain ⟨id, base, _, _, h2, h3⟩ := l.owned ho
    exact he.own b hb ⟨id, base, h2, h3⟩
  · exact Nat.le_of_eq l.next.symm
  · have := hlow id hg
    exact he.old id hid (by rw [show h.get id = h'.get id from this.2.symm]; exact hg)
  · rcases l.low id (hs0.next id (by rw [hg]; simp)) with e | e
    · rcases he.rows id t esz rows hg with e2 | ⟨rows', e2, e3⟩
      · exact .inl (e.trans e2)
      · exact .inr ⟨rows', e.trans e2, e3⟩
    · exact .inl e
  · rcases l.low id (hs0.next id (by rw [hg]; simp)) with e | e
    · rcases he.maps id es hg with e2 | ⟨es', e2⟩
      · exact .inl (e.trans e2)
      · exact .inr ⟨es', e.trans e2⟩
    · exact .inl e⟩

theorem gret_keep {h0 : GH} {R : GV → GH → Prop} {v : GV} {h : GH} (hr : R v h) : GRet h0 R v h := ⟨v, h, Back.refl _ _ _, hr⟩
end Gx
