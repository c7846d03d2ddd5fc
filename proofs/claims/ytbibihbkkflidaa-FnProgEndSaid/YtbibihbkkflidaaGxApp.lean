/- append over ghost heaps. -/
import Derived.Test.YtbibihbkkflidaaGxMake
set_option linter.unusedSimpArgs false
set_option linter.unusedVariables false
namespace Gx
open Go

/-- The rows that a slice shows. -/
def rowsOf (h : GH) (esz : Nat) (x : GV) (k : List (List GV) → Prop) (_p : Ph k := ()) : Prop :=
  match x with
  | .esl => k []
  | .isl e rows => gassert (e = esz) (k rows)
  | .msl id e off len => match h.get id with
    | some (.cells _ e' rows) => gassert (e = esz ∧ e' = esz ∧ off + len ≤ rows.length) (k ((rows.drop off).take len))
    | _ => False
  | _ => False

/-- What the model has of a slice that shows rows. -/
def Shows (S : Sh) (esz : Nat) (rows : List (List GV)) (x : Value) : Prop :=
  ∃ (a : Option Addr) (cap : Nat) (us : List Value), x = .slice a rows.length cap ∧ us.length = rows.length * esz ∧ (∀ u ∈ us, one u = true) ∧ (∀ r ∈ rows, r.length = esz) ∧
    (rows = [] ∨ ∃ b o, a = some ⟨b, o, none⟩ ∧ ∀ j u, us[j]? = some u → S.w.cell? ⟨b, o + j, none⟩ = some u) ∧
    ∀ (i j : Nat) (r : List GV) (g : GV), rows[i]? = some r → r[j]? = some g → ∃ u : Value, us[i * esz + j]? = some u ∧ VRel S g u

theorem shows_nil (S : Sh) (esz : Nat) (a : Option Addr) (cap : Nat) : Shows S esz [] (.slice a 0 cap) :=
  ⟨a, cap, [], rfl, by simp, by simp, by simp, .inl rfl, fun i j r g hr => by simp at hr⟩

/-- From cells that are known by row and place. -/
theorem shows_of (S : Sh) (esz : Nat) (rows : List (List GV)) (b o cap : Nat) (hr : ∀ r ∈ rows, r.length = esz)
    (h : ∀ i j, i < rows.length → j < esz → ∃ u : Value, S.w.cell? ⟨b, o + (i * esz + j), none⟩ = some u ∧ one u = true ∧ ∀ r g, rows[i]? = some r → r[j]? = some g → VRel S g u) :
    Shows S esz rows (.slice (some ⟨b, o, none⟩) rows.length cap) := by
  have hall : ∀ k, k < rows.length * esz → ∃ u : Value, S.w.cell? ⟨b, o + k, none⟩ = some u ∧ one u = true := fun k hk => by
    have hpos : 0 < esz := Nat.pos_of_ne_zero fun h0 => by rw [h0] at hk; simp at hk
    have hi : k / esz < rows.length := (Nat.div_lt_iff_lt_mul hpos).2 hk
    obtain ⟨u, hu, h1, _⟩ := h (k / esz) (k % esz) hi (Nat.mod_lt _ hpos)
    rw [Nat.div_add_mod'] at hu
    exact ⟨u, hu, h1⟩
  refine ⟨_, cap, (List.range (rows.length * esz)).map fun k => (S.w.cell? ⟨b, o + k, none⟩).getD undef, rfl, by simp, fun u hu => ?_, hr, .inr ⟨b, o, rfl, fun j u hj => ?_⟩, fun i j r g hri hgj => ?_⟩
  · obtain ⟨k, hk, rfl⟩ := List.mem_map.1 hu
    rw [List.mem_range] at hk
    obtain ⟨u, hu, h1⟩ := hall k hk
    simp [hu, h1]
  · simp only [List.getElem?_map, Option.map_eq_some_iff] at hj
    obtain ⟨k, hk, rfl⟩ := hj
    obtain ⟨hlt, e⟩ := List.getElem?_eq_some_iff.1 hk
    simp at e hlt
    subst e
    obtain ⟨u, hu, h1⟩ := hall _ hlt
    simp [hu]
  · have hi := (List.getElem?_eq_some_iff.1 hri).1
    have hj : j < esz := by rw [← hr r (List.mem_of_getElem? hri)]; exact (List.getElem?_eq_some_iff.1 hgj).1
    obtain ⟨u, hu, h1, hv⟩ := h i j hi hj
    have hlt : i * esz + j < rows.length * esz := by
      have : (i + 1) * esz ≤ rows.length * esz := Nat.mul_le_mul_right _ hi
      rw [Nat.add_mul, Nat.one_mul] at this
      omega
    refine ⟨u, ?_, hv r g hri hgj⟩
    simp only [List.getElem?_map]
    rw [List.getElem?_eq_getElem (by simpa using hlt)]
    simp [hu]

theorem rowsOf_sound {h : GH} {esz : Nat} {x : GV} {k : List (List GV) → Prop} (hk : rowsOf h esz x k) :
    ∃ rows, k rows ∧ ∀ (w : World) (μ) (xv : Value), Sim ⟨w, h, μ⟩ → VRel ⟨w, h, μ⟩ x xv → Shows ⟨w, h, μ⟩ esz rows xv := by
  unfold rowsOf at hk
  split at hk
  · exact ⟨_, hk, fun w μ xv hs hx => by cases hx; exact shows_nil _ _ _ _⟩
  · obtain ⟨rfl, hk⟩ := hk
    refine ⟨_, hk, fun w μ xv hs hx => ?_⟩
    cases hx with
    | isl0 => exact shows_nil _ _ _ _
    | @isl _ rows b o len cap u hl hb ho hcap hsz hc h1 hf hv =>
      subst hl
      exact shows_of _ _ _ _ _ _ hsz (fun i j hi hj => ⟨u i j, hc i j hi hj, h1 i j hi hj, fun r g hr hg => hv i j r g hr hg⟩)
  · rename_i id e off len
    split at hk
    · rename_i t e' rows hg
      obtain ⟨⟨rfl, rfl, hlen⟩, hk⟩ := hk
      refine ⟨_, hk, fun w μ xv hs hx => ?_⟩
      cases hx with
      | mslOld hg' => have hg'' : h.get id = none := hg'; rw [hg] at hg''; cases hg''
      | @msl _ _ _ _ t' rows' a cap hg' hlr hr =>
        have hg'' : h.get id = some (.cells t' e' rows') := hg'
        rw [hg] at hg''
        simp only [Option.some.injEq, GBlk.cells.injEq] at hg''
        obtain ⟨rfl, _, rfl⟩ := hg''
        rcases hr with ⟨h0, h0'⟩ | ⟨hle, rb, base, c, fr, hm, ha, hc, hsz⟩
        · subst h0
          subst h0'
          simp only [List.take_zero]
          exact shows_nil _ _ _ _
        · subst ha
          obtain ⟨hrl, hcase⟩ := hs.cells id t e' rows hg
          have hml : ((rows.drop off).take len).length = len := by simp; omega
          have hget : ∀ i, i < len → ((rows.drop off).take len)[i]? = rows[off + i]? := fun i hi => by
            rw [List.getElem?_take, if_pos hi, List.getElem?_drop]
          have := shows_of ⟨w, h, μ⟩ e' ((rows.drop off).take len) rb (base + off * e') cap (fun r hr => hrl r (List.mem_of_mem_drop (List.mem_of_mem_take hr))) (fun i j hi hj => ?_)
          · rw [hml] at this; exact this
          · rw [hml] at hi
            rcases hcase with ⟨h0, _⟩ | ⟨rb', base', c', hm', hheap, hsz', hrel⟩
            · rw [h0] at hlr; simp at hlr; omega
            · have hm2 : μ id = some (rb, base) := hm
              have hm3 : μ id = some (rb', base') := hm'
              rw [hm2] at hm3
              cases hm3
              have hri : rows[off + i]? = some (rows[off + i]'(by omega)) := List.getElem?_eq_getElem (by omega)
              have hrj := hrl _ (List.getElem_mem (by omega : off + i < rows.length))
              obtain ⟨u, hu, h1u, hv⟩ := hrel (off + i) j _ ((rows[off + i]'(by omega))[j]'(by omega)) hri (List.getElem?_eq_getElem (by omega))
              have hheap' : w.heap[rb]? = some (.cells c' t (0, 0)) := hheap
              refine ⟨u, ?_, h1u, fun r g hr hg => ?_⟩
              · rw [Nat.add_mul] at hu
                simp only [World.cell?, hheap']
                rw [show base + off * e' + (i * e' + j) = base + (off * e' + i * e' + j) by omega]
                simpa using hu
              · rw [hget i hi] at hr
                rw [hri] at hr
                cases hr
                rw [List.getElem?_eq_getElem (by omega)] at hg
                cases hg
                exact hv
    · exact hk.elim
  · exact hk.elim

/-- append: the slice's block ends with the slice, and comes to bear a new name. -/
def gapp (P : Program) (t : TypeId) (s x : GV) (h : GH) (k : GV → GH → Prop) (_p : Ph k := ()) : Prop :=
  match elq P t with
  | some (e, sz) => match tyq P e with
    | some q => gassert (0 < q.size) (rowsOf h sz x fun news => match s with
      | .esl => gassert (news.length * q.bytes ≤ 140737488355328 ∧ news.length ≤ 9223372036854775807) (k (.msl h.next sz 0 news.length) (h.new (.cells e sz news)))
      | .msl id e1 off len => match h.get id with
        | some (.cells e' e2 rows) => gassert (e1 = sz ∧ e2 = sz ∧ e' = e ∧ off + len = rows.length ∧ (len + news.length) * q.bytes ≤ 140737488355328 ∧ len + news.length ≤ 9223372036854775807)
            (k (.msl h.next sz 0 (len + news.length)) ((h.del id).new (.cells e sz (rows.drop off ++ news))))
        | _ => False
      | _ => False)
    | none => False
  | none => False

theorem evolve_del (S : Sh) (id : Nat) : Evolve S ⟨S.w, S.h.del id, S.μ⟩ where
  os := rfl
  tape := rfl
  output := rfl
  size := Nat.le_refl _
  keep := fun _ _ _ => rfl
  own := fun b _ ⟨i, o, hg, hm⟩ => by
    simp only [GH.del] at hg
    by_cases h : i = id
    · rw [if_pos h] at hg; exact absurd rfl hg
    · rw [if_neg h] at hg; exact ⟨i, o, hg, hm⟩
  cells := fun b c t fr h => ⟨c, fr, h, rfl⟩
  next := Nat.le_refl _
  old := fun i _ hg => by
    simp only [GH.del] at hg
    by_cases h : i = id
    · rw [if_pos h] at hg; exact absurd rfl hg
    · rw [if_neg h] at hg; exact ⟨hg, rfl⟩
  rows := fun i t esz rows hg => by
    by_cases h : i = id
    · exact .inl (by simp only [GH.del, if_pos h])
    · exact .inr ⟨rows, by simp only [GH.del, if_neg h]; exact hg, rfl⟩
  maps := fun i es hg => by
    by_cases h : i = id
    · exact .inl (by simp only [GH.del, if_pos h])
    · exact .inr ⟨es, by simp only [GH.del, if_neg h]; exact hg⟩

theorem sim_del {S : Sh} (hs : Sim S) (id : Nat) : Sim ⟨S.w, S.h.del id, S.μ⟩ where
  next := fun i hg => by
    simp only [GH.del] at hg
    by_cases h : i = id
    · rw [if_pos h] at hg; exact absurd rfl hg
    · rw [if_neg h] at hg; exact hs.next i hg
  inj := fun i i' b o o' hg hg' hm hm' => by
    simp only [GH.del] at hg hg'
    by_cases h : i = id
    · rw [if_pos h] at hg; exact absurd rfl hg
    · by_cases h' : i' = id
      · rw [if_pos h'] at hg'; exact absurd rfl hg'
      · rw [if_neg h] at hg
        rw [if_neg h'] at hg'
        exact hs.inj i i' b o o' hg hg' hm hm'
  cells := fun i t esz rows hg => by
    by_cases h : i = id
    · simp only [GH.del, if_pos h] at hg; cases hg
    · simp only [GH.del, if_neg h] at hg
      obtain ⟨h1, h2⟩ := hs.cells i t esz rows hg
      refine ⟨h1, ?_⟩
      rcases h2 with h2 | ⟨rb, base, c, h3, h4, h5, h6⟩
      · exact .inl h2
      · refine .inr ⟨rb, base, c, h3, h4, h5, fun a j r g hr hgj => ?_⟩
        obtain ⟨u, hu, h1u, hv⟩ := h6 a j r g hr hgj
        exact ⟨u, hu, h1u, hv.mono hs.next (evolve_del S id)⟩
  maps := fun i es hg => by
    by_cases h : i = id
    · simp only [GH.del, if_pos h] at hg; cases hg
    · simp only [GH.del, if_neg h] at hg
      obtain ⟨rb, ms, clock, h1, h2, h3, h4, h5, h6⟩ := hs.maps i es hg
      refine ⟨rb, ms, clock, h1, h2, h3, h4, h5, fun a k g hi => ?_⟩
      obtain ⟨e, he, hk, hv⟩ := h6 a k g hi
      exact ⟨e, he, hk, hv.mono hs.next (evolve_del S id)⟩

/-- A draw of the tape turns nothing that anybody looks at. -/
theorem evolve_drew (S : Sh) : Evolve S ⟨S.w.drew, S.h, S.μ⟩ :=
  ⟨rfl, rfl, rfl, Nat.le_refl _, fun _ _ _ => rfl, fun _ _ h => h, fun _ c _ fr h => ⟨c, fr, h, rfl⟩, Nat.le_refl _, fun _ _ h => ⟨h, rfl⟩, fun _ _ _ rows h => .inr ⟨rows, h, rfl⟩, fun _ es h => .inr ⟨es, h⟩⟩
theorem sim_drew {S : Sh} (hs : Sim S) : Sim ⟨S.w.drew, S.h, S.μ⟩ := hs.of_evolve (evolve_drew S) rfl rfl fun _ _ => rfl

theorem Shows.mono {S S' : Sh} (hn : ∀ id, S.h.get id ≠ none → id < S.h.next) (E : Evolve S S') (hw : S'.w = S.w) {esz : Nat} {rows : List (List GV)} {x : Value} (h : Shows S esz rows x) : Shows S' esz rows x := by
  obtain ⟨a, cap, us, h1, h2, h3, h4, h5, h6⟩ := h
  refine ⟨a, cap, us, h1, h2, h3, h4, ?_, fun i j r g hr hg => ?_⟩
  · rcases h5 with h5 | ⟨b, o, ha, hc⟩
    · exact .inl h5
    · exact .inr ⟨b, o, ha, by rw [hw]; exact hc⟩
  · obtain ⟨u, hu, hv⟩ := h6 i j r g hr hg
    exact ⟨u, hu, hv.mono hn E⟩

theorem mem_zeroCells (z : Array Value) (n : Nat) : (Builtin.zeroCells z n).size = n * z.size := by simp [Builtin.zeroCells]

/-- append to what has no room at all. -/
theorem app_zero {P : Program} {t ty e : TypeId} {sz : Nat} {q : TyQ} (he : elq P t = some (e, sz)) (hq : tyq P e = some q) (hpos : 0 < q.size) {S : Sh} (hs : Sim S) {news : List (List GV)} {xv : Value} (hx : Shows S sz news xv)
    (hb : news.length * q.bytes ≤ 140737488355328) (h63 : news.length ≤ 9223372036854775807) (a : Option Addr) :
    RunsTo P S (Builtin.append_ #[t, t] ty #[.slice a 0 0, xv]) (.msl S.h.next sz 0 news.length) (S.h.new (.cells e sz news)) := by
  obtain ⟨i, hu, hi, hsz⟩ := elq_some he
  obtain ⟨i', d, z, hi', hd, hz, hzs, hz1, hqe⟩ := tyq_some hq
  have hii : i' = i := by rw [hi] at hi'; cases hi'; rfl
  subst hii
  have hqs : q.size = sz := by rw [hqe]; exact hsz
  have hqb : q.bytes = i'.bytes := by rw [hqe]
  obtain ⟨ax, cx, us, rfl, hul, hone, hrl, hcase, hrel⟩ := hx
  have hl : us.length = news.length * i'.size := by rw [hul, hsz]
  by_cases hn : news = []
  · subst hn
    simp only [List.length_nil, Nat.zero_mul] at hul
    have hus : us = [] := List.eq_nil_of_length_eq_zero hul
    refine ⟨.slice a 0 0, S.w, mset S.μ S.h.next none, ?_, ?_, ?_, ?_⟩
    · have hf : (Builtin.firstCells i'.size 0 (.slice ax 0 cx)).run P S.w = .ok #[] S.w := by
        cases ax <;> simp [Builtin.firstCells, loadCells, loadCellsFrom]
      cases a <;> simp [Builtin.append_, run_underlying hu, run_sizeOf' hi, Builtin.lenOf, hf, storeCells]
    · exact sim_new_cells hs (h1 := S.h) (fun _ _ => rfl) rfl (evolve_new S hs _ none S.w.heap.size (fun b o h => by cases h) S.w rfl (Evolve.refl S)) (fun b hb => rfl) (by simp) (fun b o h => by cases h) (.inl ⟨rfl, rfl⟩)
    · exact evolve_new S hs _ none S.w.heap.size (fun b o h => by cases h) S.w rfl (Evolve.refl S)
    · exact .msl (t := e) (rows := []) new_get_same (by simp) (.inl ⟨rfl, rfl⟩)
  · obtain ⟨b, o, rfl, hcell⟩ := hcase.resolve_left hn
    have hpos' : 0 < news.length := List.length_pos_iff.2 hn
    have hnews : ∀ j v, us[j]? = some v → S.w.cell? ((⟨b, o, none⟩ : Addr).add j) = some v := fun j v h => by rw [addr_add]; exact hcell j v h
    -- the run
    have hrun : ∃ cap, news.length ≤ cap ∧ (Builtin.append_ #[t, t] ty #[.slice a 0 0, .slice (some ⟨b, o, none⟩) news.length cx]).run P S.w =
        .ok (.slice (some ⟨S.w.heap.size, 0, none⟩) news.length cap) (S.w.drew.alloc (.cells (us.toArray ++ Builtin.zeroCells z.cells (cap - news.length)) e)) := by
      refine ⟨grownCap S.w news.length 0 e, grownCap_ge _ _ _ _, ?_⟩
      cases a with
      | none =>
        exact run_append_nil (P := P) S.w t ty e i' z hu hi hz ⟨b, o, none⟩ news.length cx us hl hnews hpos' (by omega) (by rw [← hqb]; omega)
      | some ad =>
        have hfit := growslice_fits (need := news.length) (old := 0) (bytes := i'.bytes) hpos' (by rw [← hqb]; exact hb)
        have := run_append_grow (P := P) S.w t ty e i' z hu hi hz ad 0 0 [] (by simp) (fun j v h => by simp at h) ⟨b, o, none⟩ news.length cx us hl hnews (by omega) (by omega) (by rw [Nat.zero_add]; exact hfit)
        simpa using this
    obtain ⟨cap, hcap, hrun⟩ := hrun
    have hal := alloc_cells (sim_drew hs) e (us.toArray ++ Builtin.zeroCells z.cells (cap - news.length)) sz news hrl (by simp [hul]) (fun i j r g hr hg => by
      obtain ⟨u, hu, hv⟩ := hrel i j r g hr hg
      have hlt := (List.getElem?_eq_some_iff.1 hu).1
      exact ⟨u, by rw [Array.getElem?_append_left (by simpa using hlt)]; simpa using hu, hone u (List.mem_of_getElem? hu), hv.mono hs.next (evolve_drew S)⟩)
    refine ⟨_, _, _, hrun, hal.1, (evolve_drew S).trans hs.next hal.2, ?_⟩
    refine new_msl (S := ⟨S.w.drew, S.h, S.μ⟩) (b := S.w.heap.size) (c := us.toArray ++ Builtin.zeroCells z.cells (cap - news.length)) rfl hcap (by exact Array.getElem?_push_size) ?_
    simp only [Array.size_append, List.size_toArray, hul, mem_zeroCells, hzs, hsz]
    rw [← Nat.add_mul]
    exact Nat.mul_le_mul_right _ (by omega)

/-- append in place: the slice ends its ghost block, and the block of the world has room. -/
theorem app_room {P : Program} {t ty e : TypeId} {sz : Nat} (he : elq P t = some (e, sz)) {S : Sh} (hs : Sim S) {news rows : List (List GV)} {xv : Value} (hx : Shows S sz news xv)
    {id off len cap rb base : Nat} {c : Array Value} (hg : S.h.get id = some (.cells e sz rows)) (hm : S.μ id = some (rb, base)) (hheap : S.w.heap[rb]? = some (.cells c e (0, 0)))
    (hend : off + len = rows.length) (hroom : len + news.length ≤ cap) (hsz : base + (off + cap) * sz ≤ c.size) :
    RunsTo P S (Builtin.append_ #[t, t] ty #[.slice (some ⟨rb, base + off * sz, none⟩) len cap, xv]) (.msl S.h.next sz 0 (len + news.length)) ((S.h.del id).new (.cells e sz (rows.drop off ++ news))) := by
  obtain ⟨i', hu, hi, hsz'⟩ := elq_some he
  obtain ⟨ax, cx, us, rfl, hul, hone, hrl, hcase, hrel⟩ := hx
  obtain ⟨hrows, hcase2⟩ := hs.cells id e sz rows hg
  have hold : rows = [] ∨ ∀ (i j : Nat) (r : List GV) (g : GV), rows[i]? = some r → r[j]? = some g → ∃ u : Value, c[base + (i * sz + j)]? = some u ∧ one u = true ∧ VRel S g u := by
    rcases hcase2 with h | ⟨rb', base', c', h3, h4, h5, h6⟩
    · exact .inl h.1
    · rw [hm] at h3; cases h3
      rw [hheap] at h4; cases h4
      exact .inr h6
  have hul' : us.length = news.length * i'.size := by rw [hul, hsz']
  have hfit : base + (off + len) * sz + us.length ≤ c.size := by
    have : (off + (len + news.length)) * sz ≤ (off + cap) * sz := Nat.mul_le_mul_right _ (by omega)
    rw [← Nat.add_assoc, Nat.add_mul] at this
    omega
  have hfit' : base + (off + len) * sz + us.length ≤ c.toList.length := by simpa using hfit
  have hst := run_storeCells_at P rb (base + (off + len) * sz) e us 0 c S.w hheap (by simpa using hfit) (fun u hu => by rw [← one_eq]; exact hone u hu)
  simp only [Nat.add_zero] at hst
  have hf : (Builtin.firstCells i'.size news.length (.slice ax news.length cx)).run P S.w = .ok us.toArray S.w := by
    rcases hcase with h | ⟨b, o, rfl, hc⟩
    · subst h
      simp only [List.length_nil, Nat.zero_mul] at hul
      have hus : us = [] := List.eq_nil_of_length_eq_zero hul
      subst hus
      cases ax <;> simp [Builtin.firstCells, loadCells, loadCellsFrom]
    · exact run_firstCells_some (P := P) S.w i'.size news.length ⟨b, o, none⟩ news.length cx us hul' (fun j v h => by rw [addr_add]; exact hc j v h)
  have hseg := seg_length c.toList us (base + (off + len) * sz) hfit'
  have hcs : (c.toList.take (base + (off + len) * sz) ++ us ++ c.toList.drop (base + (off + len) * sz + us.length)).toArray.size = c.size := by simpa using hseg
  have hidne : id ≠ S.h.next := Nat.ne_of_lt (hs.next id (by rw [hg]; simp))
  have dget : ∀ i, i ≠ S.h.next → i ≠ id → ((S.h.del id).new (.cells e sz (rows.drop off ++ news))).get i = S.h.get i := fun i h1 h2 => by
    rw [new_get_ne (by exact h1)]; simp only [GH.del, if_neg h2]
  have dgetid : ((S.h.del id).new (.cells e sz (rows.drop off ++ news))).get id = none := by
    rw [new_get_ne (by exact hidne)]; simp only [GH.del, if_true]
  have E : Evolve S ⟨S.w.setRow rb (c.toList.take (base + (off + len) * sz) ++ us ++ c.toList.drop (base + (off + len) * sz + us.length)).toArray,
      (S.h.del id).new (.cells e sz (rows.drop off ++ news)), mset S.μ S.h.next (some (rb, base + off * sz))⟩ := {
    os := rfl
    tape := rfl
    output := rfl
    size := by simp
    keep := fun b hb ho => setRow_other _ _ _ _ (fun e => ho ⟨id, base, by rw [hg]; simp, by rw [e]; exact hm⟩)
    own := fun b hb ⟨i, o, hg', hm'⟩ => by
      simp only [mset] at hm'
      by_cases hi : i = S.h.next
      · rw [if_pos hi] at hm'
        cases hm'
        exact ⟨id, base, by rw [hg]; simp, hm⟩
      · rw [if_neg hi] at hm'
        by_cases hid : i = id
        · exact ⟨id, o, by rw [hg]; simp, by rw [← hid]; exact hm'⟩
        · have hg'' : ((S.h.del id).new (.cells e sz (rows.drop off ++ news))).get i ≠ none := hg'
          rw [dget i hi hid] at hg''
          exact ⟨i, o, hg'', hm'⟩
    cells := fun b cc tt fr hb => by
      by_cases eb : b = rb
      · subst eb
        rw [hheap] at hb
        cases hb
        exact ⟨_, (0, 0), setRow_heap _ _ _ _ _ _ hheap, hcs⟩
      · exact ⟨cc, fr, by rw [setRow_other _ _ _ _ eb]; exact hb, rfl⟩
    next := Nat.le_succ _
    old := fun i hi hg' => by
      have hne : i ≠ S.h.next := Nat.ne_of_lt hi
      have hg'' : ((S.h.del id).new (.cells e sz (rows.drop off ++ news))).get i ≠ none := hg'
      by_cases hid : i = id
      · rw [hid, dgetid] at hg''; exact absurd rfl hg''
      · rw [dget i hne hid] at hg''
        exact ⟨hg'', by simp only [mset, if_neg hne]⟩
    rows := fun i t' e' r' hg' => by
      have hne : i ≠ S.h.next := Nat.ne_of_lt (hs.next i (by rw [hg']; simp))
      by_cases hid : i = id
      · exact .inl (by rw [hid]; exact dgetid)
      · exact .inr ⟨r', by rw [dget i hne hid]; exact hg', rfl⟩
    maps := fun i es hg' => by
      have hne : i ≠ S.h.next := Nat.ne_of_lt (hs.next i (by rw [hg']; simp))
      by_cases hid : i = id
      · exact .inl (by rw [hid]; exact dgetid)
      · exact .inr ⟨es, by rw [dget i hne hid]; exact hg'⟩ }
  have hdl : (rows.drop off).length = len := by simp; omega
  refine ⟨.slice (some ⟨rb, base + off * sz, none⟩) (len + news.length) cap, _, _, ?_, ?_, E, ?_⟩
  · have hadd : base + off * sz + len * i'.size = base + (off + len) * sz := by rw [hsz', Nat.add_mul]; omega
    simp [Builtin.append_, run_underlying hu, run_sizeOf' hi, Builtin.lenOf, hroom, hf, addr_add, hadd, hst]
  · refine sim_new_cells hs (h1 := S.h.del id) (fun i hi => ?_) rfl E (fun b ⟨i, o, hgi, hmi⟩ => ?_) (fun r hr => ?_) (fun b o hp ⟨i, o', hgi, hmi⟩ => ?_) (.inr ⟨rb, base + off * sz, _, rfl, setRow_heap _ _ _ _ _ _ hheap, ?_, fun i j r g hr hg' => ?_⟩)
    · simp only [GH.del] at hi ⊢
      by_cases hid : i = id
      · rw [if_pos hid] at hi; exact absurd rfl hi
      · rw [if_neg hid]
    · have hgi' : (S.h.del id).get i ≠ none := hgi
      simp only [GH.del] at hgi'
      by_cases hid : i = id
      · rw [if_pos hid] at hgi'; exact absurd rfl hgi'
      · rw [if_neg hid] at hgi'
        exact setRow_other _ _ _ _ (fun eb => hid (hs.inj i id b o base hgi' (by rw [hg]; simp) hmi (eb ▸ hm)))
    · rcases List.mem_append.1 hr with h | h
      · exact hrows r (List.mem_of_mem_drop h)
      · exact hrl r h
    · cases hp
      have hgi' : (S.h.del id).get i ≠ none := hgi
      simp only [GH.del] at hgi'
      by_cases hid : i = id
      · rw [if_pos hid] at hgi'; exact absurd rfl hgi'
      · rw [if_neg hid] at hgi'
        exact hid (hs.inj i id rb o' base hgi' (by rw [hg]; simp) hmi hm)
    · rw [hcs, List.length_append, hdl]
      have : (off + (len + news.length)) * sz ≤ (off + cap) * sz := Nat.mul_le_mul_right _ (by omega)
      rw [Nat.add_mul] at this
      omega
    · have hj : j < sz := by
        have hl : r.length = sz := by
          rcases List.mem_append.1 (List.mem_of_getElem? hr) with h | h
          · exact hrows r (List.mem_of_mem_drop h)
          · exact hrl r h
        rw [← hl]; exact (List.getElem?_eq_some_iff.1 hg').1
      simp only [List.getElem?_toArray]
      rw [seg_get _ _ _ hfit']
      by_cases hil : i < len
      · rw [List.getElem?_append_left (by omega), List.getElem?_drop] at hr
        have hnin : ¬ (base + (off + len) * sz ≤ base + off * sz + (i * sz + j) ∧ base + off * sz + (i * sz + j) < base + (off + len) * sz + us.length) := by
          have : (i + 1) * sz ≤ len * sz := Nat.mul_le_mul_right _ hil
          rw [Nat.add_mul, Nat.one_mul] at this
          rw [Nat.add_mul]
          omega
        rw [if_neg hnin]
        rcases hold with h | h
        · rw [h] at hr; simp at hr
        · obtain ⟨u, hu, h1u, hv⟩ := h (off + i) j r g hr hg'
          refine ⟨u, ?_, h1u, hv⟩
          rw [Nat.add_mul] at hu
          rw [show base + off * sz + (i * sz + j) = base + (off * sz + i * sz + j) by omega]
          simpa using hu
      · rw [List.getElem?_append_right (by omega), hdl] at hr
        obtain ⟨u, hu, hv⟩ := hrel (i - len) j r g hr hg'
        have hlt := (List.getElem?_eq_some_iff.1 hu).1
        have hmul : i * sz = (i - len) * sz + len * sz := by rw [← Nat.add_mul]; congr 1; omega
        rw [if_pos (by rw [Nat.add_mul]; omega)]
        refine ⟨u, ?_, hone u (List.mem_of_getElem? hu), hv⟩
        rw [show base + off * sz + (i * sz + j) - (base + (off + len) * sz) = (i - len) * sz + j by rw [Nat.add_mul]; omega]
        exact hu
  · refine .msl (t := e) (rows := rows.drop off ++ news) new_get_same (by simp; omega) (.inr ⟨hroom, rb, base + off * sz, _, (0, 0), by simp [mset], by simp, setRow_heap _ _ _ _ _ _ hheap, ?_⟩)
    rw [hcs, Nat.zero_add]
    rw [Nat.add_mul] at hsz
    omega

/-- append that makes a new row: the old one is read once more. -/
theorem app_grow {P : Program} {t ty e : TypeId} {sz : Nat} {q : TyQ} (he : elq P t = some (e, sz)) (hq : tyq P e = some q) {S : Sh} (hs : Sim S) {olds news : List (List GV)} {xv : Value} (hx : Shows S sz news xv)
    {b o len cap : Nat} (hold : Shows S sz olds (.slice (some ⟨b, o, none⟩) len cap)) (hlen : olds.length = len) (hle : len ≤ cap) (hgrow : cap < len + news.length) (id : Nat)
    (hb : (len + news.length) * q.bytes ≤ 140737488355328) (h63 : len + news.length ≤ 9223372036854775807) :
    RunsTo P S (Builtin.append_ #[t, t] ty #[.slice (some ⟨b, o, none⟩) len cap, xv]) (.msl S.h.next sz 0 (len + news.length)) ((S.h.del id).new (.cells e sz (olds ++ news))) := by
  obtain ⟨i, hu, hi, hsz⟩ := elq_some he
  obtain ⟨i', d, z, hi', hd, hz, hzs, hz1, hqe⟩ := tyq_some hq
  have hii : i' = i := by rw [hi] at hi'; cases hi'; rfl
  subst hii
  have hqs : q.size = sz := by rw [hqe]; exact hsz
  have hqb : q.bytes = i'.bytes := by rw [hqe]
  obtain ⟨ax, cx, us, rfl, hul, hone, hrl, hcase, hrel⟩ := hx
  obtain ⟨a0, cap0, os, he0, hol, oone, orl, ocase, orel⟩ := hold
  simp only [Value.slice.injEq] at he0
  obtain ⟨rfl, hl0, rfl⟩ := he0
  have hn : news ≠ [] := fun h => by rw [h] at hgrow; simp at hgrow; omega
  obtain ⟨b', o', rfl, hcell⟩ := hcase.resolve_left hn
  have hnews : ∀ j v, us[j]? = some v → S.w.cell? ((⟨b', o', none⟩ : Addr).add j) = some v := fun j v h => by rw [addr_add]; exact hcell j v h
  have hos : ∀ j v, os[j]? = some v → S.w.cell? ((⟨b, o, none⟩ : Addr).add j) = some v := fun j v h => by
    rcases ocase with h0 | ⟨b2, o2, hb2, hc2⟩
    · rw [h0] at hol; simp at hol; rw [hol] at h; simp at h
    · cases hb2; rw [addr_add]; exact hc2 j v h
  have hol' : os.length = len * i'.size := by rw [hol, hsz, hlen]
  have hfit := growslice_fits (need := len + news.length) (old := cap) (bytes := i'.bytes) hgrow (by rw [← hqb]; exact hb)
  have hrun := run_append_grow (P := P) S.w t ty e i' z hu hi hz ⟨b, o, none⟩ len cap os hol' hos ⟨b', o', none⟩ news.length cx us (by rw [hul, hsz]) hnews hgrow (by omega) hfit
  have hcapge := grownCap_ge S.w (len + news.length) cap e
  generalize grownCap S.w (len + news.length) cap e = nc at hrun hcapge
  have hs1 := sim_del (sim_drew hs) id
  have E1 : Evolve S ⟨S.w.drew, S.h.del id, S.μ⟩ := (evolve_drew S).trans hs.next (evolve_del ⟨S.w.drew, S.h, S.μ⟩ id)
  have hal := alloc_cells hs1 e (os.toArray ++ us.toArray ++ Builtin.zeroCells z.cells (nc - (len + news.length))) sz (olds ++ news)
    (fun r hr => by
      rcases List.mem_append.1 hr with h | h
      · exact orl r h
      · exact hrl r h)
    (by simp only [Array.size_append, List.size_toArray, List.length_append, hul, hol, hlen]; rw [Nat.add_mul]; omega)
    (fun i j r g hr hg => by
      by_cases hil : i < olds.length
      · rw [List.getElem?_append_left hil] at hr
        obtain ⟨u, hu, hv⟩ := orel i j r g hr hg
        have hlt := (List.getElem?_eq_some_iff.1 hu).1
        exact ⟨u, by rw [Array.getElem?_append_left (by simp; omega), Array.getElem?_append_left (by simpa using hlt)]; simpa using hu, oone u (List.mem_of_getElem? hu), hv.mono hs.next E1⟩
      · rw [List.getElem?_append_right (by omega)] at hr
        obtain ⟨u, hu, hv⟩ := hrel (i - olds.length) j r g hr hg
        have hlt := (List.getElem?_eq_some_iff.1 hu).1
        have hmul : i * sz = (i - olds.length) * sz + olds.length * sz := by rw [← Nat.add_mul]; congr 1; omega
        have hsub : i * sz + j - os.length = (i - olds.length) * sz + j := by rw [hol]; omega
        refine ⟨u, ?_, hone u (List.mem_of_getElem? hu), hv.mono hs.next E1⟩
        rw [Array.getElem?_append_left (by simp only [Array.size_append, List.size_toArray]; omega), Array.getElem?_append_right (by simp only [List.size_toArray]; omega)]
        simp only [List.size_toArray, hsub]
        simpa using hu)
  refine ⟨_, _, _, hrun, hal.1, E1.trans hs.next hal.2, ?_⟩
  refine new_msl (S := ⟨S.w.drew, S.h.del id, S.μ⟩) (b := S.w.heap.size) (c := os.toArray ++ us.toArray ++ Builtin.zeroCells z.cells (nc - (len + news.length))) (by simp [hlen]) hcapge (by exact Array.getElem?_push_size) ?_
  simp only [Array.size_append, List.size_toArray, hul, hol, mem_zeroCells, hzs, hsz, hlen]
  rw [← Nat.add_mul, ← Nat.add_mul]
  exact Nat.mul_le_mul_right _ (by omega)

theorem gapp_sound {P : Program} {t ty : TypeId} {s x : GV} {h : GH} {k : GV → GH → Prop} (hk : gapp P t s x h k) :
    ∃ v h', k v h' ∧ ∀ (w : World) (μ) (sv xv : Value), Sim ⟨w, h, μ⟩ → VRel ⟨w, h, μ⟩ s sv → VRel ⟨w, h, μ⟩ x xv → RunsTo P ⟨w, h, μ⟩ (Builtin.append_ #[t, t] ty #[sv, xv]) v h' := by
  unfold gapp at hk
  split at hk
  · rename_i e sz he
    split at hk
    · rename_i q hq
      obtain ⟨hpos, hk⟩ := hk
      obtain ⟨news, hk, hnews⟩ := rowsOf_sound hk
      split at hk
      · obtain ⟨⟨hb, h63⟩, hk⟩ := hk
        refine ⟨_, _, hk, fun w μ sv xv hs hsv hxv => ?_⟩
        cases hsv with
        | esl a => exact app_zero he hq hpos hs (hnews w μ xv hs hxv) hb h63 a
      · rename_i bid e1 off len _
        split at hk
        · rename_i e' e2 rows hg
          obtain ⟨⟨rfl, rfl, rfl, hend, hb, h63⟩, hk⟩ := hk
          refine ⟨_, _, hk, fun w μ sv xv hs hsv hxv => ?_⟩
          have hx := hnews w μ xv hs hxv
          cases hsv with
          | mslOld hg' => exact absurd (hg.symm.trans hg') (by simp)
          | @msl _ _ _ _ t' rows' a cap hg' hlr hr =>
            have hg'' := hg.symm.trans hg'
            simp only [Option.some.injEq, GBlk.cells.injEq] at hg''
            obtain ⟨rfl, _, rfl⟩ := hg''
            rcases hr with ⟨h0, h0'⟩ | ⟨hle, rb, base, c, fr, hm, ha, hc, hsz⟩
            · subst h0
              subst h0'
              have hd : rows.drop off = [] := List.drop_of_length_le (by omega)
              have hx1 : Shows ⟨w, h.del bid, μ⟩ e2 news xv := hx.mono hs.next (evolve_del ⟨w, h, μ⟩ bid) rfl
              obtain ⟨r, w', μ', h1, h2, h3, h4⟩ := app_zero (ty := ty) he hq hpos (sim_del hs bid) hx1 (by simpa using hb) (by simpa using h63) a
              rw [hd, Nat.zero_add, List.nil_append]
              exact ⟨r, w', μ', h1, h2, (evolve_del ⟨w, h, μ⟩ bid).trans hs.next h3, h4⟩
            · subst ha
              obtain ⟨hrows, hcase2⟩ := hs.cells bid e' e2 rows hg
              rcases hcase2 with ⟨h1, h2⟩ | ⟨rb', base', c', h3, h4, h5, h6⟩
              · have hm' : μ bid = some (rb, base) := hm
                have h2' : μ bid = none := h2
                rw [hm'] at h2'; cases h2'
              · have hm' : μ bid = some (rb, base) := hm
                have h3' : μ bid = some (rb', base') := h3
                rw [hm'] at h3'; cases h3'
                have hc' : w.heap[rb]? = some (.cells c e' fr) := hc
                have h4' : w.heap[rb]? = some (.cells c' e' (0, 0)) := h4
                rw [hc'] at h4'; cases h4'
                by_cases hroom : len + news.length ≤ cap
                · exact app_room he hs hx hg hm hc hend hroom hsz
                · have hold := (rowsOf_sound (h := h) (esz := e2) (x := .msl bid e2 off len) (k := fun r => r = rows.drop off) (by
                    unfold rowsOf
                    simp only [hg]
                    exact ⟨⟨trivial, trivial, by omega⟩, by rw [List.take_of_length_le (by simp; omega)]⟩))
                  obtain ⟨_, rfl, hsh⟩ := hold
                  have hsh' := hsh w μ _ hs (.msl hg (by omega) (.inr ⟨hle, rb, base, c, (0, 0), hm, rfl, hc, hsz⟩))
                  exact app_grow he hq hs hx hsh' (by simp; omega) hle (by omega) bid hb h63
        · exact hk.elim
      · exact hk.elim
    · exact hk.elim
  · exact hk.elim
end Gx
