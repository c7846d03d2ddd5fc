/- Struct literals, slice literals, make and append over ghost heaps. -/
import Derived.Test.YtbibihbkkflidaaGxMem
import Derived.Laws.MakeOwn
set_option linter.unusedSimpArgs false
set_option linter.unusedVariables false
namespace Gx
open Go

/-! ### struct and array literals -/
def plq (P : Program) (t : TypeId) : Option (List (Nat × Nat)) :=
  match P.underlying t with
  | some (.struct fs) => fs.toList.mapM fun f => (P.info? f.type).map fun i => (f.offset, i.size)
  | some (.array n e) => (P.info? e).map fun i => (List.range n).map fun j => (j * i.size, i.size)
  | _ => none

def gfill (places : List (Nat × Nat)) : List GV → List (Nat × GV) → Option (List GV)
  | ls, [] => some ls
  | ls, (i, g) :: r => match places[i]? with
    | some (off, sz) => if g.boxed = true ∧ g.leaves.length = sz ∧ off + sz ≤ ls.length then gfill places (spl ls off g.leaves) r else none
    | none => none

def gbuild (P : Program) (t : TypeId) (parts : List (Nat × GV)) (k : GV → Prop) (_p : Ph k := ()) : Prop :=
  match tyq P t, plq P t with
  | some q, some places => match gfill places q.zero parts with
    | some ls => k (.agg ls)
    | none => False
  | _, _ => False

/-- Cells that stand for leaves. -/
def CRel (S : Sh) (ls : List GV) (cs : Array Value) : Prop :=
  cs.size = ls.length ∧ (∀ (i : Nat) (g : GV) (x : Value), ls[i]? = some g → cs[i]? = some x → VRel S g x) ∧ ∀ (i : Nat) (x : Value), cs[i]? = some x → one x = true

theorem fold_set (off : Nat) : ∀ (vs : List Value) (j0 : Nat) (cs : Array Value), off + j0 + vs.length ≤ cs.size →
    ((vs.zipIdx j0).foldl (fun cs (x : Value × Nat) => cs.setIfInBounds (off + x.2) x.1) cs).size = cs.size ∧
    ∀ k, ((vs.zipIdx j0).foldl (fun cs (x : Value × Nat) => cs.setIfInBounds (off + x.2) x.1) cs)[k]? = if off + j0 ≤ k ∧ k < off + j0 + vs.length then vs[k - (off + j0)]? else cs[k]?
  | [], j0, cs, _ => by
    refine ⟨rfl, fun k => ?_⟩
    rw [if_neg (by simp)]; rfl
  | v :: vs, j0, cs, h => by
    simp only [List.length_cons] at h
    obtain ⟨h1, h2⟩ := fold_set off vs (j0 + 1) (cs.setIfInBounds (off + j0) v) (by simp; omega)
    simp only [List.zipIdx_cons, List.foldl_cons]
    refine ⟨by rw [h1]; simp, fun k => ?_⟩
    rw [h2 k]
    simp only [List.length_cons]
    by_cases hk : off + (j0 + 1) ≤ k ∧ k < off + (j0 + 1) + vs.length
    · rw [if_pos hk, if_pos (by omega)]
      have : k - (off + j0) = (k - (off + (j0 + 1))) + 1 := by omega
      rw [this]; rfl
    · rw [if_neg hk, Array.getElem?_setIfInBounds]
      by_cases e : off + j0 = k
      · subst e
        have hlt : off + j0 < cs.size := by omega
        rw [if_pos rfl, if_pos hlt, if_pos (by omega), Nat.sub_self]; rfl
      · rw [if_neg e, if_neg (by omega)]

theorem fold_set_arr (off : Nat) (vs cs : Array Value) (h : off + vs.size ≤ cs.size) :
    (vs.zipIdx.foldl (fun cs (x : Value × Nat) => cs.setIfInBounds (off + x.2) x.1) cs).size = cs.size ∧
    ∀ k, (vs.zipIdx.foldl (fun cs (x : Value × Nat) => cs.setIfInBounds (off + x.2) x.1) cs)[k]? = if off ≤ k ∧ k < off + vs.size then vs[k - off]? else cs[k]? := by
  have := fold_set off vs.toList 0 cs (by simpa using h)
  rw [← Array.foldl_toList, Array.toList_zipIdx]
  simpa using this

theorem crel_spl {S : Sh} {ls : List GV} {cs : Array Value} (h : CRel S ls cs) {off : Nat} {g : GV} {v : Value} (hv : VRel S g v) (hb : g.boxed = true) (hf : off + g.leaves.length ≤ ls.length) :
    v.cells.size = g.leaves.length ∧ CRel S (spl ls off g.leaves) (v.cells.zipIdx.foldl (fun cs (x : Value × Nat) => cs.setIfInBounds (off + x.2) x.1) cs) := by
  obtain ⟨h1, h2, h3⟩ := h
  obtain ⟨hc1, hc2, hc3⟩ := cells_of_rel hv hb
  obtain ⟨f1, f2⟩ := fold_set_arr off v.cells cs (by omega)
  refine ⟨hc1, by rw [f1, spl_length]; exact h1, fun i l x hl hx => ?_, fun i x hx => ?_⟩
  · rw [spl_get _ _ _ hf] at hl
    rw [f2 i, hc1] at hx
    split at hl
    · rename_i hi; rw [if_pos hi] at hx; exact hc3 _ _ _ hl hx
    · rename_i hi; rw [if_neg hi] at hx; exact h2 _ _ _ hl hx
  · rw [f2 i] at hx
    split at hx
    · exact hc2 x (Array.mem_of_getElem? hx)
    · exact h3 i x hx

/-- Parts as the model has them. -/
def PRel (S : Sh) : List (Nat × GV) → List (Nat × Value) → Prop
  | [], [] => True
  | (i, g) :: r, (j, v) :: s => i = j ∧ VRel S g v ∧ PRel S r s
  | _, _ => False

theorem gfill_sound {S : Sh} {places : List (Nat × Nat)} (pf : Nat → Option (Nat × Nat)) (hp : ∀ i p, places[i]? = some p → pf i = some p) :
    ∀ (parts : List (Nat × GV)) (vs : List (Nat × Value)) (ls : List GV) (cs : Array Value) (out : List GV), PRel S parts vs → CRel S ls cs → gfill places ls parts = some out →
      ∃ cs', Instr.fill pf cs vs = some cs' ∧ CRel S out cs'
  | [], [], ls, cs, out, _, hc, h => by
    simp only [gfill, Option.some.injEq] at h
    subst h
    exact ⟨cs, rfl, hc⟩
  | (i, g) :: r, (j, v) :: s, ls, cs, out, hp', hc, h => by
    obtain ⟨rfl, hv, hr⟩ := hp'
    simp only [gfill] at h
    split at h
    · rename_i off sz hpl
      split at h
      · rename_i hcond
        obtain ⟨hb, hl, hf⟩ := hcond
        obtain ⟨hsz, hc'⟩ := crel_spl hc hv hb (by rw [hl]; exact hf)
        obtain ⟨cs', hfill, hout⟩ := gfill_sound pf hp r s _ _ out hr hc' h
        refine ⟨cs', ?_, hout⟩
        have hcs := hc.1
        simp only [Instr.fill, hp _ _ hpl]
        rw [if_neg (by simp; omega)]
        exact hfill
      · cases h
    · cases h
  | [], _ :: _, _, _, _, hp', _, _ => hp'.elim
  | _ :: _, [], _, _, _, hp', _, _ => hp'.elim

theorem zero_crel {P : Program} {t : TypeId} {q : TyQ} (hq : tyq P t = some q) (S : Sh) : ∃ i z, P.info? t = some i ∧ i.zero = some z ∧ i.size = q.size ∧ i.bytes = q.bytes ∧ CRel S q.zero z.cells ∧ z.cells.size = q.size := by
  obtain ⟨i, d, z, hi, hd, hz, hsz, h1, rfl⟩ := tyq_some hq
  refine ⟨i, z, hi, hz, rfl, rfl, ⟨by simp, fun j g x hg hx => ?_, fun j x hx => h1 x (Array.mem_of_getElem? hx)⟩, hsz⟩
  simp only [List.getElem?_map, Option.map_eq_some_iff, Array.getElem?_toList] at hg
  obtain ⟨u, hu, rfl⟩ := hg
  rw [hx] at hu
  cases hu
  exact leafOf_rel S x

theorem gbuild_sound {P : Program} {t : TypeId} {parts : List (Nat × GV)} {k : GV → Prop} (hk : gbuild P t parts k) :
    ∃ v, k v ∧ ∀ (S : Sh) (vs : Array (Nat × Value)), PRel S parts vs.toList → Runs P S (Instr.build t vs) v := by
  unfold gbuild at hk
  split at hk
  · rename_i q places hq hp
    split at hk
    · rename_i ls hls
      refine ⟨_, hk, fun S vs hv => ?_⟩
      obtain ⟨i, z, hi, hz, hsz, hby, hc, hzs⟩ := zero_crel hq S
      have out : ∀ cs, P.built t vs.toList = some cs → CRel S ls cs → Runs P S (Instr.build t vs) (.agg ls) := fun cs hb hc =>
        ⟨.agg cs, run_build S.w t vs cs hb, .agg hc.1 hc.2.1 hc.2.2⟩
      unfold plq at hp
      split at hp
      · rename_i fs hu
        obtain ⟨cs, hf, hc'⟩ := gfill_sound (S := S) (places := places) (places.toArray[·]?) (fun j p h => by simpa using h) parts vs.toList q.zero z.cells ls hv hc hls
        refine out cs ?_ hc'
        simp only [Program.built, hi, hu, hz, hp]
        exact hf
      · rename_i n e hu
        obtain ⟨ie, hie, he⟩ := Option.map_eq_some_iff.1 hp
        obtain ⟨cs, hf, hc'⟩ := gfill_sound (S := S) (places := places) (fun j => some (j * ie.size, ie.size)) (fun j p h => by
          rw [← he] at h
          simp only [List.getElem?_map, Option.map_eq_some_iff] at h
          obtain ⟨j', hj, rfl⟩ := h
          obtain ⟨_, e⟩ := List.getElem?_eq_some_iff.1 hj
          simp at e
          subst e
          rfl) parts vs.toList q.zero z.cells ls hv hc hls
        refine out cs ?_ hc'
        simp only [Program.built, hi, hu, hz, hie]
        exact hf
      · cases hp
    · exact hk.elim
  · exact hk.elim

/-! ### slice literals -/
def gparts (sz : Nat) : Nat → List (Nat × GV) → Option (List (List GV))
  | _, [] => some []
  | n, (i, g) :: r => if i = n ∧ g.boxed = true ∧ g.leaves.length = sz then (gparts sz (n + 1) r).map (g.leaves :: ·) else none

theorem fill_rows {S : Sh} {sz : Nat} : ∀ (parts : List (Nat × GV)) (vs : List (Nat × Value)) (n : Nat) (rows : List (List GV)) (cs : Array Value), PRel S parts vs → gparts sz n parts = some rows →
    (n + rows.length) * sz ≤ cs.size → (∀ (i : Nat) (x : Value), cs[i]? = some x → one x = true) →
    ∃ cs', Instr.fill (fun i => some (i * sz, sz)) cs vs = some cs' ∧ cs'.size = cs.size ∧ (∀ i, i < n * sz → cs'[i]? = cs[i]?) ∧ (∀ (i : Nat) (x : Value), cs'[i]? = some x → one x = true) ∧
      (∀ r ∈ rows, r.length = sz) ∧
      ∀ (i j : Nat) (r : List GV) (g : GV), rows[i]? = some r → r[j]? = some g → ∃ u : Value, cs'[(n + i) * sz + j]? = some u ∧ VRel S g u
  | [], [], n, rows, cs, _, h, _, h1 => by
    simp only [gparts, Option.some.injEq] at h
    subst h
    exact ⟨cs, rfl, rfl, fun _ _ => rfl, h1, by simp, fun i j r g hr => by simp at hr⟩
  | (i, g) :: r, (j, v) :: s, n, rows, cs, hp, h, hl, h1 => by
    obtain ⟨rfl, hv, hr⟩ := hp
    simp only [gparts] at h
    split at h
    · rename_i hc
      obtain ⟨rfl, hb, hgl⟩ := hc
      obtain ⟨rows', hrows, rfl⟩ := Option.map_eq_some_iff.1 h
      obtain ⟨c1, c2, c3⟩ := cells_of_rel hv hb
      simp only [List.length_cons] at hl
      have hfit : i * sz + v.cells.size ≤ cs.size := by
        have : (i + 1) * sz ≤ (i + (rows'.length + 1)) * sz := Nat.mul_le_mul_right _ (by omega)
        rw [Nat.add_mul, Nat.one_mul] at this
        omega
      obtain ⟨f1, f2⟩ := fold_set_arr (i * sz) v.cells cs hfit
      obtain ⟨cs', e1, e2, e3, e4, e5, e6⟩ := fill_rows r s (i + 1) rows' _ hr hrows (by rw [f1]; rw [show i + 1 + rows'.length = i + (rows'.length + 1) by omega]; exact hl) (fun k x hx => by
        rw [f2 k] at hx
        split at hx
        · exact c2 x (Array.mem_of_getElem? hx)
        · exact h1 k x hx)
      refine ⟨cs', ?_, e2.trans f1, fun k hk => ?_, e4, fun r hr => ?_, fun a b r g' hr hg => ?_⟩
      · simp only [Instr.fill]
        rw [if_neg (by simp; omega)]
        exact e1
      · rw [e3 k (by rw [Nat.add_mul]; omega), f2 k, if_neg (by omega)]
      · rcases List.mem_cons.1 hr with rfl | hr
        · exact hgl
        · exact e5 r hr
      · cases a with
        | zero =>
          simp only [List.getElem?_cons_zero, Option.some.injEq] at hr
          subst hr
          have hb' : b < sz := by rw [← hgl]; exact (List.getElem?_eq_some_iff.1 hg).1
          have hlt : b < v.cells.size := by omega
          refine ⟨v.cells[b], ?_, c3 b g' _ hg (Array.getElem?_eq_getElem hlt)⟩
          rw [Nat.add_zero, e3 _ (by rw [Nat.add_mul]; omega), f2, if_pos (by omega), Nat.add_sub_cancel_left, Array.getElem?_eq_getElem hlt]
        | succ a =>
          simp only [List.getElem?_cons_succ] at hr
          obtain ⟨u, hu, hv⟩ := e6 a b r g' hr hg
          exact ⟨u, by rw [show i + (a + 1) = i + 1 + a by omega]; exact hu, hv⟩
    · cases h
  | [], _ :: _, _, _, _, hp', _, _, _ => hp'.elim
  | _ :: _, [], _, _, _, hp', _, _, _ => hp'.elim

/-- What a slice literal holds. -/
def glit (P : Program) (t : TypeId) (n : Nat) (parts : List (Nat × GV)) (k : TypeId → TyQ → List (List GV) → Prop) (_p : Ph k := ()) : Prop :=
  match elq P t with
  | some (e, sz) => match tyq P e with
    | some q => match gparts sz 0 parts with
      | some rows => gassert (rows.length = n ∧ n * sz ≤ 16777216) (k e q rows)
      | none => False
    | none => False
  | none => False

theorem glit_run {P : Program} {t : TypeId} {n : Nat} {parts : List (Nat × GV)} {k : TypeId → TyQ → List (List GV) → Prop} (hk : glit P t n parts k) :
    ∃ e q rows, k e q rows ∧ rows.length = n ∧ (∀ r ∈ rows, r.length = q.size) ∧ ∀ (S : Sh) (vs : Array (Nat × Value)), PRel S parts vs.toList →
      ∃ cs : Array Value, (Instr.buildSlice t n vs).run P S.w = .ok (.slice (some ⟨S.w.heap.size, 0, none⟩) n n) { S.w with heap := S.w.heap.push (.cells cs e) } ∧ cs.size = n * q.size ∧
        (∀ (i : Nat) (x : Value), cs[i]? = some x → one x = true) ∧
        ∀ (i j : Nat) (r : List GV) (g : GV), rows[i]? = some r → r[j]? = some g → ∃ u : Value, cs[i * q.size + j]? = some u ∧ one u = true ∧ VRel S g u := by
  unfold glit at hk
  split at hk
  · rename_i e sz he
    split at hk
    · rename_i q hq
      split at hk
      · rename_i rows hrows
        obtain ⟨⟨hlen, hbig⟩, hk⟩ := hk
        obtain ⟨i, hu, hi, hsz⟩ := elq_some he
        obtain ⟨i', d, z, hi', hd, hz, hzs, h1, hqe⟩ := tyq_some hq
        have hii : i' = i := by rw [hi] at hi'; cases hi'; rfl
        subst hii
        have hqs : q.size = sz := by rw [hqe]; exact hsz
        have dummy := fill_rows (S := ⟨default, ⟨fun _ => none, 0⟩, fun _ => none⟩) (sz := sz) parts
        refine ⟨e, q, rows, hk, hlen, ?_, fun S vs hv => ?_⟩
        · have : ∀ (ps : List (Nat × GV)) (m : Nat) (rs : List (List GV)), gparts sz m ps = some rs → ∀ r ∈ rs, r.length = sz := by
            intro ps
            induction ps with
            | nil => intro m rs h; simp only [gparts, Option.some.injEq] at h; subst h; simp
            | cons p ps ih =>
              intro m rs h
              obtain ⟨i, g⟩ := p
              simp only [gparts] at h
              split at h
              · rename_i hc
                obtain ⟨rs', hrs, rfl⟩ := Option.map_eq_some_iff.1 h
                intro r hr
                rcases List.mem_cons.1 hr with rfl | hr
                · exact hc.2.2
                · exact ih _ _ hrs r hr
              · cases h
          rw [hqs]
          exact this parts 0 rows hrows
        · have hbase : ∀ (j : Nat) (x : Value), ((Array.range (n * sz)).map ((if n * sz = 0 then #[] else z.cells)[· % (if n * sz = 0 then #[] else z.cells).size]!))[j]? = some x → one x = true := by
            intro j x hx
            simp only [Array.getElem?_map, Option.map_eq_some_iff] at hx
            obtain ⟨j', hj, rfl⟩ := hx
            have hj' : j < n * sz := by
              have := (Array.getElem?_eq_some_iff.1 hj).1; simpa using this
            have hne : n * sz ≠ 0 := by omega
            simp only [if_neg hne]
            have hpos : 0 < z.cells.size := by
              rw [hzs, hsz]; rcases Nat.eq_zero_or_pos sz with h | h
              · rw [h] at hne; simp at hne
              · exact h
            have hlt : j' % z.cells.size < z.cells.size := Nat.mod_lt _ hpos
            rw [getElem!_pos z.cells _ hlt]
            exact h1 _ (Array.getElem_mem hlt)
          obtain ⟨cs, e1, e2, e3, e4, e5, e6⟩ := fill_rows (S := S) (sz := sz) parts vs.toList 0 rows _ hv hrows (by simp [hlen]) hbase
          refine ⟨cs, ?_, by rw [e2]; simp [hqs], e4, fun a b r g hr hg => ?_⟩
          · have hb : ¬ (2 ^ 24 < n * sz) := by omega
            by_cases hz0 : n * sz = 0
            · simp only [hz0, if_true] at e1
              simp [Instr.buildSlice, run_underlying hu, run_sizeOf' hi, hsz, hb, hz0, zeroValue, run_typeInfo hi, hz, newRow, newObj]
              rw [show (Array.map (fun x => (default : Value)) (Array.range 0)) = Array.map (fun x => (#[] : Array Value)[x % (#[] : Array Value).size]!) (Array.range 0) by simp, e1]
              rfl
            · simp only [hz0, if_false] at e1
              simp [Instr.buildSlice, run_underlying hu, run_sizeOf' hi, hsz, hb, hz0, zeroValue, run_typeInfo hi, hz, newRow, newObj]
              rw [e1]
              rfl
          · obtain ⟨u, hu, hv⟩ := e6 a b r g hr hg
            rw [Nat.zero_add] at hu
            exact ⟨u, by rw [hqs]; exact hu, e4 _ u hu, hv⟩
      · exact hk.elim
    · exact hk.elim
  · exact hk.elim

/-- A slice literal as a block of the ghost heap. -/
def glitNew (P : Program) (t : TypeId) (n : Nat) (parts : List (Nat × GV)) (h : GH) (k : GV → GH → Prop) (_p : Ph k := ()) : Prop :=
  glit P t n parts fun e q rows => if n = 0 then k .esl h else k (.msl h.next q.size 0 n) (h.new (.cells e q.size rows))
/-- A slice literal by value. -/
def glitVal (P : Program) (t : TypeId) (n : Nat) (parts : List (Nat × GV)) (k : GV → Prop) (_p : Ph k := ()) : Prop :=
  glit P t n parts fun _ q rows => gassert (rows.all (fun r => r.all GV.idl) = true) (k (.isl q.size rows))

theorem new_msl {S : Sh} {w' : World} {t : TypeId} {esz n cap b : Nat} {rows : List (List GV)} {c : Array Value} (hn : rows.length = n) (hcap : n ≤ cap) (hc : w'.heap[b]? = some (.cells c t (0, 0))) (hsz : cap * esz ≤ c.size) :
    VRel ⟨w', S.h.new (.cells t esz rows), mset S.μ S.h.next (some (b, 0))⟩ (.msl S.h.next esz 0 n) (.slice (some ⟨b, 0, none⟩) n cap) :=
  .msl (t := t) (rows := rows) new_get_same (by omega) (.inr ⟨hcap, b, 0, c, (0, 0), by simp [mset], by simp, hc, by simpa using hsz⟩)

theorem glitNew_sound {P : Program} {t : TypeId} {n : Nat} {parts : List (Nat × GV)} {h : GH} {k : GV → GH → Prop} (hk : glitNew P t n parts h k) :
    ∃ v h', k v h' ∧ ∀ (w : World) (μ) (vs : Array (Nat × Value)), Sim ⟨w, h, μ⟩ → PRel ⟨w, h, μ⟩ parts vs.toList → RunsTo P ⟨w, h, μ⟩ (Instr.buildSlice t n vs) v h' := by
  obtain ⟨e, q, rows, hk, hlen, hrl, hrun⟩ := glit_run hk
  split at hk
  · rename_i h0
    refine ⟨_, _, hk, fun w μ vs hs hv => ?_⟩
    obtain ⟨cs, hr, hsz, h1, hrel⟩ := hrun ⟨w, h, μ⟩ vs hv
    subst h0
    exact ⟨_, _, μ, hr, sim_push ⟨w, h, μ⟩ hs _, evolve_push ⟨w, h, μ⟩ hs _, .esl _⟩
  · refine ⟨_, _, hk, fun w μ vs hs hv => ?_⟩
    obtain ⟨cs, hr, hsz, h1, hrel⟩ := hrun ⟨w, h, μ⟩ vs hv
    have ha := alloc_cells hs e cs q.size rows hrl (by rw [hlen, hsz]; exact Nat.le_refl _) hrel
    refine ⟨_, _, _, hr, ha.1, ha.2, new_msl (S := ⟨w, h, μ⟩) (c := cs) hlen (Nat.le_refl _) (by simp) (by rw [hsz]; exact Nat.le_refl _)⟩

theorem glitVal_sound {P : Program} {t : TypeId} {n : Nat} {parts : List (Nat × GV)} {k : GV → Prop} (hk : glitVal P t n parts k) :
    ∃ v, k v ∧ ∀ (w : World) (h : GH) (μ) (vs : Array (Nat × Value)), Sim ⟨w, h, μ⟩ → PRel ⟨w, h, μ⟩ parts vs.toList → RunsTo P ⟨w, h, μ⟩ (Instr.buildSlice t n vs) v h := by
  obtain ⟨e, q, rows, ⟨hid, hk⟩, hlen, hrl, hrun⟩ := glit_run hk
  refine ⟨_, hk, fun w h μ vs hs hv => ?_⟩
  obtain ⟨cs, hr, hsz, h1, hrel⟩ := hrun ⟨w, h, μ⟩ vs hv
  have E := evolve_push ⟨w, h, μ⟩ hs (.cells cs e)
  refine ⟨_, _, μ, hr, sim_push ⟨w, h, μ⟩ hs _, E, ?_⟩
  have hu : ∀ i j, i < rows.length → j < q.size → ∃ u, cs[i * q.size + j]? = some u ∧ one u = true ∧ ∀ r g, rows[i]? = some r → r[j]? = some g → VRel ⟨w, h, μ⟩ g u := fun i j hi hj => by
    have hri : rows[i]? = some rows[i] := List.getElem?_eq_getElem hi
    have hrj := hrl rows[i] (List.getElem_mem hi)
    obtain ⟨u, hu, h1u, hv⟩ := hrel i j rows[i] (rows[i]'hi)[j] hri (List.getElem?_eq_getElem (by omega))
    refine ⟨u, hu, h1u, fun r g hr hg => ?_⟩
    obtain ⟨u', hu', _, hv'⟩ := hrel i j r g hr hg
    rw [hu] at hu'
    cases hu'
    exact hv'
  refine .isl (fun i j => (cs[i * q.size + j]?).getD undef) hlen.symm (by simp) (fun ho => ?_) (Nat.le_refl _) hrl (fun i j hi hj => ?_) (fun i j hi hj => ?_) (fun r hr g hg => ?_) (fun i j r g hr hg => ?_)
  · exact not_owned_size hs (E.own _ (by
      obtain ⟨id, base, hg, hm⟩ := ho
      exact absurd (hs.block_lt hg hm) (Nat.lt_irrefl _)) ho)
  · obtain ⟨u, hu, _, _⟩ := hu i j hi hj
    simp [World.cell?, hu]
  · obtain ⟨u, hu, h1u, _⟩ := hu i j hi hj
    simp [hu, h1u]
  · simp only [List.all_eq_true] at hid
    exact hid r hr g hg
  · have hi : i < rows.length := (List.getElem?_eq_some_iff.1 hr).1
    have hj : j < q.size := by rw [← hrl r (List.mem_of_getElem? hr)]; exact (List.getElem?_eq_some_iff.1 hg).1
    obtain ⟨u, hu, _, hv⟩ := hu i j hi hj
    simp only [hu, Option.getD_some]
    exact (hv r g hr hg).mono hs.next E

/-! ### make -/
def gmake (P : Program) (t : TypeId) (l c : GV) (h : GH) (k : GV → GH → Prop) (_p : Ph k := ()) : Prop :=
  match l, c with
  | .v (.int _ n), .v (.int _ m) => match elq P t with
    | some (e, sz) => match tyq P e with
      | some q => gassert (0 ≤ n ∧ n ≤ m ∧ (q.bytes : Int) * m ≤ 281474976710656 ∧ m ≤ 9223372036854775807 ∧ 0 < q.size) (k (.msl h.next q.size 0 n.toNat) (h.new (.cells e q.size (List.replicate n.toNat q.zero))))
      | none => False
    | none => False
  | _, _ => False

theorem made_get (z : Array Value) (n i j : Nat) (hj : j < z.size) (hi : i < n) : (madeCells z (n * z.size))[i * z.size + j]? = z[j]? := by
  have hlt : i * z.size + j < n * z.size := by
    have : (i + 1) * z.size ≤ n * z.size := Nat.mul_le_mul_right _ hi
    rw [Nat.add_mul, Nat.one_mul] at this
    omega
  have hmod : (i * z.size + j) % z.size = j := by rw [Nat.add_comm, Nat.add_mul_mod_self_right, Nat.mod_eq_of_lt hj]
  simp only [madeCells, Array.getElem?_map]
  rw [Array.getElem?_eq_getElem (by simpa using hlt)]
  simp only [Array.getElem_range, Option.map_some, hmod]
  rw [getElem!_pos z j hj, Array.getElem?_eq_getElem hj]

theorem gmake_sound {P : Program} {t : TypeId} {l c : GV} {h : GH} {k : GV → GH → Prop} (hk : gmake P t l c h k) :
    ∃ v h', k v h' ∧ ∀ (w : World) (μ) (lv cv : Value), Sim ⟨w, h, μ⟩ → VRel ⟨w, h, μ⟩ l lv → VRel ⟨w, h, μ⟩ c cv → RunsTo P ⟨w, h, μ⟩ (Instr.makeSlice t lv cv) v h' := by
  unfold gmake at hk
  split at hk
  · rename_i kl n km m
    split at hk
    · rename_i e sz he
      split at hk
      · rename_i q hq
        obtain ⟨⟨h0, h1, h2, h3, h4⟩, hk⟩ := hk
        refine ⟨_, _, hk, fun w μ lv cv hs hl hc => ?_⟩
        rw [hl.v_inv, hc.v_inv]
        obtain ⟨i, hu, hi, hsz⟩ := elq_some he
        obtain ⟨i', z, hi', hz, hzq, hby, hcr, hzs⟩ := zero_crel hq ⟨w, h, μ⟩
        have hii : i' = i := by rw [hi] at hi'; cases hi'; rfl
        subst hii
        have hr := run_make (P := P) w t e i' z hu hi hz kl km n m h0 h1 (by rw [hby]; exact h2) h3
        have hone : ∀ x ∈ z.cells, one x = true := fun x hx => by
          obtain ⟨j, hj, rfl⟩ := Array.mem_iff_getElem.1 hx
          exact hcr.2.2 j _ (Array.getElem?_eq_getElem hj)
        have ha := alloc_cells (S := ⟨w, h, μ⟩) hs e (madeCells z.cells (m.toNat * i'.size)) q.size (List.replicate n.toNat q.zero)
          (fun r hr => by rw [List.eq_of_mem_replicate hr]; have := hcr.1; omega)
          (by
            rw [size_madeCells, hzq]; simp only [List.length_replicate]
            exact Nat.mul_le_mul_right _ (by omega))
          (fun a j r g hr hg => by
            have ha := (List.getElem?_eq_some_iff.1 hr).1
            simp only [List.length_replicate] at ha
            have hr' : r = q.zero := by
              have := (List.getElem?_eq_some_iff.1 hr).2
              simpa using this.symm
            subst hr'
            have hj : j < z.cells.size := by have := (List.getElem?_eq_some_iff.1 hg).1; have := hcr.1; omega
            refine ⟨z.cells[j], ?_, hone _ (Array.getElem_mem hj), hcr.2.1 j g _ hg (Array.getElem?_eq_getElem hj)⟩
            have hm := made_get z.cells m.toNat a j hj (by omega)
            rw [hzs] at hm
            rw [hzq, hm, Array.getElem?_eq_getElem hj])
        refine ⟨_, _, _, hr, ha.1, ha.2, new_msl (S := ⟨w, h, μ⟩) (c := madeCells z.cells (m.toNat * i'.size)) (by simp) (by omega) (by exact Array.getElem?_push_size) (by rw [size_madeCells, hzq]; exact Nat.le_refl _)⟩
      · exact hk.elim
    · exact hk.elim
  · exact hk.elim
end Gx
