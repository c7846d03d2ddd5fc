/- Loads, stores, new variables, slices and append over ghost heaps. -/
import Derived.Test.YtbibihbkkflidaaGxHeap
import Derived.Laws.AppendOwn
set_option linter.unusedSimpArgs false
set_option linter.unusedVariables false
namespace Gx
open Go

/-- What a run comes to: a value and a ghost heap. -/
def RunsTo (P : Program) (S : Sh) (s : Sem Value) (v : GV) (h' : GH) : Prop :=
  ∃ r w' μ', s.run P S.w = .ok r w' ∧ Sim ⟨w', h', μ'⟩ ∧ Evolve S ⟨w', h', μ'⟩ ∧ VRel ⟨w', h', μ'⟩ v r
def RunsUnit (P : Program) (S : Sh) (s : Sem Unit) (h' : GH) : Prop :=
  ∃ w' μ', s.run P S.w = .ok () w' ∧ Sim ⟨w', h', μ'⟩ ∧ Evolve S ⟨w', h', μ'⟩

/-! ### loads -/
def gloadRow (q : TyQ) (row : List GV) (off : Nat) (k : GV → Prop) (_p : Ph k := ()) : Prop :=
  gassert ((q.agg = true ∨ q.size = 1) ∧ off + q.size ≤ row.length) (k (mk q.agg ((row.drop off).take q.size)))

def gloadI (P : Program) (t : TypeId) (x : GV) (k : GV → Prop) (_p : Ph k := ()) : Prop :=
  match tyq P t with
  | some q => match x with
    | .iptr row off => gloadRow q row off k
    | _ => False
  | none => False

def gload (P : Program) (t : TypeId) (x : GV) (h : GH) (k : GV → Prop) (_p : Ph k := ()) : Prop :=
  match tyq P t with
  | some q => match x with
    | .iptr row off => gloadRow q row off k
    | .mptr id i off => match h.get id with
      | some (.cells _ _ rows) => match rows[i]? with
        | some row => gloadRow q row off k
        | none => False
      | _ => False
    | _ => False
  | none => False

theorem loadRow_run {P : Program} {t : TypeId} {q : TyQ} (hq : tyq P t = some q) {row : List GV} {off : Nat} {S : Sh} {b o : Nat} (u : Nat → Value)
    (hs : q.agg = true ∨ q.size = 1) (hl : off + q.size ≤ row.length) (hc : ∀ j, j < row.length → S.w.cell? ⟨b, o + j, none⟩ = some (u j)) (h1 : ∀ j, j < row.length → one (u j) = true)
    (hv : ∀ (j : Nat) (g : GV), row[j]? = some g → VRel S g (u j)) :
    Runs P S (loadVar t ⟨b, o + off, none⟩) (mk q.agg ((row.drop off).take q.size)) := by
  simp only [Runs, loadVar, Sem.run_bind, tyq_isAgg hq, Result.andThen]
  by_cases ha : q.agg = true
  · simp only [ha, if_true, Sem.run_bind, tyq_size hq, Result.andThen, mk]
    rw [run_loadCells (P := P) S.w ⟨b, o + off, none⟩ q.size (fun j => u (off + j)) (fun j hj => by rw [addr_add, Nat.add_assoc]; exact hc _ (by omega))]
    refine ⟨_, rfl, .agg (by simp; omega) (fun i g x hg hx => ?_) (fun i x hx => ?_)⟩
    · rw [List.getElem?_take] at hg
      split at hg
      · rename_i hi
        rw [List.getElem?_drop] at hg
        simp [hi] at hx
        subst hx
        exact hv _ _ hg
      · cases hg
    · simp only [List.getElem?_toArray, List.getElem?_map, Option.map_eq_some_iff] at hx
      obtain ⟨j, hj, rfl⟩ := hx
      have := List.mem_of_getElem? hj
      rw [List.mem_range] at this
      exact h1 _ (by omega)
  · have h1' : q.size = 1 := hs.resolve_left ha
    simp only [ha, if_false, Bool.false_eq_true, mk]
    have hrow : row[off]? = some (row[off]'(by omega)) := List.getElem?_eq_getElem (by omega)
    have hd : (row.drop off).take q.size = [row[off]'(by omega)] := by
      rw [h1', List.drop_eq_getElem_cons (by omega)]; rfl
    refine ⟨u off, ?_, by rw [hd]; exact hv _ _ hrow⟩
    simp [run_load, hc off (by omega)]

theorem gloadI_sound {P : Program} {t : TypeId} {x : GV} {k : GV → Prop} (hk : gloadI P t x k) :
    ∃ v, k v ∧ ∀ (S : Sh) (xv : Value), VRel S x xv → Runs P S (Instr.loadAt t xv) v := by
  unfold gloadI at hk
  split at hk
  · rename_i q hq
    split at hk
    · obtain ⟨⟨h1, h2⟩, hk⟩ := hk
      refine ⟨_, hk, fun S xv hx => ?_⟩
      cases hx with
      | iptr u hb ho hc h1' hf hv =>
        obtain ⟨r, hr, hrel⟩ := loadRow_run hq u h1 h2 hc h1' hv
        exact ⟨r, by simpa [Instr.loadAt, Instr.sureAddr] using hr, hrel⟩
    · exact hk.elim
  · exact hk.elim

theorem gload_sound {P : Program} {t : TypeId} {x : GV} {h : GH} {k : GV → Prop} (hk : gload P t x h k) :
    ∃ v, k v ∧ ∀ (w : World) (μ) (xv : Value), Sim ⟨w, h, μ⟩ → VRel ⟨w, h, μ⟩ x xv → Runs P ⟨w, h, μ⟩ (Instr.loadAt t xv) v := by
  unfold gload at hk
  split at hk
  · rename_i q hq
    split at hk
    · obtain ⟨⟨h1, h2⟩, hk⟩ := hk
      refine ⟨_, hk, fun w μ xv hs hx => ?_⟩
      cases hx with
      | iptr u hb ho hc h1' hf hv =>
        obtain ⟨r, hr, hrel⟩ := loadRow_run hq u h1 h2 hc h1' hv
        exact ⟨r, by simpa [Instr.loadAt, Instr.sureAddr] using hr, hrel⟩
    · rename_i id i off
      split at hk
      · rename_i bt esz rows hg
        split at hk
        · rename_i row hrow
          obtain ⟨⟨h1, h2⟩, hk⟩ := hk
          refine ⟨_, hk, fun w μ xv hs hx => ?_⟩
          cases hx with
          | @mptr _ _ _ t' esz' rows' rb base hg' hi hm =>
            have hg'' : h.get id = some (.cells t' esz' rows') := hg'
            rw [hg] at hg''
            simp only [Option.some.injEq, GBlk.cells.injEq] at hg''
            obtain ⟨rfl, rfl, rfl⟩ := hg''
            obtain ⟨hlen, hcase⟩ := hs.cells id bt esz rows hg
            rcases hcase with ⟨h0, _⟩ | ⟨rb', base', c, hm', hheap, hsz, hrel⟩
            · rw [h0] at hrow; cases hrow
            · have hm'' : μ id = some (rb, base) := hm
              have hm3 : μ id = some (rb', base') := hm'
              rw [hm''] at hm3
              cases hm3
              have hrl : row.length = esz := hlen row (List.mem_of_getElem? hrow)
              have hcell : ∀ j, j < row.length → ∃ u, c[base + (i * esz + j)]? = some u ∧ one u = true ∧ ∀ g, row[j]? = some g → VRel ⟨w, h, μ⟩ g u := fun j hj => by
                obtain ⟨u, hu, h1u, hv⟩ := hrel i j row row[j] hrow (List.getElem?_eq_getElem hj)
                exact ⟨u, hu, h1u, fun g hg => by rw [List.getElem?_eq_getElem hj] at hg; cases hg; exact hv⟩
              have := loadRow_run (S := ⟨w, h, μ⟩) (b := rb) (o := base + i * esz) hq (fun j => (c[base + (i * esz + j)]?).getD undef) h1 h2
                (fun j hj => by
                  obtain ⟨u, hu, _⟩ := hcell j hj
                  have hheap' : w.heap[rb]? = some (.cells c bt (0, 0)) := hheap
                  simp [World.cell?, hheap', Nat.add_assoc, hu])
                (fun j hj => by obtain ⟨u, hu, h1u, _⟩ := hcell j hj; simp [hu, h1u])
                (fun j g hg => by
                  obtain ⟨u, hu, _, hv⟩ := hcell j (List.getElem?_eq_some_iff.1 hg).1
                  simp only [hu, Option.getD_some]; exact hv g hg)
              obtain ⟨r, hr, hv⟩ := this
              exact ⟨r, by simpa [Instr.loadAt, Instr.sureAddr, Nat.add_assoc] using hr, hv⟩
          | mptrOld hg' hn => have hg'' : h.get id = none := hg'; rw [hg] at hg''; cases hg''
        · exact hk.elim
      · exact hk.elim
    · exact hk.elim
  · exact hk.elim

/-! ### values as cells -/
/-- What may stand in a variable: a leaf, or a struct or an array. -/
def GV.boxed : GV → Bool
  | .agg _ => true
  | g => g.leaf

theorem cells_of_rel {S : Sh} {g : GV} {x : Value} (h : VRel S g x) (hl : g.boxed = true) :
    x.cells.size = g.leaves.length ∧ (∀ u ∈ x.cells, one u = true) ∧ ∀ (j : Nat) (l : GV) (u : Value), g.leaves[j]? = some l → x.cells[j]? = some u → VRel S l u := by
  by_cases ha : ∃ ls, g = .agg ls
  · obtain ⟨ls, rfl⟩ := ha
    cases h with
    | agg h1 h2 h3 =>
      exact ⟨h1, fun u hu => by obtain ⟨i, hi, rfl⟩ := Array.mem_iff_getElem.1 hu; exact h3 i _ (Array.getElem?_eq_getElem hi), h2⟩
  · have hg : g.leaves = [g] := by
      cases g <;> first | rfl | exact absurd ⟨_, rfl⟩ ha
    have hleaf : g.leaf = true := by
      cases g <;> first | exact hl | exact absurd ⟨_, rfl⟩ ha
    have h1 := h.one_of_leaf hleaf
    have hx : x.cells = #[x] := by cases x <;> first | rfl | (simp [one] at h1)
    rw [hg, hx]
    refine ⟨rfl, fun u hu => by simp at hu; subst hu; exact h1, fun j l u hl hu => ?_⟩
    cases j with
    | zero => simp at hl hu; subst hl; subst hu; exact h
    | succ j => simp at hl

theorem spl_length (row : List GV) (off : Nat) (ls : List GV) : (spl row off ls).length = row.length := by
  induction ls generalizing row off with
  | nil => rfl
  | cons l ls ih => simp [spl, ih]

theorem spl_get (row : List GV) (off : Nat) (ls : List GV) (hl : off + ls.length ≤ row.length) (j : Nat) :
    (spl row off ls)[j]? = if off ≤ j ∧ j < off + ls.length then ls[j - off]? else row[j]? := by
  induction ls generalizing row off with
  | nil =>
    rw [if_neg (by simp)]; rfl
  | cons l ls ih =>
    simp only [spl]
    rw [ih (row.set off l) (off + 1) (by simp at hl ⊢; omega)]
    simp only [List.length_cons] at hl ⊢
    by_cases h1 : off + 1 ≤ j ∧ j < off + 1 + ls.length
    · rw [if_pos h1, if_pos (by omega)]
      have : j - off = (j - (off + 1)) + 1 := by omega
      rw [this]; rfl
    · rw [if_neg h1, List.getElem?_set]
      by_cases h2 : off = j
      · subst h2
        have : off < row.length := by omega
        rw [if_pos rfl, if_pos this, if_pos (by omega), Nat.sub_self]; rfl
      · rw [if_neg h2, if_neg (by omega)]

/-- A segment put into a row. -/
theorem seg_get {α : Type} (l vs : List α) (n : Nat) (hn : n + vs.length ≤ l.length) (k : Nat) :
    (l.take n ++ vs ++ l.drop (n + vs.length))[k]? = if n ≤ k ∧ k < n + vs.length then vs[k - n]? else l[k]? := by
  have hlen : (l.take n).length = n := by rw [List.length_take]; omega
  by_cases h1 : k < n
  · rw [if_neg (by omega), List.append_assoc, List.getElem?_append_left (by omega), List.getElem?_take, if_pos h1]
  · by_cases h2 : k < n + vs.length
    · rw [if_pos (by omega), List.append_assoc, List.getElem?_append_right (by omega), hlen, List.getElem?_append_left (by omega)]
    · rw [if_neg (by omega), List.getElem?_append_right (by rw [List.length_append, hlen]; omega), List.length_append, hlen, List.getElem?_drop]
      congr 1; omega

theorem seg_length {α : Type} (l vs : List α) (n : Nat) (hn : n + vs.length ≤ l.length) : (l.take n ++ vs ++ l.drop (n + vs.length)).length = l.length := by
  simp only [List.length_append, List.length_take, List.length_drop]; omega

/-- Storing leaves: gstore. -/
def gstore (P : Program) (t : TypeId) (x v : GV) (h : GH) (k : GH → Prop) (_p : Ph k := ()) : Prop :=
  match tyq P t with
  | some q => gassert (v.leaves.length = q.size ∧ v.boxed = true) (match x with
    | .mptr id i off => match h.get id with
      | some (.cells bt esz rows) => match rows[i]? with
        | some row => gassert (off + v.leaves.length ≤ row.length) (k (h.set id (.cells bt esz (rows.set i (spl row off v.leaves)))))
        | none => False
      | _ => False
    | _ => False)
  | none => False

theorem row_apart {esz i i' j off n : Nat} (hne : i' ≠ i) (hj : j < esz) (hoff : off + n ≤ esz) : ¬ (i * esz + off ≤ i' * esz + j ∧ i' * esz + j < i * esz + off + n) := by
  rintro ⟨h1, h2⟩
  rcases Nat.lt_or_gt_of_ne hne with h | h
  · have : (i' + 1) * esz ≤ i * esz := Nat.mul_le_mul_right _ h
    rw [Nat.add_mul, Nat.one_mul] at this
    omega
  · have : (i + 1) * esz ≤ i' * esz := Nat.mul_le_mul_right _ h
    rw [Nat.add_mul, Nat.one_mul] at this
    omega

theorem gstore_sound {P : Program} {t : TypeId} {x v : GV} {h : GH} {k : GH → Prop} (hk : gstore P t x v h k) :
    ∃ h', k h' ∧ ∀ (w : World) (μ) (xv vv : Value), Sim ⟨w, h, μ⟩ → VRel ⟨w, h, μ⟩ x xv → VRel ⟨w, h, μ⟩ v vv → RunsUnit P ⟨w, h, μ⟩ (Instr.storeAt t xv vv) h' := by
  unfold gstore at hk
  split at hk
  · rename_i q hq
    obtain ⟨⟨hlen, hleaf⟩, hk⟩ := hk
    split at hk
    · rename_i id i off
      split at hk
      · rename_i bt esz rows hg
        split at hk
        · rename_i row hrow
          obtain ⟨hfit, hk⟩ := hk
          refine ⟨_, hk, fun w μ xv vv hs hx hv => ?_⟩
          cases hx with
          | mptrOld hg' hn => have hg'' : h.get id = none := hg'; rw [hg] at hg''; cases hg''
          | @mptr _ _ _ t' esz' rows' rb base hg' hi hm =>
            have hg'' : h.get id = some (.cells t' esz' rows') := hg'
            rw [hg] at hg''
            simp only [Option.some.injEq, GBlk.cells.injEq] at hg''
            obtain ⟨rfl, rfl, rfl⟩ := hg''
            obtain ⟨hlens, hcase⟩ := hs.cells id bt esz rows hg
            rcases hcase with ⟨h0, _⟩ | ⟨rb', base', c, hm', hheap, hsz, hrel⟩
            · rw [h0] at hrow; cases hrow
            · have hm'' : μ id = some (rb, base) := hm
              have hm3 : μ id = some (rb', base') := hm'
              rw [hm''] at hm3
              cases hm3
              have hrl : row.length = esz := hlens row (List.mem_of_getElem? hrow)
              obtain ⟨hcs, hone, hrelv⟩ := cells_of_rel hv hleaf
              have hilt : i < rows.length := hi
              have hb : base + (i * esz + off) + vv.cells.toList.length ≤ c.size := by
                have : (i + 1) * esz ≤ rows.length * esz := Nat.mul_le_mul_right _ hilt
                rw [Nat.add_mul, Nat.one_mul] at this
                simp only [Array.length_toList]
                omega
              have hst := run_storeCells_at P rb (base + (i * esz + off)) bt vv.cells.toList 0 c w hheap (by simpa using hb) (fun u hu => by rw [← one_eq]; exact hone u (by simpa using hu))
              simp only [Nat.add_zero] at hst
              have hb' : base + (i * esz + off) + vv.cells.toList.length ≤ c.toList.length := by simpa using hb
              have hcl : (c.toList.take (base + (i * esz + off)) ++ vv.cells.toList ++ c.toList.drop (base + (i * esz + off) + vv.cells.toList.length)).toArray.size = c.size := by
                have := seg_length c.toList vv.cells.toList (base + (i * esz + off)) hb'
                simpa using this
              refine ⟨_, μ, by
                simp only [Instr.storeAt, Instr.sureAddr, Sem.run_bind, Sem.run_pure, Result.andThen, storeVar, tyq_size hq]
                rw [if_neg (by omega)]
                exact hst, ?_, ?_⟩
              · refine sim_setRow hs hg hm'' hheap hcl (by simp) (fun r hr => ?_) (fun i' j r g hri hgj => ?_)
                · rcases List.mem_or_eq_of_mem_set hr with hr | rfl
                  · exact hlens r hr
                  · rw [spl_length]; exact hrl
                · simp only [List.getElem?_toArray]
                  rw [seg_get _ _ _ hb']
                  simp only [Array.length_toList, hcs]
                  by_cases hii : i' = i
                  · subst hii
                    rw [List.getElem?_set_self hilt] at hri
                    cases hri
                    rw [spl_get _ _ _ hfit] at hgj
                    split at hgj
                    · rename_i hin
                      rw [if_pos (by omega)]
                      have hlt : j - off < vv.cells.size := by omega
                      have e : base + (i' * esz + j) - (base + (i' * esz + off)) = j - off := by omega
                      rw [e]
                      refine ⟨vv.cells[j - off], by simp [hlt], hone _ (Array.getElem_mem hlt), hrelv _ _ _ hgj (Array.getElem?_eq_getElem hlt)⟩
                    · rw [if_neg (by omega)]
                      simpa using hrel i' j row g hrow hgj
                  · rw [List.getElem?_set_ne (Ne.symm hii)] at hri
                    have hj : j < esz := by rw [← hlens r (List.mem_of_getElem? hri)]; exact (List.getElem?_eq_some_iff.1 hgj).1
                    have := row_apart (n := v.leaves.length) hii hj (by omega : off + v.leaves.length ≤ esz)
                    rw [if_neg (by omega)]
                    simpa using hrel i' j r g hri hgj
              · exact evolve_setRow hs hg hm'' hheap hcl (by simp)
        · exact hk.elim
      · exact hk.elim
    · exact hk.elim
  · exact hk.elim

/-! ### new variables -/
def galloc (P : Program) (t : TypeId) (h : GH) (k : GV → GH → Prop) (_p : Ph k := ()) : Prop :=
  match tyq P t with
  | some q => k (.mptr h.next 0 0) (h.new (.cells t q.size [q.zero]))
  | none => False

theorem leafOf_rel (S : Sh) (x : Value) : VRel S (leafOf x) x := by
  unfold leafOf
  split
  · exact .esl none
  · split
    · rename_i h; exact .v h
    · exact .dead x

theorem new_mptr {S : Sh} {w' : World} {t : TypeId} {esz : Nat} {row : List GV} {b : Nat} : VRel ⟨w', S.h.new (.cells t esz [row]), mset S.μ S.h.next (some (b, 0))⟩ (.mptr S.h.next 0 0) (.pointer (some ⟨b, 0, none⟩)) := by
  have := VRel.mptr (S := ⟨w', S.h.new (.cells t esz [row]), mset S.μ S.h.next (some (b, 0))⟩) (id := S.h.next) (i := 0) (off := 0) (t := t) (esz := esz) (rows := [row]) (rb := b) (base := 0)
    new_get_same (by simp) (by simp [mset])
  simpa using this

theorem galloc_sound {P : Program} {t : TypeId} {h : GH} {k : GV → GH → Prop} (hk : galloc P t h k) :
    ∃ v h', k v h' ∧ ∀ (w : World) (μ), Sim ⟨w, h, μ⟩ → RunsTo P ⟨w, h, μ⟩ (Instr.alloc t true (.tuple #[])) v h' := by
  unfold galloc at hk
  split at hk
  · rename_i q hq
    refine ⟨_, _, hk, fun w μ hs => ?_⟩
    obtain ⟨i, d, z, hi, hd, hz, hsz, h1, rfl⟩ := tyq_some hq
    have hzl : z.cells.toList.length = i.size := by simpa using hsz
    have ha := alloc_cells hs t z.cells i.size [z.cells.toList.map leafOf] (fun r hr => by simp at hr; subst hr; simp [hsz]) (by simp [hsz])
      (fun a j r g hr hg => by
        cases a with
        | succ a => simp at hr
        | zero =>
          simp at hr
          subst hr
          simp only [List.getElem?_map, Option.map_eq_some_iff, Array.getElem?_toList] at hg
          obtain ⟨u, hu, rfl⟩ := hg
          exact ⟨u, by simpa using hu, h1 u (Array.mem_of_getElem? hu), leafOf_rel _ u⟩)
    refine ⟨.pointer (some ⟨w.heap.size, 0, none⟩), _, _, ?_, ha.1, ha.2, new_mptr (S := ⟨w, h, μ⟩)⟩
    simp [Instr.alloc, zeroValue, run_typeInfo hi, hz, newVar, newRow, newObj, Sem.run]
  · exact hk.elim

def gbox (P : Program) (t : TypeId) (v : GV) (h : GH) (k : GV → GH → Prop) (_p : Ph k := ()) : Prop :=
  gassert (v.boxed = true) (k (.mptr h.next 0 0) (h.new (.cells t v.leaves.length [v.leaves])))

theorem gbox_sound {P : Program} {t : TypeId} {v : GV} {h : GH} {k : GV → GH → Prop} (hk : gbox P t v h k) :
    ∃ r h', k r h' ∧ ∀ (w : World) (μ) (vv : Value), Sim ⟨w, h, μ⟩ → VRel ⟨w, h, μ⟩ v vv → RunsTo P ⟨w, h, μ⟩ (Instr.box t vv) r h' := by
  obtain ⟨hb, hk⟩ := hk
  refine ⟨_, _, hk, fun w μ vv hs hv => ?_⟩
  obtain ⟨hcs, hone, hrel⟩ := cells_of_rel hv hb
  have ha := alloc_cells hs t vv.cells v.leaves.length [v.leaves] (fun r hr => by simp at hr; subst hr; rfl) (by simp [hcs])
    (fun a j r g hr hg => by
      cases a with
      | succ a => simp at hr
      | zero =>
        simp at hr
        subst hr
        have hlt : j < vv.cells.size := by have := (List.getElem?_eq_some_iff.1 hg).1; omega
        exact ⟨vv.cells[j], by simp [hlt], hone _ (Array.getElem_mem hlt), hrel j g _ hg (Array.getElem?_eq_getElem hlt)⟩)
  refine ⟨.pointer (some ⟨w.heap.size, 0, none⟩), _, _, ?_, ha.1, ha.2, new_mptr (S := ⟨w, h, μ⟩)⟩
  simp [Instr.box, newVar, newRow, newObj, Sem.run]

/-! ### slicing -/
def gint : Option GV → Option Int
  | some (.v (.int _ n)) => some n
  | _ => none

def loq : Option GV → Option Int
  | none => some 0
  | some g => gint (some g)
def hiq (len : Int) : Option GV → Option Int
  | none => some len
  | some g => gint (some g)
def gslice (P : Program) (t : TypeId) (x : GV) (lo hi mx : Option GV) (k : GV → Prop) (_p : Ph k := ()) : Prop :=
  match mx with
  | some (.v (.int _ m)) => match elq P t, hi, lo with
    | some _, some (.v (.int _ n)), none => gassert (m = 0 ∧ n = 0) (match x with
      | .esl => k .esl
      | .isl _ _ => k .esl
      | .msl _ _ _ _ => k .esl
      | _ => False)
    | _, _, _ => False
  | some _ => False
  | none =>
    match x with
    | .v (.string s) => match loq lo, hiq s.size hi with
      | some l, some n => gassert (P.underlying t = some .string ∧ 0 ≤ l ∧ l ≤ n ∧ n ≤ s.size) (k (.v (.string (s.extract l.toNat n.toNat))))
      | _, _ => False
    | .isl esz rows => match elq P t, loq lo, hiq rows.length hi with
      | some (_, e), some l, some n => gassert (e = esz ∧ 0 ≤ l ∧ l ≤ n ∧ n ≤ rows.length) (k (.isl esz ((rows.take n.toNat).drop l.toNat)))
      | _, _, _ => False
    | .msl id esz off len => match elq P t, loq lo, hiq len hi with
      | some (_, e), some l, some n => gassert (e = esz ∧ 0 ≤ l ∧ l ≤ n ∧ n ≤ len) (k (.msl id esz (off + l.toNat) (n.toNat - l.toNat)))
      | _, _, _ => False
    | .esl => match elq P t, loq lo, hiq 0 hi with
      | some _, some l, some n => gassert (l = 0 ∧ n = 0) (k .esl)
      | _, _, _ => False
    | _ => False

theorem bound_run (x : Value) (kd : IntKind) (n : Int) (y : Nat) (code : BoundsCode) (P : Program) (w : World) (h0 : 0 ≤ n) (h1 : n ≤ y) :
    (Instr.sliceBound (.int kd n) y code).run P w = .ok n.toNat w := by
  simp [Instr.sliceBound, asIntOf, h0, h1]

theorem gint_some {g : GV} {n : Int} (h : gint (some g) = some n) : ∃ kd, g = .v (.int kd n) := by
  unfold gint at h
  split at h
  · rename_i kd m e
    cases h
    cases e
    exact ⟨kd, rfl⟩
  · cases h

/-- The operands of a slicing as the model has them. -/
def ORel (S : Sh) : Option GV → Option Value → Prop
  | none, none => True
  | some g, some x => VRel S g x
  | _, _ => False

theorem lo_run {S : Sh} {lo : Option GV} {lv : Option Value} (h : ORel S lo lv) {l : Int} (hl : loq lo = some l) :
    (lo = none ∧ lv = none ∧ l = 0) ∨ ∃ kd, lv = some (.int kd l) := by
  cases lo with
  | none => cases lv with
    | none => simp [loq, hiq] at hl; exact .inl ⟨rfl, rfl, hl.symm⟩
    | some x => exact h.elim
  | some g => cases lv with
    | none => exact h.elim
    | some x =>
      obtain ⟨kd, rfl⟩ := gint_some hl
      have : VRel S (.v (.int kd l)) x := h
      exact .inr ⟨kd, by rw [this.v_inv]⟩

theorem hi_run {S : Sh} {hi : Option GV} {hv : Option Value} (h : ORel S hi hv) {len : Int} {n : Int} (hl : hiq len hi = some n) :
    (hi = none ∧ hv = none ∧ n = len) ∨ ∃ kd, hv = some (.int kd n) := by
  cases hi with
  | none => cases hv with
    | none => simp [loq, hiq] at hl; exact .inl ⟨rfl, rfl, hl.symm⟩
    | some x => exact h.elim
  | some g => cases hv with
    | none => exact h.elim
    | some x =>
      obtain ⟨kd, rfl⟩ := gint_some hl
      have : VRel S (.v (.int kd n)) x := h
      exact .inr ⟨kd, by rw [this.v_inv]⟩

theorem bounds_run {P : Program} {w : World} {S : Sh} {lo hi : Option GV} {lv hv : Option Value} (hlo : ORel S lo lv) (hhi : ORel S hi hv) {l n : Int} (sl : Bool) (len cap : Nat)
    (h1 : loq lo = some l) (h2 : hiq len hi = some n)
    (h0 : 0 ≤ l) (hln : l ≤ n) (hn : n ≤ len) (hc : len ≤ cap) : (Instr.sliceBounds sl len cap lv hv none).run P w = .ok (l.toNat, n.toNat, cap) w := by
  rcases lo_run hlo h1 with ⟨rfl, rfl, rfl⟩ | ⟨kl, rfl⟩
  · rcases hi_run hhi h2 with ⟨rfl, rfl, rfl⟩ | ⟨kh, rfl⟩
    · simp [Instr.sliceBounds]
    · have := bound_run (.int kh n) kh n cap (if sl then .sliceAcap else .sliceAlen) P w (by omega) (by omega)
      simp [Instr.sliceBounds, this]
  · rcases hi_run hhi h2 with ⟨rfl, rfl, rfl⟩ | ⟨kh, rfl⟩
    · have := bound_run (.int kl l) kl l len .sliceB P w h0 hln
      simp [Instr.sliceBounds, this]
    · have h3 := bound_run (.int kh n) kh n cap (if sl then .sliceAcap else .sliceAlen) P w (by omega) (by omega)
      have h4 := bound_run (.int kl l) kl l n.toNat .sliceB P w h0 (by omega)
      simp [Instr.sliceBounds, h3, h4]

theorem elq_some {P : Program} {t e : TypeId} {sz : Nat} (h : elq P t = some (e, sz)) : ∃ i, P.underlying t = some (.slice e) ∧ P.info? e = some i ∧ i.size = sz := by
  unfold elq at h
  split at h
  · rename_i e' hs
    obtain ⟨i, hi, he⟩ := Option.map_eq_some_iff.1 h
    simp only [Prod.mk.injEq] at he
    obtain ⟨rfl, rfl⟩ := he
    exact ⟨i, hs, hi, rfl⟩
  · cases h

theorem sliceAt_slice {P : Program} {t e : TypeId} {sz : Nat} (h : elq P t = some (e, sz)) {w : World} {a : Option Addr} {len cap : Nat} {lo hi mx : Option Value} {l n m : Nat}
    (hb : (Instr.sliceBounds true len cap lo hi mx).run P w = .ok (l, n, m) w) :
    (Instr.sliceAt t (.slice a len cap) lo hi mx).run P w = .ok (.slice (if m = l then a else a.map (·.add (l * sz))) (n - l) (m - l)) w := by
  obtain ⟨i, hs, hi', rfl⟩ := elq_some h
  simp [Instr.sliceAt, Instr.slice, run_underlying hs, hb, run_sizeOf' hi']

theorem gslice_sound {P : Program} {t : TypeId} {x : GV} {lo hi mx : Option GV} {k : GV → Prop} (hk : gslice P t x lo hi mx k) :
    ∃ v, k v ∧ ∀ (S : Sh) (xv : Value) (lv hv mv : Option Value), VRel S x xv → ORel S lo lv → ORel S hi hv → ORel S mx mv → Runs P S (Instr.sliceAt t xv lv hv mv) v := by
  unfold gslice at hk
  split at hk
  · rename_i km m
    split at hk
    · rename_i e kn n he
      obtain ⟨⟨rfl, rfl⟩, hk⟩ := hk
      have key : ∀ (S : Sh) (a : Option Addr) (len cap : Nat) (lv hv mv : Option Value), ORel S (none : Option GV) lv → ORel S (some (.v (.int kn 0))) hv → ORel S (some (.v (.int km 0))) mv →
          Runs P S (Instr.sliceAt t (.slice a len cap) lv hv mv) .esl := fun S a len cap lv hv mv h1 h2 h3 => by
        cases lv with
        | some _ => exact h1.elim
        | none =>
          cases hv with
          | none => exact h2.elim
          | some hv =>
            cases mv with
            | none => exact h3.elim
            | some mv =>
              have e2 : hv = .int kn 0 := VRel.v_inv h2
              have e3 : mv = .int km 0 := VRel.v_inv h3
              subst e2; subst e3
              obtain ⟨e1, e2⟩ := e
              have b1 := bound_run (.int km 0) km 0 cap .slice3Acap P S.w (by omega) (by omega)
              have b2 := bound_run (.int kn 0) kn 0 0 .slice3B P S.w (by omega) (by omega)
              refine ⟨_, sliceAt_slice he (l := 0) (n := 0) (m := 0) ?_, by simpa using VRel.esl a⟩
              simp only [Int.toNat_zero] at b1 b2
              simp [Instr.sliceBounds, b1, b2]
      split at hk
      · refine ⟨_, hk, fun S xv lv hv mv hx h1 h2 h3 => ?_⟩
        cases hx with
        | esl a => exact key S a 0 0 lv hv mv h1 h2 h3
      · refine ⟨_, hk, fun S xv lv hv mv hx h1 h2 h3 => ?_⟩
        cases hx with
        | isl0 => exact key S _ _ _ lv hv mv h1 h2 h3
        | isl => exact key S _ _ _ lv hv mv h1 h2 h3
      · refine ⟨_, hk, fun S xv lv hv mv hx h1 h2 h3 => ?_⟩
        cases hx with
        | msl => exact key S _ _ _ lv hv mv h1 h2 h3
        | mslOld => exact key S _ _ _ lv hv mv h1 h2 h3
      · exact hk.elim
    · exact hk.elim
  · exact hk.elim
  · simp only [] at hk
    split at hk
    · rename_i s
      split at hk
      · rename_i l n hl hn
        obtain ⟨⟨ht, h0, h1, h2⟩, hk⟩ := hk
        refine ⟨_, hk, fun S xv lv hv mv hx ho1 ho2 ho3 => ?_⟩
        cases mv with
        | some _ => exact ho3.elim
        | none =>
          rw [hx.v_inv]
          have hb := bounds_run (P := P) (w := S.w) ho1 ho2 false s.size s.size hl hn h0 h1 h2 (Nat.le_refl _)
          exact ⟨_, by simp [Instr.sliceAt, Instr.slice, run_underlying ht, hb], .v rfl⟩
      · exact hk.elim
    · rename_i esz rows
      split at hk
      · rename_i e sz l n he hl hn
        obtain ⟨⟨rfl, h0, h1, h2⟩, hk⟩ := hk
        refine ⟨_, hk, fun S xv lv hv mv hx ho1 ho2 ho3 => ?_⟩
        cases mv with
        | some _ => exact ho3.elim
        | none =>
          cases hx with
          | isl0 _ a cap =>
            have hb := bounds_run (P := P) (w := S.w) ho1 ho2 true 0 cap hl hn h0 h1 h2 (Nat.zero_le _)
            refine ⟨_, sliceAt_slice he hb, ?_⟩
            have e1 : n.toNat - l.toNat = 0 := by simp at h2; omega
            simp only [List.take_nil, List.drop_nil, e1]
            exact .isl0 _ _ _
          | @isl _ _ b o len cap u hlen hb' ho hcap hsz hc h1' hf hv =>
            subst hlen
            have hb := bounds_run (P := P) (w := S.w) ho1 ho2 true rows.length cap hl hn h0 h1 h2 hcap
            refine ⟨_, sliceAt_slice he hb, ?_⟩
            by_cases hcl : cap = l.toNat
            · have e1 : n.toNat - l.toNat = 0 := by omega
              have e2 : (rows.take n.toNat).drop l.toNat = [] := by
                apply List.eq_nil_of_length_eq_zero; simp; omega
              rw [e1, e2]
              exact .isl0 _ _ _
            · rw [if_neg hcl]
              simp only [Option.map_some, addr_add]
              have hget : ∀ i, i < n.toNat - l.toNat → ((rows.take n.toNat).drop l.toNat)[i]? = rows[l.toNat + i]? := fun i hi => by
                rw [List.getElem?_drop, List.getElem?_take, if_pos (by omega)]
              refine .isl (fun i j => u (l.toNat + i) j) (by simp; omega) hb' ho (by omega) (fun r hr => hsz r (List.mem_of_mem_take (List.mem_of_mem_drop hr)))
                (fun i j hi hj => ?_) (fun i j hi hj => ?_) (fun r hr => hf r (List.mem_of_mem_take (List.mem_of_mem_drop hr))) (fun i j r g hr hg => ?_)
              · have : i < n.toNat - l.toNat := by simp at hi; omega
                have := hc (l.toNat + i) j (by omega) hj
                rw [Nat.add_mul] at this
                rw [show o + l.toNat * sz + (i * sz + j) = o + (l.toNat * sz + i * sz + j) by omega]
                exact this
              · have : i < n.toNat - l.toNat := by simp at hi; omega
                exact h1' (l.toNat + i) j (by omega) hj
              · have hi : i < n.toNat - l.toNat := by
                  have := (List.getElem?_eq_some_iff.1 hr).1; simp at this; omega
                rw [hget i hi] at hr
                exact hv _ _ _ _ hr hg
      · exact hk.elim
    · rename_i id esz off len
      split at hk
      · rename_i e sz l n he hl hn
        obtain ⟨⟨rfl, h0, h1, h2⟩, hk⟩ := hk
        refine ⟨_, hk, fun S xv lv hv mv hx ho1 ho2 ho3 => ?_⟩
        cases mv with
        | some _ => exact ho3.elim
        | none =>
          cases hx with
          | @mslOld _ _ _ _ a cap hg hnx ha hcap =>
            have hb := bounds_run (P := P) (w := S.w) ho1 ho2 true len cap hl hn h0 h1 h2 hcap
            refine ⟨_, sliceAt_slice he hb, .mslOld hg hnx ?_ (by omega)⟩
            by_cases hz : n.toNat - l.toNat = 0
            · exact .inl hz
            · rcases ha with ha | ⟨b, o, rfl⟩
              · omega
              · refine .inr ?_
                split
                · exact ⟨b, o, rfl⟩
                · simp only [Option.map_some, addr_add]; exact ⟨_, _, rfl⟩
          | @msl _ _ _ _ t' rows a cap hg hlr hr =>
            have hcap : len ≤ cap := by rcases hr with hr | hr <;> omega
            have hb := bounds_run (P := P) (w := S.w) ho1 ho2 true len cap hl hn h0 h1 h2 hcap
            refine ⟨_, sliceAt_slice he hb, .msl hg (by omega) ?_⟩
            by_cases hcl : cap = l.toNat
            · exact .inl ⟨by omega, by omega⟩
            · rcases hr with hr | ⟨hle, rb, base, c, fr, hm, ha, hc, hs⟩
              · omega
              · refine .inr ⟨by omega, rb, base, c, fr, hm, ?_, hc, ?_⟩
                · rw [if_neg hcl, ha]
                  simp only [Option.map_some, addr_add]
                  rw [Nat.add_mul, Nat.add_assoc]
                · have : off + l.toNat + (cap - l.toNat) = off + cap := by omega
                  rw [this]; exact hs
      · exact hk.elim
    · split at hk
      · rename_i e l n he hl hn
        obtain ⟨⟨rfl, rfl⟩, hk⟩ := hk
        refine ⟨_, hk, fun S xv lv hv mv hx ho1 ho2 ho3 => ?_⟩
        cases mv with
        | some _ => exact ho3.elim
        | none =>
          cases hx with
          | esl a =>
            have hb := bounds_run (P := P) (w := S.w) ho1 ho2 true 0 0 hl hn (by omega) (by omega) (by omega) (Nat.le_refl _)
            exact ⟨_, sliceAt_slice he hb, by simpa using VRel.esl a⟩
      · exact hk.elim
    · exact hk.elim
end Gx
