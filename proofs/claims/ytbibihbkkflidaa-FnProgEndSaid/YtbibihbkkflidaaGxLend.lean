/- Calls that are lent the caller's own blocks as trees; results that are made trees. -/
import Derived.Test.YtbibihbkkflidaaGxExt
set_option linter.unusedSimpArgs false
set_option linter.unusedVariables false
namespace Gx
open Go

def wipe (h : GH) : GH := ⟨fun _ => none, h.next⟩
theorem wipe_owned {w : World} {h : GH} {μ : Nat → Option (Nat × Nat)} {b : Nat} : ¬ Sh.owned ⟨w, wipe h, μ⟩ b := fun ⟨_, _, hg, _⟩ => hg rfl

theorem VRel.wipe {w : World} {h : GH} {μ : Nat → Option (Nat × Nat)} (hn : ∀ id, h.get id ≠ none → id < h.next) {g : GV} {x : Value} (hv : VRel ⟨w, h, μ⟩ g x) : VRel ⟨w, wipe h, μ⟩ g x := by
  induction hv with
  | v h => exact .v h
  | esl a => exact .esl a
  | isl0 esz a cap => exact .isl0 esz a cap
  | isl u hl hb ho hcap hsz hc h1 hf hv ih => exact .isl u hl hb wipe_owned hcap hsz hc h1 hf ih
  | iptr u hb ho hc h1 hf hv ih => exact .iptr u hb wipe_owned hc h1 hf ih
  | @msl id esz off len t rows a cap hg hl hr =>
    have hid := hn id (by have : h.get id = _ := hg; rw [this]; simp)
    refine .mslOld rfl hid ?_ (by rcases hr with hr | hr <;> omega)
    rcases hr with hr | ⟨_, rb, base, c, fr, _, ha, _⟩
    · exact .inl hr.1
    · exact .inr ⟨_, _, ha⟩
  | mslOld hg hn ha hcap => exact .mslOld rfl hn ha hcap
  | @mptr id i off t esz rows rb base hg hi hm => exact .mptrOld rfl (hn id (by have : h.get id = _ := hg; rw [this]; simp))
  | mptrOld hg hn => exact .mptrOld rfl hn
  | @mmap id es rb hg hm => exact .mmapOld rfl (hn id (by have : h.get id = _ := hg; rw [this]; simp))
  | mmapOld hg hn => exact .mmapOld rfl hn
  | fn h1 h2 h3 h4 ih3 ih4 => exact .fn h1 h2 ih3 ih4
  | agg h1 h2 h3 ih => exact .agg h1 ih h3
  | tup h1 h2 ih => exact .tup h1 ih
  | dead x => exact .dead x

/-- What the callee is shown of a value of the caller's. -/
inductive Lent (h : GH) : GV → GV → Prop where
  | same (g : GV) : Lent h g g
  | esl (e : Nat) : Lent h .esl (.isl e [])
  | msl {id e off len : Nat} {t : TypeId} {rows R : List (List GV)} (hg : h.get id = some (.cells t e rows)) (hl : R.length = ((rows.drop off).take len).length)
      (hr : ∀ (i : Nat) (r r' : List GV), ((rows.drop off).take len)[i]? = some r → R[i]? = some r' → r'.length = r.length)
      (hi : ∀ r ∈ R, ∀ g ∈ r, g.idl = true)
      (hc : ∀ (i j : Nat) (r r' : List GV) (g g' : GV), ((rows.drop off).take len)[i]? = some r → R[i]? = some r' → r[j]? = some g → r'[j]? = some g' → Lent h g g') : Lent h (.msl id e off len) (.isl e R)
  | mptr {id i off e : Nat} {t : TypeId} {rows : List (List GV)} {r R : List GV} (hg : h.get id = some (.cells t e rows)) (hr : rows[i]? = some r) (hl : R.length = r.length)
      (hi : ∀ g ∈ R, g.idl = true) (hc : ∀ (j : Nat) (g g' : GV), r[j]? = some g → R[j]? = some g' → Lent h g g') : Lent h (.mptr id i off) (.iptr R off)
  | agg {ls ls' : List GV} (hl : ls'.length = ls.length) (hc : ∀ (j : Nat) (g g' : GV), ls[j]? = some g → ls'[j]? = some g' → Lent h g g') : Lent h (.agg ls) (.agg ls')
  | tup {ls ls' : List GV} (hl : ls'.length = ls.length) (hc : ∀ (j : Nat) (g g' : GV), ls[j]? = some g → ls'[j]? = some g' → Lent h g g') : Lent h (.tup ls) (.tup ls')
  | fn {f : Fn} {x x' c c' : List GV} (hl : x'.length = x.length) (hl' : c'.length = c.length) (hc : ∀ (j : Nat) (g g' : GV), x[j]? = some g → x'[j]? = some g' → Lent h g g')
      (hc' : ∀ (j : Nat) (g g' : GV), c[j]? = some g → c'[j]? = some g' → Lent h g g') : Lent h (.fn f x c) (.fn f x' c')

theorem lent_rel {w : World} {h : GH} {μ : Nat → Option (Nat × Nat)} (hs : Sim ⟨w, h, μ⟩) {g g' : GV} (hL : Lent h g g') : ∀ {x : Value}, VRel ⟨w, h, μ⟩ g x → VRel ⟨w, wipe h, μ⟩ g' x := by
  have step : ∀ {ls ls' : List GV} {cs : Array Value}, ls'.length = ls.length → (∀ (j : Nat) (g g' : GV), ls[j]? = some g → ls'[j]? = some g' → ∀ {x : Value}, VRel ⟨w, h, μ⟩ g x → VRel ⟨w, wipe h, μ⟩ g' x) →
      (∀ (i : Nat) (g : GV) (x : Value), ls[i]? = some g → cs[i]? = some x → VRel ⟨w, h, μ⟩ g x) → ∀ (i : Nat) (g : GV) (x : Value), ls'[i]? = some g → cs[i]? = some x → VRel ⟨w, wipe h, μ⟩ g x := fun {ls ls' cs} hl hh h2 i g x hg hx => by
    have hi : i < ls.length := by have := (List.getElem?_eq_some_iff.1 hg).1; omega
    exact hh i ls[i] g (List.getElem?_eq_getElem hi) hg (h2 i ls[i] x (List.getElem?_eq_getElem hi) hx)
  induction hL with
  | same g => intro x hv; exact hv.wipe hs.next
  | esl e => intro x hv; cases hv; exact .isl0 e _ _
  | @msl id e off len t rows R hg hl hr hi hc ih =>
    intro x hv
    cases hv with
    | mslOld hg' => have h1 : h.get id = none := hg'; rw [hg] at h1; cases h1
    | @msl _ _ _ _ t' rows' a cap hg' hle hrr =>
      have h1 : h.get id = some (.cells t' e rows') := hg'
      rw [hg] at h1; cases h1
      have hlen : ((rows.drop off).take len).length = len := by simp; omega
      rcases hrr with ⟨rfl, rfl⟩ | ⟨hcap, rb, base, c, fr, hm, ha, hw, hsz⟩
      · have : R = [] := List.length_eq_zero_iff.1 (by omega)
        subst this; exact .isl0 _ _ _
      · have hm' : μ id = some (rb, base) := hm
        subst ha
        obtain ⟨hrows, hcase⟩ := hs.cells id t e rows hg
        rcases hcase with ⟨h0, h0'⟩ | ⟨rb', base', c', hm2, hheap, hsz', hrel⟩
        · have h0'' : μ id = none := h0'
          rw [hm'] at h0''; cases h0''
        · have hm3 : μ id = some (rb', base') := hm2
          rw [hm'] at hm3; cases hm3
          have hheap' : w.heap[rb]? = some (.cells c' t (0, 0)) := hheap
          have hget : ∀ i, i < len → ((rows.drop off).take len)[i]? = rows[off + i]? := fun i hi => by rw [List.getElem?_take, if_pos hi, List.getElem?_drop]
          have hcell : ∀ i j, i < len → j < e → ∃ r g u, rows[off + i]? = some r ∧ r[j]? = some g ∧ c'[base + ((off + i) * e + j)]? = some u ∧ one u = true ∧ VRel ⟨w, h, μ⟩ g u := fun i j hi hj => by
            have hri : rows[off + i]? = some (rows[off + i]'(by omega)) := List.getElem?_eq_getElem (by omega)
            have hrj := hrows _ (List.getElem_mem (by omega : off + i < rows.length))
            have hgj : (rows[off + i]'(by omega))[j]? = some ((rows[off + i]'(by omega))[j]'(by omega)) := List.getElem?_eq_getElem (by omega)
            obtain ⟨u, hu, h1u, hv⟩ := hrel (off + i) j _ _ hri hgj
            exact ⟨_, _, u, hri, hgj, hu, h1u, hv⟩
          refine .isl (fun i j => (c'[base + ((off + i) * e + j)]?).getD undef) (by omega) (Array.getElem?_eq_some_iff.1 hheap').1 wipe_owned hcap (fun r hr' => ?_) (fun i j hi hj => ?_) (fun i j hi hj => ?_) hi (fun i j r g hr' hgj => ?_)
          · obtain ⟨i, hi', er⟩ := List.mem_iff_getElem.1 hr'
            have hil : i < ((rows.drop off).take len).length := by omega
            have := hr i _ r (List.getElem?_eq_getElem hil) (by rw [List.getElem?_eq_getElem hi', er])
            rw [this]
            exact hrows _ (List.mem_of_mem_drop (List.mem_of_mem_take (List.getElem_mem hil)))
          · obtain ⟨r, g, u, _, _, hu, _⟩ := hcell i j (by omega) hj
            simp only [World.cell?, hheap']
            rw [show base + off * e + (i * e + j) = base + ((off + i) * e + j) by rw [Nat.add_mul]; omega, hu]
            rfl
          · obtain ⟨r, g, u, _, _, hu, h1u, _⟩ := hcell i j (by omega) hj
            simp [hu, h1u]
          · have hil : i < len := by have := (List.getElem?_eq_some_iff.1 hr').1; omega
            have hie : ((rows.drop off).take len)[i]? = some (((rows.drop off).take len)[i]'(by omega)) := List.getElem?_eq_getElem (by omega)
            have hre := hr i _ r hie hr'
            have hj : j < e := by
              have h5 := (List.getElem?_eq_some_iff.1 hgj).1
              rw [hre, hrows _ (List.mem_of_mem_drop (List.mem_of_mem_take (List.getElem_mem (by omega))))] at h5
              exact h5
            obtain ⟨r0, g0, u, h6, h7, hu, _, hv⟩ := hcell i j hil hj
            rw [hget i hil, h6] at hie
            simp only [hu, Option.getD_some]
            have h8 : ((rows.drop off).take len)[i]? = some r0 := by rw [hget i hil, h6]
            exact ih i j r0 r g0 g h8 hr' h7 hgj hv
  | @mptr id i off e t rows r R hg hr hl hi hc ih =>
    intro x hv
    cases hv with
    | mptrOld hg' => have h1 : h.get id = none := hg'; rw [hg] at h1; cases h1
    | @mptr _ _ _ t' esz' rows' rb base hg' hi' hm =>
      have h1 : h.get id = some (.cells t' esz' rows') := hg'
      rw [hg] at h1; cases h1
      obtain ⟨hrows, hcase⟩ := hs.cells id t e rows hg
      have hm' : μ id = some (rb, base) := hm
      rcases hcase with ⟨h0, _⟩ | ⟨rb', base', c', hm2, hheap, hsz', hrel⟩
      · rw [h0] at hr; simp at hr
      · have hm3 : μ id = some (rb', base') := hm2
        rw [hm'] at hm3; cases hm3
        have hheap' : w.heap[rb]? = some (.cells c' t (0, 0)) := hheap
        have hcell : ∀ j, j < r.length → ∃ g u, r[j]? = some g ∧ c'[base + (i * e + j)]? = some u ∧ one u = true ∧ VRel ⟨w, h, μ⟩ g u := fun j hj => by
          obtain ⟨u, hu, h1u, hv⟩ := hrel i j r r[j] hr (List.getElem?_eq_getElem hj)
          exact ⟨_, u, List.getElem?_eq_getElem hj, hu, h1u, hv⟩
        rw [← Nat.add_assoc]
        refine .iptr (fun j => (c'[base + (i * e + j)]?).getD undef) (Array.getElem?_eq_some_iff.1 hheap').1 wipe_owned (fun j hj => ?_) (fun j hj => ?_) hi (fun j g hg => ?_)
        · obtain ⟨g, u, _, hu, _⟩ := hcell j (by omega)
          simp only [World.cell?, hheap']
          rw [show base + i * e + j = base + (i * e + j) by omega, hu]
          rfl
        · obtain ⟨g, u, _, hu, h1u, _⟩ := hcell j (by omega)
          simp [hu, h1u]
        · obtain ⟨g0, u, h7, hu, _, hv⟩ := hcell j (by have := (List.getElem?_eq_some_iff.1 hg).1; omega)
          simp only [hu, Option.getD_some]
          exact ih j g0 g h7 hg hv
  | agg hl hc ih => intro x hv; cases hv with
    | agg h1 h2 h3 => exact .agg (by omega) (step hl ih h2) h3
  | tup hl hc ih => intro x hv; cases hv with
    | tup h1 h2 => exact .tup (by omega) (step hl ih h2)
  | fn hl hl' hc hc' ih ih' => intro x hv; cases hv with
    | fn h1 h2 h3 h4 => exact .fn (by omega) (by omega) (step hl ih h3) (step hl' ih' h4)

/-- Of new memory alone. -/
inductive Cln (n : Nat) : GV → Prop where
  | v (x : Value) : Cln n (.v x)
  | esl : Cln n .esl
  | isl0 (e : Nat) : Cln n (.isl e [])
  | msl {id e off len : Nat} (h : n ≤ id) : Cln n (.msl id e off len)
  | mptr {id i off : Nat} (h : n ≤ id) : Cln n (.mptr id i off)
  | mmap {id : Nat} (h : n ≤ id) : Cln n (.mmap id)
  | agg {ls : List GV} (h : ∀ g ∈ ls, Cln n g) : Cln n (.agg ls)
  | tup {ls : List GV} (h : ∀ g ∈ ls, Cln n g) : Cln n (.tup ls)
  | dead : Cln n .dead
def ClnB (n : Nat) : Option GBlk → Prop
  | some (.cells _ _ rows) => ∀ r ∈ rows, ∀ g ∈ r, Cln n g
  | some (.mp es) => ∀ p ∈ es, Cln n p.2
  | none => True
theorem ClnB.get {n : Nat} {bs : List (Option GBlk)} (h : ∀ b ∈ bs, ClnB n b) {j : Nat} {b : GBlk} (hj : (bs[j]?).join = some b) : ClnB n (some b) := by
  cases e : bs[j]? with
  | none => rw [e] at hj; cases hj
  | some x => rw [e] at hj; simp at hj; subst hj; exact h _ (List.mem_of_getElem? e)

theorem Cln.rel {S S' : Sh} {n : Nat} (hg : ∀ id, n ≤ id → S'.h.get id = S.h.get id ∧ S'.μ id = S.μ id) (hw : S'.w = S.w) (hn : S'.h.next = S.h.next) {g : GV} {x : Value} (hv : VRel S g x) (hc : Cln n g) : VRel S' g x := by
  induction hv with
  | v h => exact .v h
  | esl a => exact .esl a
  | isl0 esz a cap => exact .isl0 esz a cap
  | isl u hl hb ho hcap hsz hcc h1 hf hv ih => cases hc with
    | isl0 => simp at hl; subst hl; exact .isl0 _ _ _
  | iptr => cases hc
  | msl hg' hl hr => cases hc with
    | msl hid =>
      obtain ⟨e1, e2⟩ := hg _ hid
      refine .msl (e1.trans hg') hl (hr.imp (fun x => x) fun ⟨hle, rb, base, c, fr, hm, ha, hc, hsz⟩ => ⟨hle, rb, base, c, fr, e2.trans hm, ha, by rw [hw]; exact hc, hsz⟩)
  | mslOld hg' hn' ha hcap => cases hc with
    | msl hid => exact .mslOld ((hg _ hid).1.trans hg') (by rw [hn]; exact hn') ha hcap
  | mptr hg' hi hm => cases hc with
    | mptr hid => exact .mptr ((hg _ hid).1.trans hg') hi ((hg _ hid).2.trans hm)
  | mptrOld hg' hn' => cases hc with
    | mptr hid => exact .mptrOld ((hg _ hid).1.trans hg') (by rw [hn]; exact hn')
  | mmap hg' hm => cases hc with
    | mmap hid => exact .mmap ((hg _ hid).1.trans hg') ((hg _ hid).2.trans hm)
  | mmapOld hg' hn' => cases hc with
    | mmap hid => exact .mmapOld ((hg _ hid).1.trans hg') (by rw [hn]; exact hn')
  | fn => cases hc
  | agg h1 h2 h3 ih => cases hc with
    | agg hc => exact .agg h1 (fun i g x hg hx => ih i g x hg hx (hc g (List.mem_of_getElem? hg))) h3
  | tup h1 h2 ih => cases hc with
    | tup hc => exact .tup h1 (fun i g x hg hx => ih i g x hg hx (hc g (List.mem_of_getElem? hg)))
  | dead x => exact .dead x

theorem sim_wipe {w : World} {h : GH} {μ : Nat → Option (Nat × Nat)} : Sim ⟨w, wipe h, μ⟩ where
  next := fun id hg => absurd rfl hg
  inj := fun id _ _ _ _ hg => absurd rfl hg
  cells := fun id t e rows hg => by cases hg
  maps := fun id es hg => by cases hg

inductive LentL (h : GH) : List GV → List GV → Prop where
  | nil : LentL h [] []
  | cons {g g' : GV} {r r' : List GV} (hg : Lent h g g') (hr : LentL h r r') : LentL h (g :: r) (g' :: r')
theorem LentL.spec {h : GH} {l l' : List GV} (H : LentL h l l') : l'.length = l.length ∧ ∀ (j : Nat) (g g' : GV), l[j]? = some g → l'[j]? = some g' → Lent h g g' := by
  induction H with
  | nil => exact ⟨rfl, fun j g g' h => by simp at h⟩
  | cons hg hr ih =>
    refine ⟨by simp [ih.1], fun j g g' h1 h2 => ?_⟩
    cases j with
    | zero => simp at h1 h2; subst h1; subst h2; exact hg
    | succ j => simp at h1 h2; exact ih.2 j g g' h1 h2

theorem GCall.lend {P : Program} {f : FuncId} {args args' : List GV} {h : GH} {v : GV} {bs : List (Option GBlk)} {R : GV → GH → Prop} (hc : GCall P f args' (wipe h) fun v' h' => v' = v ∧ h' = (wipe h).add bs)
    (hL : LentL h args args') (hv : Cln h.next v) (hb : ∀ b ∈ bs, ClnB h.next b) (hR : R v (h.add bs)) : GCall P f args h R := by
  refine ⟨hc.1, fun w μ vs hs hn hrel => ?_⟩
  obtain ⟨hll, hL'⟩ := hL.spec
  refine (hc.2 w μ vs sim_wipe (by omega) (fun i g x hg hx => ?_)).mono fun e w' ⟨x, g, h', μ', he, hs', E, hx, hg, hh⟩ => ?_
  · have hi : i < args.length := by have := (List.getElem?_eq_some_iff.1 hg).1; omega
    exact lent_rel hs (hL' i _ g (List.getElem?_eq_getElem hi) hg) (hrel i _ x (List.getElem?_eq_getElem hi) hx)
  subst hg; subst hh
  have hlow : ∀ id, id < h.next → ((wipe h).add bs).get id = none := fun id hid => by
    show (if id < h.next then none else _) = _
    rw [if_pos hid]
  have hhigh : ∀ id, h.next ≤ id → (h.add bs).get id = ((wipe h).add bs).get id := fun id hid => by
    rw [add_get, add_get, if_neg (Nat.not_lt.2 hid), if_neg (show ¬ id < (wipe h).next from Nat.not_lt.2 hid)]; rfl
  have hlow2 : ∀ id, id < h.next → (h.add bs).get id = h.get id := fun id hid => by
    rw [add_get, if_pos hid]
  have hown' : ∀ b, b < w.heap.size → ¬ Sh.owned ⟨w', (wipe h).add bs, μ'⟩ b := fun b hb ho => wipe_owned (E.own b hb ho)
  have hkeep : ∀ b, b < w.heap.size → w'.heap[b]? = w.heap[b]? := fun b hb => E.keep b hb wipe_owned
  let μ2 : Nat → Option (Nat × Nat) := fun id => if id < h.next then μ id else μ' id
  have hm1 : ∀ id, id < h.next → μ2 id = μ id := fun id hid => if_pos hid
  have hm2 : ∀ id, h.next ≤ id → μ2 id = μ' id := fun id hid => if_neg (Nat.not_lt.2 hid)
  have E2 : Evolve ⟨w, h, μ⟩ ⟨w', h.add bs, μ2⟩ := {
    os := E.os, tape := E.tape, output := E.output, size := E.size
    keep := fun b hb _ => hkeep b hb
    own := fun b hb ⟨id, base, hg, hm⟩ => by
      have hg' : (h.add bs).get id ≠ none := hg
      have hm' : μ2 id = some (b, base) := hm
      rcases Nat.lt_or_ge id h.next with hid | hid
      · exact ⟨id, base, by show h.get id ≠ none; rw [← hlow2 id hid]; exact hg', (hm1 id hid).symm.trans hm'⟩
      · exact absurd ⟨id, base, by show ((wipe h).add bs).get id ≠ none; rw [← hhigh id hid]; exact hg', (hm2 id hid).symm.trans hm'⟩ (hown' b hb)
    cells := E.cells
    next := by show h.next ≤ (h.add bs).next; show h.next ≤ h.next + bs.length; omega
    old := fun id hid hg => ⟨by have h1 : (h.add bs).get id ≠ none := hg; rw [hlow2 id hid] at h1; exact h1, hm1 id hid⟩
    rows := fun id t esz rows hg => .inr ⟨rows, (hlow2 id (hs.next id (by rw [hg]; simp))).trans hg, rfl⟩
    maps := fun id es hg => .inr ⟨es, (hlow2 id (hs.next id (by rw [hg]; simp))).trans hg⟩ }
  have hcln : ∀ {g : GV} {x : Value}, VRel ⟨w', (wipe h).add bs, μ'⟩ g x → Cln h.next g → VRel ⟨w', h.add bs, μ2⟩ g x := fun hv hc => Cln.rel (S := ⟨w', (wipe h).add bs, μ'⟩) (S' := ⟨w', h.add bs, μ2⟩) (n := h.next) (fun id hid => ⟨hhigh id hid, hm2 id hid⟩) rfl rfl hv hc
  refine ⟨x, g, h.add bs, μ2, he, ?_, E2, hcln hx hv, hR⟩
  have sblk : ∀ id b, h.next ≤ id → (h.add bs).get id = some b → ClnB h.next (some b) := fun id b hid hg => by
    rw [add_get, if_neg (Nat.not_lt.2 hid)] at hg
    exact ClnB.get hb hg
  refine ⟨fun id hg => ?_, fun id id' b o o' hg hg' hm hm' => ?_, fun id t e rows hg => ?_, fun id es hg => ?_⟩
  · have hg' : (h.add bs).get id ≠ none := hg
    show id < h.next + bs.length
    rcases Nat.lt_or_ge id h.next with hid | hid
    · omega
    · rw [hhigh id hid] at hg'; exact hs'.next id hg'
  · have hg1 : (h.add bs).get id ≠ none := hg
    have hg1' : (h.add bs).get id' ≠ none := hg'
    have hm0 : μ2 id = some (b, o) := hm
    have hm0' : μ2 id' = some (b, o') := hm'
    rcases Nat.lt_or_ge id h.next with hid | hid <;> rcases Nat.lt_or_ge id' h.next with hid' | hid'
    · rw [hlow2 _ hid] at hg1; rw [hlow2 _ hid'] at hg1'; rw [hm1 _ hid] at hm0; rw [hm1 _ hid'] at hm0'
      exact hs.inj id id' b o o' hg1 hg1' hm0 hm0'
    · rw [hlow2 _ hid] at hg1; rw [hm1 _ hid] at hm0; rw [hhigh _ hid'] at hg1'; rw [hm2 _ hid'] at hm0'
      exact absurd ⟨id', o', hg1', hm0'⟩ (hown' b (hs.block_lt hg1 hm0))
    · rw [hlow2 _ hid'] at hg1'; rw [hm1 _ hid'] at hm0'; rw [hhigh _ hid] at hg1; rw [hm2 _ hid] at hm0
      exact absurd ⟨id, o, hg1, hm0⟩ (hown' b (hs.block_lt hg1' hm0'))
    · rw [hhigh _ hid] at hg1; rw [hhigh _ hid'] at hg1'; rw [hm2 _ hid] at hm0; rw [hm2 _ hid'] at hm0'
      exact hs'.inj id id' b o o' hg1 hg1' hm0 hm0'
  · have hg1 : (h.add bs).get id = some (.cells t e rows) := hg
    rcases Nat.lt_or_ge id h.next with hid | hid
    · rw [hlow2 _ hid] at hg1
      obtain ⟨h1, h2⟩ := hs.cells id t e rows hg1
      refine ⟨h1, ?_⟩
      simp only [hm1 id hid]
      rcases h2 with h2 | ⟨rb, base, c, h3, h4, h5, h6⟩
      · exact .inl h2
      · refine .inr ⟨rb, base, c, h3, (hkeep rb (Array.getElem?_eq_some_iff.1 h4).1).trans h4, h5, fun i j r g hr hgj => ?_⟩
        obtain ⟨u, hu, h1u, hvu⟩ := h6 i j r g hr hgj
        exact ⟨u, hu, h1u, hvu.mono hs.next E2⟩
    · have hcb := sblk id _ hid hg1
      rw [hhigh _ hid] at hg1
      obtain ⟨h1, h2⟩ := hs'.cells id t e rows hg1
      refine ⟨h1, ?_⟩
      simp only [hm2 id hid]
      rcases h2 with h2 | ⟨rb, base, c, h3, h4, h5, h6⟩
      · exact .inl h2
      · refine .inr ⟨rb, base, c, h3, h4, h5, fun i j r g hr hgj => ?_⟩
        obtain ⟨u, hu, h1u, hvu⟩ := h6 i j r g hr hgj
        exact ⟨u, hu, h1u, hcln hvu (hcb r (List.mem_of_getElem? hr) g (List.mem_of_getElem? hgj))⟩
  · have hg1 : (h.add bs).get id = some (.mp es) := hg
    rcases Nat.lt_or_ge id h.next with hid | hid
    · rw [hlow2 _ hid] at hg1
      obtain ⟨rb, ms, clock, h1, h2, h3, h4, h5, h6⟩ := hs.maps id es hg1
      refine ⟨rb, ms, clock, by rw [← h1]; exact hm1 id hid, (hkeep rb (Array.getElem?_eq_some_iff.1 h2).1).trans h2, h3, h4, h5, fun i kk g hi => ?_⟩
      obtain ⟨e, hee, hk, hvu⟩ := h6 i kk g hi
      exact ⟨e, hee, hk, hvu.mono hs.next E2⟩
    · have hcb := sblk id _ hid hg1
      rw [hhigh _ hid] at hg1
      obtain ⟨rb, ms, clock, h1, h2, h3, h4, h5, h6⟩ := hs'.maps id es hg1
      refine ⟨rb, ms, clock, by rw [← h1]; exact hm2 id hid, h2, h3, h4, h5, fun i kk g hi => ?_⟩
      obtain ⟨e, hee, hk, hvu⟩ := h6 i kk g hi
      exact ⟨e, hee, hk, hcln hvu (hcb (kk, g) (List.mem_of_getElem? hi))⟩

theorem add_nil {h : GH} (hg : Good h) : h.add [] = h := GX_of hg
theorem GCall.good {P : Program} {f : FuncId} {args : List GV} {h : GH} {R : GV → GH → Prop} (hc : CallsTo P f) (hh : Good h → GCall P f args h R) : GCall P f args h R :=
  ⟨hc, fun w μ vs hs => (hh hs.good).2 w μ vs hs⟩
/-- A callee that makes nothing. -/
theorem GCall.lend0 {P : Program} {f : FuncId} {args args' : List GV} {h : GH} {v : GV} {R : GV → GH → Prop} (hc : GCall P f args' (wipe h) fun v' h' => v' = v ∧ h' = wipe h)
    (hL : LentL h args args') (hv : Cln h.next v) (hR : R v h) : GCall P f args h R := by
  refine GCall.good hc.1 fun hg => ?_
  have hw : Good (wipe h) := ⟨fun id h => absurd rfl h, fun id t e r h => (by cases h), fun id es h => (by cases h)⟩
  exact GCall.lend (bs := []) (hc.mono fun v' h' ⟨e1, e2⟩ => ⟨e1, by rw [e2, add_nil hw]⟩) hL hv (fun b hb => by cases hb) (by rw [add_nil hg]; exact hR)

/-- What is handed back becomes a tree. -/
theorem GCall.frz {P : Program} {f : FuncId} {args : List GV} {h : GH} {v : GV} {bs : List (Option GBlk)} (hc : GCall P f args h fun v' h' => v' = v ∧ h' = h.add bs) :
    GCall P f args h fun v' h' => v' = Gx.frz (h.add bs) h.next 9 v ∧ h' = h := by
  refine ⟨hc.1, fun w μ vs hs hn hrel => (hc.2 w μ vs hs hn hrel).mono fun e w' ⟨x, g, h', μ', he, hs', E, hx, hg, hh⟩ => ?_⟩
  subst hg; subst hh
  have l : Less h.next (h.add bs) h := ⟨rfl, fun id hid => .inl (by rw [add_get, if_pos hid]), fun id hid => by
    cases e : h.get id with
    | none => rfl
    | some b => have := hs.next id (by rw [e]; simp); have h2 : id < h.next := this; omega⟩
  obtain ⟨μ'', h1, h2, h3⟩ := (back_less (v := g) 9 l (fun id t e r h => .inl h) (fun id es h => .inl h)).to ⟨w, h, μ⟩ w' μ' x rfl hs hs' E hx
  exact ⟨x, _, h, μ'', he, h1, h2, h3, rfl, rfl⟩

/-- A function's end where blocks below have turned and what is handed back becomes a tree. -/
theorem gret_lowfrz {h0 : GH} {R : GV → GH → Prop} {v : GV} {g : Nat → Option GBlk} {bs : List (Option GBlk)} (hg : Good h0)
    (hl : ∀ id, g id = h0.get id ∨ ∃ t e rows, g id = some (.cells t e rows) ∧ ∀ r ∈ rows, ∀ x ∈ r, Bel h0.next x) (hR : R (Gx.frz (GX h0.next g bs) h0.next 9 v) (GX h0.next g [])) : GRet h0 R v (GX h0.next g bs) := by
  refine ⟨_, _, back_less 9 ⟨by simp [gx_next], fun id hid => .inl (by rw [gx_get_low hid, gx_get_low hid]), fun id hid => ?_⟩ (fun id t e rows h => ?_) (fun id es h => ?_), hR⟩
  · obtain ⟨k, rfl⟩ : ∃ k, id = h0.next + k := ⟨id - h0.next, by omega⟩
    rw [gx_get_at]; simp
  · rcases Nat.lt_or_ge id h0.next with hid | hid
    · rw [gx_get_low hid] at h
      rcases hl id with e1 | ⟨t', e', rows', e1, e2⟩
      · exact .inl (e1.symm.trans h)
      · rw [e1] at h; cases h; exact .inr e2
    · obtain ⟨k, rfl⟩ : ∃ k, id = h0.next + k := ⟨id - h0.next, by omega⟩
      rw [gx_get_at] at h; simp at h
  · rcases Nat.lt_or_ge id h0.next with hid | hid
    · rw [gx_get_low hid] at h
      rcases hl id with e1 | ⟨t', e', rows', e1, e2⟩
      · exact .inl (e1.symm.trans h)
      · rw [e1] at h; cases h
    · obtain ⟨k, rfl⟩ : ∃ k, id = h0.next + k := ⟨id - h0.next, by omega⟩
      rw [gx_get_at] at h; simp at h
/-! ### lending, in a walk's words -/
theorem Lent.flat {h : GH} {id e off len : Nat} {t : TypeId} {rows R : List (List GV)} (hg : h.get id = some (.cells t e rows)) (hR : R = (rows.drop off).take len) (hi : ∀ r ∈ R, ∀ g ∈ r, g.idl = true) : Lent h (.msl id e off len) (.isl e R) := by
  subst hR
  refine .msl hg rfl (fun i r r' h1 h2 => by rw [h1] at h2; cases h2; rfl) hi (fun i j r r' g g' h1 h2 h3 h4 => ?_)
  rw [h1] at h2; cases h2
  rw [h3] at h4; cases h4
  exact .same _
theorem Lent.whole {h : GH} {id e len : Nat} {t : TypeId} {rows : List (List GV)} (hg : h.get id = some (.cells t e rows)) (hl : len = rows.length) (hi : ∀ r ∈ rows, ∀ g ∈ r, g.idl = true) : Lent h (.msl id e 0 len) (.isl e rows) :=
  Lent.flat hg (by simp [hl]) hi
theorem Lent.box {h : GH} {id off e : Nat} {t : TypeId} {r R : List GV} (hg : h.get id = some (.cells t e [r])) (hR : LentL h r R) (hi : ∀ g ∈ R, g.idl = true) : Lent h (.mptr id 0 off) (.iptr R off) :=
  .mptr hg rfl hR.spec.1 hi hR.spec.2
theorem Lent.aggL {h : GH} {ls ls' : List GV} (H : LentL h ls ls') : Lent h (.agg ls) (.agg ls') := .agg H.spec.1 H.spec.2
theorem Lent.tupL {h : GH} {ls ls' : List GV} (H : LentL h ls ls') : Lent h (.tup ls) (.tup ls') := .tup H.spec.1 H.spec.2
theorem Lent.fnL {h : GH} {f : Fn} {x x' c c' : List GV} (H : LentL h x x') (H' : LentL h c c') : Lent h (.fn f x c) (.fn f x' c') := .fn H.spec.1 H'.spec.1 H.spec.2 H'.spec.2
/-- Rows that are lent row by row. -/
theorem Lent.rows {h : GH} {id e len : Nat} {t : TypeId} {α : Type} {l : List α} {fr fR : α → List GV} (hg : h.get id = some (.cells t e (l.map fr))) (hl : len = l.length) (hr : ∀ x ∈ l, LentL h (fr x) (fR x)) (hi : ∀ x ∈ l, ∀ g ∈ fR x, g.idl = true) :
    Lent h (.msl id e 0 len) (.isl e (l.map fR)) := by
  subst hl
  have e0 : ((l.map fr).drop 0).take l.length = l.map fr := by rw [List.drop_zero]; exact List.take_of_length_le (by simp)
  refine .msl hg (by simp) (fun i r r' h1 h2 => ?_) (fun r hr g hg => ?_) (fun i j r r' g g' h1 h2 h3 h4 => ?_)
  · rw [e0, List.getElem?_map, Option.map_eq_some_iff] at h1
    rw [List.getElem?_map, Option.map_eq_some_iff] at h2
    obtain ⟨a, ha, rfl⟩ := h1
    obtain ⟨b, hb, rfl⟩ := h2
    rw [ha] at hb; cases hb
    exact (hr a (List.mem_of_getElem? ha)).spec.1
  · obtain ⟨x, hx, rfl⟩ := List.mem_map.1 hr
    exact hi x hx g hg
  · rw [e0, List.getElem?_map, Option.map_eq_some_iff] at h1
    rw [List.getElem?_map, Option.map_eq_some_iff] at h2
    obtain ⟨a, ha, rfl⟩ := h1
    obtain ⟨b, hb, rfl⟩ := h2
    rw [ha] at hb; cases hb
    exact (hr a (List.mem_of_getElem? ha)).spec.2 j g g' h3 h4
section
variable {n k : Nat} {g : Nat → Option GBlk} {bs : List (Option GBlk)}
def frzS (h : GH) (n k : Nat) (b : Option GBlk) (e off len : Nat) : GV := match b with | some (.cells _ e' rows) => if e' = e then .isl e (((rows.drop off).take len).map (frow h n k)) else .dead | _ => .dead
@[push_cast] theorem frz_gx_at {j e off len : Nat} : Gx.frz (GX n g bs) n (k + 1) (.msl (n + j) e off len) = frzS (GX n g bs) n k (bs[j]?).join e off len := by
  simp only [Gx.frz, gx_get_at]
  rw [if_neg (by omega)]
  rfl
@[push_cast] theorem frz_gx_n {e off len : Nat} : Gx.frz (GX n g bs) n (k + 1) (.msl n e off len) = frzS (GX n g bs) n k (bs[0]?).join e off len := by
  simp only [Gx.frz, gx_get_n]
  rw [if_neg (by omega)]
  rfl
@[push_cast] theorem frzS_whole {h : GH} {t : TypeId} {e len : Nat} {rows : List (List GV)} : frzS h n k (some (.cells t e rows)) e 0 len = .isl e ((rows.take len).map (frow h n k)) := by simp [frzS]
end
end Gx
