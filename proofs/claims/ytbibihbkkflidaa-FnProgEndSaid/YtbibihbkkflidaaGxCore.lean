/- Ghost values, ghost heaps, and how they stand to the model's worlds. -/
import Derived.Tactics
import Derived.Laws.CopyRow
namespace Gx
open Go

inductive GV where
  | v (x : Value)
  | esl
  | isl (esz : Nat) (rows : List (List GV))
  | iptr (row : List GV) (off : Nat)
  | msl (id esz off len : Nat)
  | mptr (id i off : Nat)
  | mmap (id : Nat)
  | fn (f : Fn) (first caps : List GV)
  | agg (ls : List GV)
  | tup (vs : List GV)
  | dead
  deriving Inhabited

/-- A leaf without the name of a block. -/
def GV.idl : GV → Bool
  | .v _ | .esl | .isl _ _ | .iptr _ _ | .dead => true
  | .fn _ f c => f.isEmpty && c.isEmpty
  | _ => false
def GV.idf : GV → Bool
  | .agg ls => ls.all GV.idl
  | .tup vs => vs.all fun
    | .agg ls => ls.all GV.idl
    | g => g.idl
  | g => g.idl

inductive GBlk where
  | cells (t : TypeId) (esz : Nat) (rows : List (List GV))
  | mp (es : List (Value × GV))

structure GH where
  get : Nat → Option GBlk
  next : Nat

def GH.set (h : GH) (id : Nat) (b : GBlk) : GH := ⟨fun j => if j = id then some b else h.get j, h.next⟩
def GH.del (h : GH) (id : Nat) : GH := ⟨fun j => if j = id then none else h.get j, h.next⟩
def GH.new (h : GH) (b : GBlk) : GH := ⟨fun j => if j = h.next then some b else h.get j, h.next + 1⟩
def GH.trim (h : GH) (n : Nat) : GH := ⟨fun j => if j < n then h.get j else none, n⟩

structure Sh where
  w : World
  h : GH
  μ : Nat → Option (Nat × Nat)

def Sh.owned (S : Sh) (b : Nat) : Prop := ∃ id base, S.h.get id ≠ none ∧ S.μ id = some (b, base)

def one : Value → Bool
  | .agg _ | .tuple _ => false
  | _ => true

def scalar : Value → Bool
  | .bool _ | .int _ _ | .float _ _ | .complex _ _ _ | .string _ | .pointer none | .map none | .chan none | .nilFunc | .nilIface => true
  | _ => false

inductive VRel (S : Sh) : GV → Value → Prop where
  | v {x : Value} (h : scalar x = true) : VRel S (.v x) x
  | esl (a : Option Addr) : VRel S .esl (.slice a 0 0)
  | isl0 (esz : Nat) (a : Option Addr) (cap : Nat) : VRel S (.isl esz []) (.slice a 0 cap)
  | isl {esz : Nat} {rows : List (List GV)} {b o len cap : Nat} (u : Nat → Nat → Value) (hl : len = rows.length) (hb : b < S.w.heap.size) (ho : ¬ S.owned b) (hcap : len ≤ cap)
      (hsz : ∀ r ∈ rows, r.length = esz)
      (hc : ∀ i j, i < rows.length → j < esz → S.w.cell? ⟨b, o + (i * esz + j), none⟩ = some (u i j))
      (h1 : ∀ i j, i < rows.length → j < esz → one (u i j) = true)
      (hf : ∀ r ∈ rows, ∀ g ∈ r, g.idl = true)
      (hv : ∀ (i j : Nat) (r : List GV) (g : GV), rows[i]? = some r → r[j]? = some g → VRel S g (u i j)) : VRel S (.isl esz rows) (.slice (some ⟨b, o, none⟩) len cap)
  | iptr {row : List GV} {off b o : Nat} (u : Nat → Value) (hb : b < S.w.heap.size) (ho : ¬ S.owned b)
      (hc : ∀ j, j < row.length → S.w.cell? ⟨b, o + j, none⟩ = some (u j))
      (h1 : ∀ j, j < row.length → one (u j) = true)
      (hf : ∀ g ∈ row, g.idl = true)
      (hv : ∀ (j : Nat) (g : GV), row[j]? = some g → VRel S g (u j)) : VRel S (.iptr row off) (.pointer (some ⟨b, o + off, none⟩))
  | msl {id esz off len : Nat} {t : TypeId} {rows : List (List GV)} {a : Option Addr} {cap : Nat} (hg : S.h.get id = some (.cells t esz rows)) (hl : off + len ≤ rows.length)
      (hr : (len = 0 ∧ cap = 0) ∨ (len ≤ cap ∧ ∃ rb base c fr, S.μ id = some (rb, base) ∧ a = some ⟨rb, base + off * esz, none⟩ ∧ S.w.heap[rb]? = some (.cells c t fr) ∧ base + (off + cap) * esz ≤ c.size)) :
      VRel S (.msl id esz off len) (.slice a len cap)
  | mslOld {id esz off len : Nat} {a : Option Addr} {cap : Nat} (hg : S.h.get id = none) (hn : id < S.h.next) (ha : len = 0 ∨ ∃ b o, a = some ⟨b, o, none⟩) (hcap : len ≤ cap) : VRel S (.msl id esz off len) (.slice a len cap)
  | mptr {id i off : Nat} {t esz : Nat} {rows : List (List GV)} {rb base : Nat} (hg : S.h.get id = some (.cells t esz rows)) (hi : i < rows.length) (hm : S.μ id = some (rb, base)) :
      VRel S (.mptr id i off) (.pointer (some ⟨rb, base + (i * esz + off), none⟩))
  | mptrOld {id i off b o : Nat} (hg : S.h.get id = none) (hn : id < S.h.next) : VRel S (.mptr id i off) (.pointer (some ⟨b, o, none⟩))
  | mmap {id : Nat} {es : List (Value × GV)} {rb : Nat} (hg : S.h.get id = some (.mp es)) (hm : S.μ id = some (rb, 0)) : VRel S (.mmap id) (.map (some rb))
  | mmapOld {id b : Nat} (hg : S.h.get id = none) (hn : id < S.h.next) : VRel S (.mmap id) (.map (some b))
  | fn {f : Fn} {first caps : List GV} {fs cs : Array Value} (h1 : fs.size = first.length) (h2 : cs.size = caps.length)
      (h3 : ∀ (i : Nat) (g : GV) (x : Value), first[i]? = some g → fs[i]? = some x → VRel S g x) (h4 : ∀ (i : Nat) (g : GV) (x : Value), caps[i]? = some g → cs[i]? = some x → VRel S g x) : VRel S (.fn f first caps) (.func f fs cs)
  | agg {ls : List GV} {cs : Array Value} (h1 : cs.size = ls.length) (h2 : ∀ (i : Nat) (g : GV) (x : Value), ls[i]? = some g → cs[i]? = some x → VRel S g x) (h3 : ∀ (i : Nat) (x : Value), cs[i]? = some x → one x = true) : VRel S (.agg ls) (.agg cs)
  | tup {ls : List GV} {cs : Array Value} (h1 : cs.size = ls.length) (h2 : ∀ (i : Nat) (g : GV) (x : Value), ls[i]? = some g → cs[i]? = some x → VRel S g x) : VRel S (.tup ls) (.tuple cs)
  | dead (x : Value) : VRel S .dead x

/-- A leaf: what stands in one cell. -/
def GV.leaf : GV → Bool
  | .agg _ | .tup _ | .dead => false
  | _ => true

theorem VRel.one_of_leaf {S : Sh} {g : GV} {x : Value} (h : VRel S g x) (hl : g.leaf = true) : one x = true := by
  cases h <;> first | rfl | assumption | (simp [GV.leaf] at hl; done) | skip
  rename_i h
  cases x <;> simp_all [scalar, one]

/-- A block keeps its size and its kind. -/
structure Evolve (S S' : Sh) : Prop where
  os : S'.w.os = S.w.os
  tape : S'.w.tape = S.w.tape
  output : S'.w.output = S.w.output
  size : S.w.heap.size ≤ S'.w.heap.size
  keep : ∀ b, b < S.w.heap.size → ¬ S.owned b → S'.w.heap[b]? = S.w.heap[b]?
  own : ∀ b, b < S.w.heap.size → S'.owned b → S.owned b
  cells : ∀ (b : Nat) (c : Array Value) (t : TypeId) (fr : Nat × Nat), S.w.heap[b]? = some (.cells c t fr) → ∃ (c' : Array Value) (fr' : Nat × Nat), S'.w.heap[b]? = some (.cells c' t fr') ∧ c'.size = c.size
  next : S.h.next ≤ S'.h.next
  old : ∀ id, id < S.h.next → S'.h.get id ≠ none → S.h.get id ≠ none ∧ S'.μ id = S.μ id
  rows : ∀ id t esz rows, S.h.get id = some (.cells t esz rows) → S'.h.get id = none ∨ ∃ rows', S'.h.get id = some (.cells t esz rows') ∧ rows'.length = rows.length
  maps : ∀ id es, S.h.get id = some (.mp es) → S'.h.get id = none ∨ ∃ es', S'.h.get id = some (.mp es')

theorem Evolve.refl (S : Sh) : Evolve S S :=
  ⟨rfl, rfl, rfl, Nat.le_refl _, fun _ _ _ => rfl, fun _ _ h => h, fun _ c _ fr h => ⟨c, fr, h, rfl⟩, Nat.le_refl _, fun _ _ h => ⟨h, rfl⟩, fun _ _ _ rows h => .inr ⟨rows, h, rfl⟩, fun _ es h => .inr ⟨es, h⟩⟩

theorem Evolve.trans {A B C : Sh} (hn : ∀ id, A.h.get id ≠ none → id < A.h.next) (h : Evolve A B) (k : Evolve B C) : Evolve A C where
  os := k.os.trans h.os
  tape := k.tape.trans h.tape
  output := k.output.trans h.output
  size := Nat.le_trans h.size k.size
  keep := fun b hb ho => (k.keep b (Nat.lt_of_lt_of_le hb h.size) (fun hB => ho (h.own b hb hB))).trans (h.keep b hb ho)
  own := fun b hb hC => h.own b hb (k.own b (Nat.lt_of_lt_of_le hb h.size) hC)
  cells := fun b c t fr hc => by
    obtain ⟨c1, f1, h1, e1⟩ := h.cells b c t fr hc
    obtain ⟨c2, f2, h2, e2⟩ := k.cells b c1 t f1 h1
    exact ⟨c2, f2, h2, e2.trans e1⟩
  next := Nat.le_trans h.next k.next
  old := fun id hid hC => by
    obtain ⟨hB, e⟩ := k.old id (Nat.lt_of_lt_of_le hid h.next) hC
    obtain ⟨hA, e'⟩ := h.old id hid hB
    exact ⟨hA, e.trans e'⟩
  rows := fun id t esz rows hA => by
    have hid := hn id (by rw [hA]; simp)
    rcases h.rows id t esz rows hA with hB | ⟨r1, hB, l1⟩
    · refine .inl ?_
      rcases hC : C.h.get id with _ | b
      · rfl
      · exact absurd hB (k.old id (Nat.lt_of_lt_of_le hid h.next) (by rw [hC]; simp)).1
    · rcases k.rows id t esz r1 hB with hC | ⟨r2, hC, l2⟩
      · exact .inl hC
      · exact .inr ⟨r2, hC, l2.trans l1⟩
  maps := fun id es hA => by
    have hid := hn id (by rw [hA]; simp)
    rcases h.maps id es hA with hB | ⟨r1, hB⟩
    · refine .inl ?_
      rcases hC : C.h.get id with _ | b
      · rfl
      · exact absurd hB (k.old id (Nat.lt_of_lt_of_le hid h.next) (by rw [hC]; simp)).1
    · exact k.maps id r1 hB

theorem cell?_keep {w w' : World} {b : Nat} (h : w'.heap[b]? = w.heap[b]?) (o : Nat) (s : Option Nat) : w'.cell? ⟨b, o, s⟩ = w.cell? ⟨b, o, s⟩ := by
  simp only [World.cell?, h]

theorem VRel.mono {S S' : Sh} (hn : ∀ id, S.h.get id ≠ none → id < S.h.next) (E : Evolve S S') {g : GV} {x : Value} (h : VRel S g x) : VRel S' g x := by
  induction h with
  | v h => exact .v h
  | esl a => exact .esl a
  | isl0 esz a cap => exact .isl0 esz a cap
  | isl u hl hb ho hcap hsz hc h1 hf hv ih =>
    have hk := E.keep _ hb ho
    exact .isl u hl (Nat.lt_of_lt_of_le hb E.size) (fun h => ho (E.own _ hb h)) hcap hsz (fun i j hi hj => (cell?_keep hk _ _).trans (hc i j hi hj)) h1 hf ih
  | iptr u hb ho hc h1 hf hv ih =>
    have hk := E.keep _ hb ho
    exact .iptr u (Nat.lt_of_lt_of_le hb E.size) (fun h => ho (E.own _ hb h)) (fun j hj => (cell?_keep hk _ _).trans (hc j hj)) h1 hf ih
  | @msl id esz off len t rows a cap hg hl hr =>
    have hid := hn id (by rw [hg]; simp)
    rcases E.rows id t esz rows hg with h0 | ⟨rows', h0, hlen⟩
    · refine .mslOld h0 (Nat.lt_of_lt_of_le hid E.next) ?_ (by rcases hr with hr | hr <;> omega)
      rcases hr with hr | ⟨hle, rb, base, c, fr, hm, ha, hc, hsz⟩
      · exact .inl hr.1
      · exact .inr ⟨_, _, ha⟩
    · refine .msl h0 (by omega) ?_
      rcases hr with hr | ⟨hle, rb, base, c, fr, hm, ha, hc, hsz⟩
      · exact .inl hr
      · obtain ⟨c', fr', hc', hs'⟩ := E.cells rb c t fr hc
        exact .inr ⟨hle, rb, base, c', fr', (E.old id hid (by rw [h0]; simp)).2.trans hm, ha, hc', by omega⟩
  | @mslOld id esz off len a cap hg hn' h1 h2 =>
    refine .mslOld ?_ (Nat.lt_of_lt_of_le hn' E.next) h1 h2
    rcases hC : S'.h.get id with _ | b
    · rfl
    · exact absurd hg (E.old id hn' (by rw [hC]; simp)).1
  | @mptr id i off t esz rows rb base hg hi hm =>
    have hid := hn id (by rw [hg]; simp)
    rcases E.rows id t esz rows hg with h0 | ⟨rows', h0, hlen⟩
    · exact .mptrOld h0 (Nat.lt_of_lt_of_le hid E.next)
    · exact .mptr h0 (by omega) ((E.old id hid (by rw [h0]; simp)).2.trans hm)
  | @mptrOld id i off b o hg hn' =>
    refine .mptrOld ?_ (Nat.lt_of_lt_of_le hn' E.next)
    rcases hC : S'.h.get id with _ | b
    · rfl
    · exact absurd hg (E.old id hn' (by rw [hC]; simp)).1
  | @mmap id es rb hg hm =>
    have hid := hn id (by rw [hg]; simp)
    rcases E.maps id es hg with h0 | ⟨es', h0⟩
    · exact .mmapOld h0 (Nat.lt_of_lt_of_le hid E.next)
    · exact .mmap h0 ((E.old id hid (by rw [h0]; simp)).2.trans hm)
  | @mmapOld id b hg hn' =>
    refine .mmapOld ?_ (Nat.lt_of_lt_of_le hn' E.next)
    rcases hC : S'.h.get id with _ | b
    · rfl
    · exact absurd hg (E.old id hn' (by rw [hC]; simp)).1
  | fn h1 h2 h3 h4 ih3 ih4 => exact .fn h1 h2 ih3 ih4
  | agg h1 h2 h3 ih => exact .agg h1 ih h3
  | tup h1 h2 ih => exact .tup h1 ih
  | dead x => exact .dead x

/-- What bears no name of a block stands as long as the blocks that nobody owned stay so and stay as they were. -/
theorem VRel.idl_mono {S S' : Sh} (hs : S.w.heap.size ≤ S'.w.heap.size) (hk : ∀ b, b < S.w.heap.size → ¬ S.owned b → ¬ S'.owned b ∧ S'.w.heap[b]? = S.w.heap[b]?)
    {g : GV} {x : Value} (h : VRel S g x) (hi : g.idl = true) : VRel S' g x := by
  induction h with
  | v h => exact .v h
  | esl a => exact .esl a
  | isl0 esz a cap => exact .isl0 esz a cap
  | isl u hl hb ho hcap hsz hc h1 hf hv ih =>
    obtain ⟨ho', hk'⟩ := hk _ hb ho
    exact .isl u hl (Nat.lt_of_lt_of_le hb hs) ho' hcap hsz (fun i j hi hj => (cell?_keep hk' _ _).trans (hc i j hi hj)) h1 hf
      (fun i j r g h2 h3 => ih i j r g h2 h3 (hf r (List.mem_of_getElem? h2) g (List.mem_of_getElem? h3)))
  | iptr u hb ho hc h1 hf hv ih =>
    obtain ⟨ho', hk'⟩ := hk _ hb ho
    exact .iptr u (Nat.lt_of_lt_of_le hb hs) ho' (fun j hj => (cell?_keep hk' _ _).trans (hc j hj)) h1 hf
      (fun j g h2 => ih j g h2 (hf g (List.mem_of_getElem? h2)))
  | @fn f first caps fs cs h1 h2 h3 h4 ih3 ih4 =>
    simp only [GV.idl, Bool.and_eq_true, List.isEmpty_iff] at hi
    obtain ⟨rfl, rfl⟩ := hi
    exact .fn h1 h2 (fun i g x h => by simp at h) (fun i g x h => by simp at h)
  | dead x => exact .dead x
  | _ => simp [GV.idl] at hi
theorem VRel.idf_mono {S S' : Sh} (hs : S.w.heap.size ≤ S'.w.heap.size) (hk : ∀ b, b < S.w.heap.size → ¬ S.owned b → ¬ S'.owned b ∧ S'.w.heap[b]? = S.w.heap[b]?)
    {g : GV} {x : Value} (h : VRel S g x) (hi : g.idf = true) : VRel S' g x := by
  cases g with
  | agg ls =>
    cases h with
    | agg h1 h2 h3 =>
      simp only [GV.idf, List.all_eq_true] at hi
      exact .agg h1 (fun i g x hg hx => (h2 i g x hg hx).idl_mono hs hk (hi g (List.mem_of_getElem? hg))) h3
  | tup vs =>
    cases h with
    | tup h1 h2 =>
      simp only [GV.idf, List.all_eq_true] at hi
      refine .tup h1 (fun i g x hg hx => ?_)
      have h3 := h2 i g x hg hx
      have h4 := hi g (List.mem_of_getElem? hg)
      cases g with
      | agg ls =>
        cases h3 with
        | agg h1 h2 h3 =>
          simp only [List.all_eq_true] at h4
          exact .agg h1 (fun i g x hg hx => (h2 i g x hg hx).idl_mono hs hk (h4 g (List.mem_of_getElem? hg))) h3
      | _ => exact h3.idl_mono hs hk h4
  | _ => exact h.idl_mono hs hk hi

/-- What the ghost heap says of the world. -/
structure Sim (S : Sh) : Prop where
  next : ∀ id, S.h.get id ≠ none → id < S.h.next
  inj : ∀ id id' b o o', S.h.get id ≠ none → S.h.get id' ≠ none → S.μ id = some (b, o) → S.μ id' = some (b, o') → id = id'
  cells : ∀ id t esz rows, S.h.get id = some (.cells t esz rows) → (∀ r ∈ rows, r.length = esz) ∧
    ((rows = [] ∧ S.μ id = none) ∨ ∃ (rb base : Nat) (c : Array Value), S.μ id = some (rb, base) ∧ S.w.heap[rb]? = some (.cells c t (0, 0)) ∧ base + rows.length * esz ≤ c.size ∧
      ∀ (i j : Nat) (r : List GV) (g : GV), rows[i]? = some r → r[j]? = some g → ∃ u : Value, c[base + (i * esz + j)]? = some u ∧ one u = true ∧ VRel S g u)
  maps : ∀ id es, S.h.get id = some (.mp es) → ∃ (rb : Nat) (ms : Array MapEntry) (clock : Nat), S.μ id = some (rb, 0) ∧ S.w.heap[rb]? = some (.map ms clock) ∧ ms.size = es.length ∧
      (∀ (i : Nat) (e : MapEntry), ms[i]? = some e → e.born < clock) ∧
      (∀ (i j : Nat) (e e' : MapEntry), ms[i]? = some e → ms[j]? = some e' → e.born = e'.born → i = j) ∧
      ∀ (i : Nat) (k : Value) (g : GV), es[i]? = some (k, g) → ∃ e : MapEntry, ms[i]? = some e ∧ e.key = k ∧ VRel S g e.val

/-- A ghost frame: what is known of an activation's slots. -/
structure GF where
  n : Nat
  m : List (Nat × GV)

def GF.look : List (Nat × GV) → Nat → GV
  | [], _ => .dead
  | (k, g) :: r, t => if k = t then g else GF.look r t
def GF.get (a : GF) (t : Nat) : GV := GF.look a.m t
def GF.put (a : GF) (dst : Option Nat) (g : GV) : GF :=
  match dst with
  | some d => if d < a.n then ⟨a.n, (d, g) :: a.m⟩ else a
  | none => a

structure FRel (S : Sh) (a : GF) (act : Act) : Prop where
  defers : act.defers = []
  size : act.tmps.size = a.n
  tmps : ∀ t, VRel S (a.get t) (act.tmps.getD t undef)

theorem FRel.mono {S S' : Sh} (hn : ∀ id, S.h.get id ≠ none → id < S.h.next) (E : Evolve S S') {a : GF} {act : Act} (h : FRel S a act) : FRel S' a act :=
  ⟨h.defers, h.size, fun t => (h.tmps t).mono hn E⟩

theorem FRel.put {S : Sh} {a : GF} {act : Act} (h : FRel S a act) (dst : Option Nat) {g : GV} {x : Value} (hx : VRel S g x) : FRel S (a.put dst g) (act.put dst x) := by
  cases dst with
  | none => exact h
  | some d =>
    simp only [GF.put, Act.put]
    split
    · rename_i hd
      refine ⟨h.defers, by simpa using h.size, fun t => ?_⟩
      simp only [GF.get, GF.look]
      have hs := h.size
      by_cases e : d = t
      · subst e
        rw [if_pos rfl]
        have : d < act.tmps.size := by omega
        simp [this]
        exact hx
      · rw [if_neg e]
        have ht := h.tmps t
        simp only [GF.get] at ht
        simpa [Array.getElem?_setIfInBounds_ne e] using ht
    · rename_i hd
      have hs := h.size
      refine ⟨h.defers, by simpa using h.size, fun t => ?_⟩
      have : act.tmps.setIfInBounds d x = act.tmps := by
        rw [Array.setIfInBounds_def, dif_neg (by omega)]
      simp only [this]
      exact h.tmps t

def St (S : Sh) (a : GF) (act : Act) : Prop := Sim S ∧ FRel S a act
end Gx
