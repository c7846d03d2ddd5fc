/- Heaps as a walk leaves them: what came in, and a list of new blocks; blocks under new names. -/
import Derived.Test.YtbibihbkkflidaaGxSub
set_option linter.unusedSimpArgs false
set_option linter.unusedVariables false
namespace Gx
open Go

/-- What came in (below n), and new blocks. -/
def GX (n : Nat) (g : Nat → Option GBlk) (bs : List (Option GBlk)) : GH := ⟨fun j => if j < n then g j else (bs[j - n]?).join, n + bs.length⟩
def upd (g : Nat → Option GBlk) (i : Nat) (b : Option GBlk) : Nat → Option GBlk := fun j => if j = i then b else g j
def GH.add (h : GH) (bs : List (Option GBlk)) : GH := GX h.next h.get bs

theorem GH.same {h h' : GH} (h1 : ∀ j, h.get j = h'.get j) (h2 : h.next = h'.next) : h = h' := by
  cases h; cases h'
  simp only [GH.mk.injEq]
  exact ⟨funext h1, h2⟩

/-- What is known of a heap that stands for a world. -/
structure Good (h : GH) : Prop where
  next : ∀ id, h.get id ≠ none → id < h.next
  cells : ∀ id t e rows, h.get id = some (.cells t e rows) → ∀ r ∈ rows, ∀ g ∈ r, Bel h.next g
  maps : ∀ id es, h.get id = some (.mp es) → ∀ p ∈ es, Bel h.next p.2

theorem Sim.good {S : Sh} (hs : Sim S) : Good S.h where
  next := hs.next
  cells := fun id t e rows hg r hr g hgr => by
    obtain ⟨h1', h2'⟩ := hs.cells id t e rows hg
    obtain ⟨i, hi, er⟩ := List.mem_iff_getElem.1 hr
    obtain ⟨j, hj, eg⟩ := List.mem_iff_getElem.1 hgr
    rcases h2' with h | ⟨rb, base, c, _, _, _, hrel⟩
    · rw [h.1] at hr; cases hr
    · obtain ⟨u, _, _, hvu⟩ := hrel i j r g (by rw [List.getElem?_eq_getElem hi, er]) (by rw [List.getElem?_eq_getElem hj, eg])
      exact hvu.bel hs.next
  maps := fun id es hg p hp => by
    obtain ⟨rb', ms', clock', _, _, _, _, _, h6'⟩ := hs.maps id es hg
    obtain ⟨i, hi, er⟩ := List.mem_iff_getElem.1 hp
    obtain ⟨e', _, _, hvu'⟩ := h6' i p.1 p.2 (by rw [List.getElem?_eq_getElem hi, er])
    exact hvu'.bel hs.next

theorem GX_of {h : GH} (hn : Good h) : GX h.next h.get [] = h := by
  refine GH.same (fun j => ?_) (by simp [GX])
  simp only [GX]
  split
  · rfl
  · rename_i hj
    cases e : h.get j with
    | none => simp
    | some b => exact absurd (hn.next j (by rw [e]; simp)) hj

section
variable {n : Nat} {g : Nat → Option GBlk} {bs cs : List (Option GBlk)} {k id : Nat} {b : GBlk}
theorem gx_get_low (hi : id < n) : (GX n g bs).get id = g id := by simp [GX, hi]
@[push_cast] theorem gx_get_at : (GX n g bs).get (n + k) = (bs[k]?).join := by
  simp only [GX]
  rw [if_neg (by omega), Nat.add_sub_cancel_left]
@[push_cast] theorem gx_get_n : (GX n g bs).get n = (bs[0]?).join := by simp [GX]
@[push_cast] theorem gx_next : (GX n g bs).next = n + bs.length := nd rfl
def GH.setRaw (h : GH) (id : Nat) (b : GBlk) : GH := h.set id b
@[push_cast] theorem gx_set_at : (GX n g bs).set (n + k) b = if k < bs.length then GX n g (bs.set k (some b)) else (GX n g bs).setRaw (n + k) b := by
  split
  · rename_i hk
    refine GH.same (fun j => ?_) (by simp [GX, GH.set])
    simp only [GX, GH.set]
    by_cases e : j = n + k
    · subst e
      rw [if_pos rfl, if_neg (by omega), Nat.add_sub_cancel_left]
      simp [hk]
    · rw [if_neg e]
      split
      · rfl
      · rename_i hj
        rw [List.getElem?_set_ne (by omega)]
  · rfl
@[push_cast] theorem gx_set_n : (GX n g bs).set n b = if 0 < bs.length then GX n g (bs.set 0 (some b)) else (GX n g bs).setRaw n b := by
  have := @gx_set_at n g bs 0 b
  simpa using this
theorem gx_set_low (hi : id < n) : (GX n g bs).set id b = GX n (upd g id (some b)) bs := by
  refine GH.same (fun j => ?_) (by simp [GX, GH.set])
  simp only [GX, GH.set, upd]
  by_cases e : j = id
  · subst e; simp [hi]
  · simp [e]
@[push_cast] theorem gx_new : (GX n g bs).new b = GX n g (bs ++ [some b]) := by
  refine GH.same (fun j => ?_) (by simp [GX, GH.new]; omega)
  rw [get_new, gx_next]
  by_cases e : j = n + bs.length
  · subst e
    rw [if_pos rfl, gx_get_at]
    simp
  · rw [if_neg e]
    simp only [GX]
    split
    · rfl
    · rename_i hj
      rw [List.getElem?_append]
      split
      · rfl
      · rw [List.getElem?_eq_none (l := bs) (by omega), List.getElem?_eq_none (by simp only [List.length_cons, List.length_nil]; omega)]
@[push_cast] theorem gx_del_at : (GX n g bs).del (n + k) = GX n g (bs.set k none) := by
  refine GH.same (fun j => ?_) (by simp [GX, GH.del])
  simp only [GX, GH.del]
  by_cases e : j = n + k
  · subst e
    simp only [if_true]
    rw [if_neg (by omega)]
    by_cases hk : k < bs.length
    · simp [hk]
    · rw [List.getElem?_eq_none (by simp; omega)]; rfl
  · rw [if_neg e]
    split
    · rfl
    · rw [List.getElem?_set_ne (by omega)]
@[push_cast] theorem gx_del_n : (GX n g bs).del n = GX n g (bs.set 0 none) := by
  have := @gx_del_at n g bs 0
  simpa using this
theorem add_get {h : GH} {j : Nat} : (h.add cs).get j = if j < h.next then h.get j else (cs[j - h.next]?).join := rfl
theorem gx_get {j : Nat} : (GX n g bs).get j = if j < n then g j else (bs[j - n]?).join := rfl
@[push_cast] theorem gx_add : (GX n g bs).add cs = GX n g (bs ++ cs) := by
  refine GH.same (fun j => ?_) (by simp [GX, GH.add]; omega)
  rw [add_get, gx_next, gx_get, gx_get]
  by_cases h1 : j < n
  · rw [if_pos (by omega)]; simp only [if_pos h1]
  · simp only [if_neg h1]
    by_cases h2 : j < n + bs.length
    · rw [if_pos h2, List.getElem?_append_left (by omega)]
    · rw [if_neg h2, List.getElem?_append_right (by omega), show j - n - bs.length = j - (n + bs.length) by omega]
@[push_cast] theorem upd_same {b c : Option GBlk} : upd (upd g id b) id c = upd g id c := by
  funext j; simp only [upd]; split <;> rfl
@[push_cast] theorem upd_get {b : Option GBlk} {j : Nat} : upd g id b j = if j = id then b else g j := nd rfl
@[push_cast] theorem join_some {x : Option GBlk} : (some x).join = x := nd rfl
@[push_cast] theorem join_none : (none : Option (Option GBlk)).join = none := nd rfl
theorem upd_self {b : Option GBlk} (h : g id = b) : upd g id b = g := by funext j; simp only [upd]; split; rename_i e; rw [e, h]; rfl
theorem set_get' {h : GH} : (h.set id b).get = upd h.get id (some b) := rfl
end

/-! ### new names -/
/-- Where a block comes from: the old one of this number (above n), or nothing was there. -/
inductive Src where
  | o (j : Nat)
  | z (e : Nat)
  deriving DecidableEq

def bot : GV := .v (.tuple #[])
theorem bot_rel {S : Sh} {x : Value} (h : VRel S bot x) : False := by cases h; rename_i h; simp [scalar] at h

def unI (n : Nat) (s : Option Src) (k : Nat → GV) : GV := match s with | some (.o j) => k (n + j) | _ => bot
def unS (n : Nat) (s : Option Src) (e off len : Nat) : GV :=
  match s with
  | some (.o j) => .msl (n + j) e off len
  | some (.z e') => if e' = e ∧ off = 0 ∧ len = 0 then .esl else bot
  | none => bot

/-- What a value under new names was before. -/
def un (n : Nat) (os : List Src) : Nat → GV → GV
  | 0, g => if g.idl then g else bot
  | k + 1, g => match g with
    | .msl id e off len => if id < n then .msl id e off len else unS n os[id - n]? e off len
    | .mptr id i off => if id < n then .mptr id i off else unI n os[id - n]? fun o => .mptr o i off
    | .mmap id => if id < n then .mmap id else unI n os[id - n]? .mmap
    | .agg ls => .agg (ls.map (un n os k))
    | .tup ls => .tup (ls.map (un n os k))
    | .fn f x c => .fn f (x.map (un n os k)) (c.map (un n os k))
    | g => g
def unB (n : Nat) (os : List Src) (k : Nat) : GBlk → GBlk
  | .cells t e rows => .cells t e (rows.map fun r => r.map (un n os k))
  | .mp es => .mp (es.map fun p => (p.1, un n os k p.2))

structure Ren (h0 : GH) (os : List Src) (k : Nat) (h h' : GH) : Prop where
  next : h'.next = h0.next + os.length
  low : ∀ id, id < h0.next → (h'.get id = h.get id ∧ h.get id = h0.get id) ∨ ∃ b', h'.get id = some b' ∧ h.get id = some (unB h0.next os k b')
  top : ∀ i j, os[i]? = some (.o j) → ∃ b', h'.get (h0.next + i) = some b' ∧ h.get (h0.next + j) = some (unB h0.next os k b')
  nil : ∀ i e, os[i]? = some (.z e) → ∃ t, h'.get (h0.next + i) = some (.cells t e [])
  high : ∀ i, os.length ≤ i → h'.get (h0.next + i) = none
  nodup : ∀ (i j o : Nat), os[i]? = some (.o o) → os[j]? = some (.o o) → i = j

def muR (n : Nat) (os : List Src) (μ : Nat → Option (Nat × Nat)) : Nat → Option (Nat × Nat) := fun id => if id < n then μ id else match os[id - n]? with | some (.o j) => μ (n + j) | _ => none

/-- Blocks of one shape. -/
def shp : GBlk → GBlk → Prop
  | .cells t e r, .cells t' e' r' => t = t' ∧ e = e' ∧ r.length = r'.length
  | .mp _, .mp _ => True
  | _, _ => False
theorem shp_refl (b : GBlk) : shp b b := by cases b <;> simp [shp]
theorem shp_unB (n : Nat) (os : List Src) (k : Nat) (b : GBlk) : shp (unB n os k b) b := by cases b <;> simp [shp, unB]

section
variable {h0 h h' : GH} {os : List Src} {k : Nat} {w : World} {μ : Nat → Option (Nat × Nat)}

theorem Ren.lows (R : Ren h0 os k h h') {id : Nat} (hid : id < h0.next) : (h.get id = none ∧ h'.get id = none) ∨ ∃ b b', h.get id = some b ∧ h'.get id = some b' ∧ shp b b' := by
  rcases R.low id hid with ⟨e, _⟩ | ⟨b', e1, e2⟩
  · cases hb : h.get id with
    | none => exact .inl ⟨rfl, by rw [e, hb]⟩
    | some b => exact .inr ⟨b, b, rfl, by rw [e, hb], shp_refl b⟩
  · exact .inr ⟨_, b', e2, e1, shp_unB ..⟩

theorem muR_low {n : Nat} {id : Nat} (h : id < n) : muR n os μ id = μ id := by simp [muR, h]
theorem muR_top {n : Nat} {i : Nat} : muR n os μ (n + i) = match os[i]? with | some (.o j) => μ (n + j) | _ => none := by
  simp only [muR]
  rw [if_neg (by omega), Nat.add_sub_cancel_left]

theorem Ren.owned (R : Ren h0 os k h h') {b : Nat} (ho : Sh.owned ⟨w, h', muR h0.next os μ⟩ b) : Sh.owned ⟨w, h, μ⟩ b := by
  obtain ⟨id, base, hg, hm⟩ := ho
  by_cases hid : id < h0.next
  · simp only [muR_low hid] at hm
    rcases R.lows hid with ⟨_, e⟩ | ⟨b1, b2, e1, _⟩
    · exact absurd e hg
    · exact ⟨id, base, by show h.get id ≠ none; rw [e1]; simp, hm⟩
  · obtain ⟨i, rfl⟩ : ∃ i, id = h0.next + i := ⟨id - h0.next, by omega⟩
    simp only [muR_top] at hm
    split at hm
    · rename_i j hj
      obtain ⟨b', _, e2⟩ := R.top i j hj
      exact ⟨h0.next + j, base, by show h.get _ ≠ none; rw [e2]; simp, hm⟩
    · cases hm

theorem Ren.idl (R : Ren h0 os k h h') {g : GV} {x : Value} (hv : VRel ⟨w, h, μ⟩ g x) (hi : g.idl = true) : VRel ⟨w, h', muR h0.next os μ⟩ g x :=
  VRel.idl_mono (S := ⟨w, h, μ⟩) (S' := ⟨w, h', muR h0.next os μ⟩) (Nat.le_refl _) (fun b _ ho => ⟨fun h1 => ho (R.owned h1), rfl⟩) hv hi

theorem Ren.msl (R : Ren h0 os k h h') {id id' e off len : Nat} {x : Value} (hid : (id' < h0.next ∧ id = id') ∨ ∃ i j, id' = h0.next + i ∧ id = h0.next + j ∧ os[i]? = some (.o j)) (hv : VRel ⟨w, h, μ⟩ (.msl id e off len) x) :
    VRel ⟨w, h', muR h0.next os μ⟩ (.msl id' e off len) x := by
  have key : ((h.get id = none ∧ h'.get id' = none ∧ id' < h0.next) ∨ ∃ b b', h.get id = some b ∧ h'.get id' = some b' ∧ shp b b') ∧ muR h0.next os μ id' = μ id := by
    rcases hid with ⟨hid, rfl⟩ | ⟨i, j, rfl, rfl, hj⟩
    · refine ⟨?_, muR_low hid⟩
      rcases R.lows hid with ⟨e1, e2⟩ | hb
      · exact .inl ⟨e1, e2, hid⟩
      · exact .inr hb
    · obtain ⟨b', e1, e2⟩ := R.top i j hj
      exact ⟨.inr ⟨_, b', e2, e1, shp_unB ..⟩, by rw [muR_top, hj]⟩
  obtain ⟨hk, hmu⟩ := key
  cases hv with
  | @msl _ _ _ _ t rows a cap hg hl hr =>
    rcases hk with ⟨e1, _⟩ | ⟨b, b', e1, e2, hs⟩
    · have : h.get id = some (.cells t e rows) := hg
      rw [e1] at this; cases this
    · have hg' : h.get id = some (.cells t e rows) := hg
      rw [e1] at hg'; cases hg'
      cases b' with
      | mp es => exact hs.elim
      | cells t' e' rows' =>
        obtain ⟨rfl, rfl, hlen⟩ := hs
        refine .msl e2 (by omega) ?_
        rcases hr with hr | ⟨hle, rb, base, c, fr, hm, ha, hc, hsz⟩
        · exact .inl hr
        · exact .inr ⟨hle, rb, base, c, fr, hmu.trans hm, ha, hc, hsz⟩
  | mslOld hg hn ha hcap =>
    rcases hk with ⟨_, e2, hlt⟩ | ⟨b, b', e1, _⟩
    · exact .mslOld e2 (by rw [R.next]; omega) ha hcap
    · have hg' : h.get id = none := hg
      rw [e1] at hg'; cases hg'

theorem Ren.mptr (R : Ren h0 os k h h') {id id' i off : Nat} {x : Value} (hid : (id' < h0.next ∧ id = id') ∨ ∃ i j, id' = h0.next + i ∧ id = h0.next + j ∧ os[i]? = some (.o j)) (hv : VRel ⟨w, h, μ⟩ (.mptr id i off) x) :
    VRel ⟨w, h', muR h0.next os μ⟩ (.mptr id' i off) x := by
  have key : ((h.get id = none ∧ h'.get id' = none ∧ id' < h0.next) ∨ ∃ b b', h.get id = some b ∧ h'.get id' = some b' ∧ shp b b') ∧ muR h0.next os μ id' = μ id := by
    rcases hid with ⟨hid, rfl⟩ | ⟨i, j, rfl, rfl, hj⟩
    · refine ⟨?_, muR_low hid⟩
      rcases R.lows hid with ⟨e1, e2⟩ | hb
      · exact .inl ⟨e1, e2, hid⟩
      · exact .inr hb
    · obtain ⟨b', e1, e2⟩ := R.top i j hj
      exact ⟨.inr ⟨_, b', e2, e1, shp_unB ..⟩, by rw [muR_top, hj]⟩
  obtain ⟨hk, hmu⟩ := key
  cases hv with
  | @mptr _ _ _ t esz rows rb base hg hi hm =>
    have hg' : h.get id = some (.cells t esz rows) := hg
    rcases hk with ⟨e1, _⟩ | ⟨b, b', e1, e2, hs⟩
    · rw [e1] at hg'; cases hg'
    · rw [e1] at hg'; cases hg'
      cases b' with
      | mp es => exact hs.elim
      | cells t' e' rows' =>
        obtain ⟨rfl, rfl, hlen⟩ := hs
        exact .mptr e2 (by omega) (hmu.trans hm)
  | mptrOld hg hn =>
    have hg' : h.get id = none := hg
    rcases hk with ⟨_, e2, hlt⟩ | ⟨b, b', e1, _⟩
    · exact .mptrOld e2 (by rw [R.next]; omega)
    · rw [e1] at hg'; cases hg'

theorem Ren.mmap (R : Ren h0 os k h h') {id id' : Nat} {x : Value} (hid : (id' < h0.next ∧ id = id') ∨ ∃ i j, id' = h0.next + i ∧ id = h0.next + j ∧ os[i]? = some (.o j)) (hv : VRel ⟨w, h, μ⟩ (.mmap id) x) :
    VRel ⟨w, h', muR h0.next os μ⟩ (.mmap id') x := by
  have key : ((h.get id = none ∧ h'.get id' = none ∧ id' < h0.next) ∨ ∃ b b', h.get id = some b ∧ h'.get id' = some b' ∧ shp b b') ∧ muR h0.next os μ id' = μ id := by
    rcases hid with ⟨hid, rfl⟩ | ⟨i, j, rfl, rfl, hj⟩
    · refine ⟨?_, muR_low hid⟩
      rcases R.lows hid with ⟨e1, e2⟩ | hb
      · exact .inl ⟨e1, e2, hid⟩
      · exact .inr hb
    · obtain ⟨b', e1, e2⟩ := R.top i j hj
      exact ⟨.inr ⟨_, b', e2, e1, shp_unB ..⟩, by rw [muR_top, hj]⟩
  obtain ⟨hk, hmu⟩ := key
  cases hv with
  | @mmap _ es rb hg hm =>
    have hg' : h.get id = some (.mp es) := hg
    rcases hk with ⟨e1, _⟩ | ⟨b, b', e1, e2, hs⟩
    · rw [e1] at hg'; cases hg'
    · rw [e1] at hg'; cases hg'
      cases b' with
      | cells => exact hs.elim
      | mp es' => exact .mmap e2 (hmu.trans hm)
  | mmapOld hg hn =>
    have hg' : h.get id = none := hg
    rcases hk with ⟨_, e2, hlt⟩ | ⟨b, b', e1, _⟩
    · exact .mmapOld e2 (by rw [R.next]; omega)
    · rw [e1] at hg'; cases hg'

theorem Ren.un_rel (R : Ren h0 os k h h') : ∀ (m : Nat) (g : GV) (x : Value), VRel ⟨w, h, μ⟩ (un h0.next os m g) x → VRel ⟨w, h', muR h0.next os μ⟩ g x
  | 0, g, x, hv => by
    simp only [un] at hv
    split at hv
    · rename_i hi; exact R.idl hv hi
    · exact (bot_rel hv).elim
  | m + 1, g, x, hv => by
    have ih := R.un_rel m
    have unl : ∀ (ls : List GV) (cs : Array Value), (∀ (i : Nat) (g : GV) (x : Value), (ls.map (un h0.next os m))[i]? = some g → cs[i]? = some x → VRel ⟨w, h, μ⟩ g x) →
        ∀ (i : Nat) (g : GV) (x : Value), ls[i]? = some g → cs[i]? = some x → VRel ⟨w, h', muR h0.next os μ⟩ g x := fun ls cs hh i g x hg hx =>
      ih g x (hh i _ x (by rw [List.getElem?_map, hg]; rfl) hx)
    cases g with
    | msl id e off len =>
      simp only [un] at hv
      split at hv
      · rename_i hid; exact R.msl (.inl ⟨hid, rfl⟩) hv
      · rename_i hid
        obtain ⟨i, rfl⟩ : ∃ i, id = h0.next + i := ⟨id - h0.next, by omega⟩
        simp only [Nat.add_sub_cancel_left, unS] at hv
        split at hv
        · rename_i j hj; exact R.msl (.inr ⟨i, j, rfl, rfl, hj⟩) hv
        · rename_i e' hj
          split at hv
          · rename_i hc
            obtain ⟨rfl, rfl, rfl⟩ := hc
            obtain ⟨t, ht⟩ := R.nil i _ hj
            cases hv with
            | esl a => exact .msl ht (by simp) (.inl ⟨rfl, rfl⟩)
          · exact (bot_rel hv).elim
        · exact (bot_rel hv).elim
    | mptr id p off =>
      simp only [un] at hv
      split at hv
      · rename_i hid; exact R.mptr (.inl ⟨hid, rfl⟩) hv
      · rename_i hid
        obtain ⟨i, rfl⟩ : ∃ i, id = h0.next + i := ⟨id - h0.next, by omega⟩
        simp only [Nat.add_sub_cancel_left, unI] at hv
        split at hv
        · rename_i j hj; exact R.mptr (.inr ⟨i, j, rfl, rfl, hj⟩) hv
        · exact (bot_rel hv).elim
    | mmap id =>
      simp only [un] at hv
      split at hv
      · rename_i hid; exact R.mmap (.inl ⟨hid, rfl⟩) hv
      · rename_i hid
        obtain ⟨i, rfl⟩ : ∃ i, id = h0.next + i := ⟨id - h0.next, by omega⟩
        simp only [Nat.add_sub_cancel_left, unI] at hv
        split at hv
        · rename_i j hj; exact R.mmap (.inr ⟨i, j, rfl, rfl, hj⟩) hv
        · exact (bot_rel hv).elim
    | agg ls =>
      simp only [un] at hv
      cases hv with
      | agg h1 h2 h3 => exact .agg (by simpa using h1) (unl _ _ h2) h3
    | tup ls =>
      simp only [un] at hv
      cases hv with
      | tup h1 h2 => exact .tup (by simpa using h1) (unl _ _ h2)
    | fn f a c =>
      simp only [un] at hv
      cases hv with
      | fn h1 h2 h3 h4 => exact .fn (by simpa using h1) (by simpa using h2) (unl _ _ h3) (unl _ _ h4)
    | v y => exact R.idl hv rfl
    | esl => exact R.idl hv rfl
    | isl => exact R.idl hv rfl
    | iptr => exact R.idl hv rfl
    | dead => exact .dead x

theorem Ren.bel (R : Ren h0 os k h h') {g : GV} {x : Value} (hv : VRel ⟨w, h, μ⟩ g x) (hb : Bel h0.next g) : VRel ⟨w, h', muR h0.next os μ⟩ g x := by
  have each : ∀ (ls : List GV), (∀ g ∈ ls, Bel h0.next g) → ∀ (i : Nat) (g : GV), ls[i]? = some g → Bel h0.next g := fun ls h i g hg => h g (List.mem_of_getElem? hg)
  generalize hS : (⟨w, h, μ⟩ : Sh) = S at hv
  induction hv with
  | v h => exact .v h
  | esl a => exact .esl a
  | isl0 esz a cap => exact .isl0 esz a cap
  | isl u hl hb' ho hcap hsz hc h1 hf hv ih => subst hS; exact R.idl (.isl u hl hb' ho hcap hsz hc h1 hf hv) rfl
  | iptr u hb' ho hc h1 hf hv ih => subst hS; exact R.idl (.iptr u hb' ho hc h1 hf hv) rfl
  | msl hg hl hr => subst hS; cases hb with
    | idl h => simp [GV.idl] at h
    | msl h => exact R.msl (.inl ⟨h, rfl⟩) (.msl hg hl hr)
  | mslOld hg hn ha hcap => subst hS; cases hb with
    | idl h => simp [GV.idl] at h
    | msl h => exact R.msl (.inl ⟨h, rfl⟩) (.mslOld hg hn ha hcap)
  | mptr hg hi hm => subst hS; cases hb with
    | idl h => simp [GV.idl] at h
    | mptr h => exact R.mptr (.inl ⟨h, rfl⟩) (.mptr hg hi hm)
  | mptrOld hg hn => subst hS; cases hb with
    | idl h => simp [GV.idl] at h
    | mptr h => exact R.mptr (.inl ⟨h, rfl⟩) (.mptrOld hg hn)
  | mmap hg hm => subst hS; cases hb with
    | idl h => simp [GV.idl] at h
    | mmap h => exact R.mmap (.inl ⟨h, rfl⟩) (.mmap hg hm)
  | mmapOld hg hn => subst hS; cases hb with
    | idl h => simp [GV.idl] at h
    | mmap h => exact R.mmap (.inl ⟨h, rfl⟩) (.mmapOld hg hn)
  | @fn f first caps fs cs h1 h2 h3 h4 ih3 ih4 =>
    have : (∀ g ∈ first, Bel h0.next g) ∧ ∀ g ∈ caps, Bel h0.next g := by
      cases hb with
      | idl h =>
        simp only [GV.idl, Bool.and_eq_true, List.isEmpty_iff] at h
        rw [h.1, h.2]; simp
      | fn a b => exact ⟨a, b⟩
    exact .fn h1 h2 (fun i g x hg hx => ih3 i g x hg hx (each _ this.1 i g hg)) (fun i g x hg hx => ih4 i g x hg hx (each _ this.2 i g hg))
  | agg h1 h2 h3 ih => cases hb with
    | idl h => simp [GV.idl] at h
    | agg hb => exact .agg h1 (fun i g x hg hx => ih i g x hg hx (each _ hb i g hg)) h3
  | tup h1 h2 ih => cases hb with
    | idl h => simp [GV.idl] at h
    | tup hb => exact .tup h1 (fun i g x hg hx => ih i g x hg hx (each _ hb i g hg))
  | dead x => exact .dead x

theorem Ren.sim (R : Ren h0 os k h h') (hg0 : Good h0) (hs : Sim ⟨w, h, μ⟩) : Sim ⟨w, h', muR h0.next os μ⟩ where
  next := fun id hg => by
    have hg' : h'.get id ≠ none := hg
    show id < h'.next
    rw [R.next]
    refine Nat.lt_of_not_le fun hle => hg' ?_
    have := R.high (id - h0.next) (by omega)
    rwa [show h0.next + (id - h0.next) = id by omega] at this
  inj := fun id id' b o o' hg hg' hm hm' => by
    have look : ∀ id, h'.get id ≠ none → ∀ p, muR h0.next os μ id = some p → ∃ j, h.get j ≠ none ∧ μ j = some p ∧ ((id < h0.next ∧ j = id) ∨ ∃ i q, id = h0.next + i ∧ j = h0.next + q ∧ os[i]? = some (.o q)) := fun id hg p hm => by
      by_cases hid : id < h0.next
      · rw [muR_low hid] at hm
        rcases R.lows hid with ⟨_, e⟩ | ⟨b1, b2, e1, _⟩
        · exact absurd e hg
        · exact ⟨id, by rw [e1]; simp, hm, .inl ⟨hid, rfl⟩⟩
      · obtain ⟨i, rfl⟩ : ∃ i, id = h0.next + i := ⟨id - h0.next, by omega⟩
        rw [muR_top] at hm
        split at hm
        · rename_i q hq
          obtain ⟨b', _, e2⟩ := R.top i q hq
          exact ⟨h0.next + q, by rw [e2]; simp, hm, .inr ⟨i, q, rfl, rfl, hq⟩⟩
        · cases hm
    obtain ⟨j, hj, hmj, hc⟩ := look id hg _ hm
    obtain ⟨j', hj', hmj', hc'⟩ := look id' hg' _ hm'
    have e := hs.inj j j' b o o' hj hj' hmj hmj'
    subst e
    rcases hc with ⟨h1, rfl⟩ | ⟨i, q, rfl, rfl, hq⟩
    · rcases hc' with ⟨h2, rfl⟩ | ⟨i', q', rfl, e2, hq'⟩
      · rfl
      · omega
    · rcases hc' with ⟨h2, e2⟩ | ⟨i', q', rfl, e2, hq'⟩
      · omega
      · have : q' = q := by omega
        subst this
        rw [R.nodup i i' q' hq hq']
  cells := fun id t e rows hg => by
    have hg' : h'.get id = some (.cells t e rows) := hg
    by_cases hid : id < h0.next
    · simp only [muR_low hid]
      rcases R.low id hid with ⟨e1, e2⟩ | ⟨b', e1, e2⟩
      · have hbel := hg0.cells id t e rows (by rw [← e2, ← e1]; exact hg')
        obtain ⟨h1, h2⟩ := hs.cells id t e rows (show h.get id = _ by rw [← e1]; exact hg')
        refine ⟨h1, h2.imp (fun x => x) fun ⟨rb, base, c, h3, h4, h5, h6⟩ => ⟨rb, base, c, h3, h4, h5, fun i j r g hr hgj => ?_⟩⟩
        obtain ⟨u, hu, h1u, hvu⟩ := h6 i j r g hr hgj
        exact ⟨u, hu, h1u, R.bel hvu (hbel r (List.mem_of_getElem? hr) g (List.mem_of_getElem? hgj))⟩
      · rw [hg'] at e1; cases e1
        obtain ⟨h1, h2⟩ := hs.cells id t e _ e2
        refine ⟨fun r hr => by simpa using h1 (r.map (un h0.next os k)) (List.mem_map.2 ⟨r, hr, rfl⟩), ?_⟩
        rcases h2 with ⟨h2, h3⟩ | ⟨rb, base, c, h3, h4, h5, h6⟩
        · exact .inl ⟨by simpa using h2, h3⟩
        · refine .inr ⟨rb, base, c, h3, h4, by simpa using h5, fun i j r g hr hgj => ?_⟩
          obtain ⟨u, hu, h1u, hvu⟩ := h6 i j (r.map (un h0.next os k)) (un h0.next os k g) (by rw [List.getElem?_map, hr]; rfl) (by rw [List.getElem?_map, hgj]; rfl)
          exact ⟨u, hu, h1u, R.un_rel _ _ _ hvu⟩
    · obtain ⟨i, rfl⟩ : ∃ i, id = h0.next + i := ⟨id - h0.next, by omega⟩
      simp only [muR_top]
      cases hi : os[i]? with
      | none =>
        have := R.high i (by simpa using hi)
        rw [hg'] at this; cases this
      | some s =>
        cases s with
        | z e' =>
          obtain ⟨t', ht⟩ := R.nil i e' hi
          rw [hg'] at ht; cases ht
          exact ⟨by simp, .inl ⟨rfl, rfl⟩⟩
        | o j =>
          obtain ⟨b', e1, e2⟩ := R.top i j hi
          rw [hg'] at e1; cases e1
          obtain ⟨h1, h2⟩ := hs.cells (h0.next + j) t e _ e2
          refine ⟨fun r hr => by simpa using h1 (r.map (un h0.next os k)) (List.mem_map.2 ⟨r, hr, rfl⟩), ?_⟩
          rcases h2 with ⟨h2, h3⟩ | ⟨rb, base, c, h3, h4, h5, h6⟩
          · exact .inl ⟨by simpa using h2, h3⟩
          · refine .inr ⟨rb, base, c, h3, h4, by simpa using h5, fun i j r g hr hgj => ?_⟩
            obtain ⟨u, hu, h1u, hvu⟩ := h6 i j (r.map (un h0.next os k)) (un h0.next os k g) (by rw [List.getElem?_map, hr]; rfl) (by rw [List.getElem?_map, hgj]; rfl)
            exact ⟨u, hu, h1u, R.un_rel _ _ _ hvu⟩
  maps := fun id es hg => by
    have hg' : h'.get id = some (.mp es) := hg
    by_cases hid : id < h0.next
    · simp only [muR_low hid]
      rcases R.low id hid with ⟨e1, e2⟩ | ⟨b', e1, e2⟩
      · have hbel := hg0.maps id es (by rw [← e2, ← e1]; exact hg')
        obtain ⟨rb, ms, clock, h1, h2, h3, h4, h5, h6⟩ := hs.maps id es (show h.get id = _ by rw [← e1]; exact hg')
        refine ⟨rb, ms, clock, h1, h2, h3, h4, h5, fun i kk g hi => ?_⟩
        obtain ⟨e, hee, hk, hvu⟩ := h6 i kk g hi
        exact ⟨e, hee, hk, R.bel hvu (hbel (kk, g) (List.mem_of_getElem? hi))⟩
      · rw [hg'] at e1; cases e1
        obtain ⟨rb, ms, clock, h1, h2, h3, h4, h5, h6⟩ := hs.maps id _ e2
        refine ⟨rb, ms, clock, h1, h2, by simpa using h3, h4, h5, fun i kk g hi => ?_⟩
        obtain ⟨e, hee, hk, hvu⟩ := h6 i kk (un h0.next os k g) (by rw [List.getElem?_map, hi]; rfl)
        exact ⟨e, hee, hk, R.un_rel _ _ _ hvu⟩
    · obtain ⟨i, rfl⟩ : ∃ i, id = h0.next + i := ⟨id - h0.next, by omega⟩
      simp only [muR_top]
      cases hi : os[i]? with
      | none =>
        have := R.high i (by simpa using hi)
        rw [hg'] at this; cases this
      | some s =>
        cases s with
        | z e' =>
          obtain ⟨t', ht⟩ := R.nil i e' hi
          rw [hg'] at ht; cases ht
        | o j =>
          obtain ⟨b', e1, e2⟩ := R.top i j hi
          rw [hg'] at e1; cases e1
          obtain ⟨rb, ms, clock, h1, h2, h3, h4, h5, h6⟩ := hs.maps (h0.next + j) _ e2
          refine ⟨rb, ms, clock, h1, h2, by simpa using h3, h4, h5, fun i kk g hi => ?_⟩
          obtain ⟨e, hee, hk, hvu⟩ := h6 i kk (un h0.next os k g) (by rw [List.getElem?_map, hi]; rfl)
          exact ⟨e, hee, hk, R.un_rel _ _ _ hvu⟩

theorem Ren.evolve {S0 : Sh} (R : Ren S0.h os k h h') (hg0 : Good S0.h) (E : Evolve S0 ⟨w, h, μ⟩) : Evolve S0 ⟨w, h', muR S0.h.next os μ⟩ where
  os := E.os
  tape := E.tape
  output := E.output
  size := E.size
  keep := E.keep
  own := fun b hb ho => E.own b hb (R.owned ho)
  cells := E.cells
  next := by show S0.h.next ≤ h'.next; rw [R.next]; omega
  old := fun id hid hg => by
    have hid' : id < S0.h.next := hid
    rcases R.lows hid' with ⟨_, e⟩ | ⟨b, b', e1, _⟩
    · exact absurd e hg
    · have := E.old id hid (show h.get id ≠ none by rw [e1]; simp)
      exact ⟨this.1, (muR_low hid').trans this.2⟩
  rows := fun id t esz rows hg => by
    have hid : id < S0.h.next := hg0.next id (by rw [hg]; simp)
    rcases E.rows id t esz rows hg with hn | ⟨rows', h1, h2⟩
    · rcases R.lows hid with ⟨_, e⟩ | ⟨b, b', e1, _⟩
      · exact .inl e
      · have hn' : h.get id = none := hn
        rw [e1] at hn'; cases hn'
    · have h1' : h.get id = some (.cells t esz rows') := h1
      rcases R.lows hid with ⟨e, _⟩ | ⟨b, b', e1, e2, hs⟩
      · rw [e] at h1'; cases h1'
      · rw [e1] at h1'; cases h1'
        cases b' with
        | mp => exact hs.elim
        | cells t' e' r' =>
          obtain ⟨rfl, rfl, hl⟩ := hs
          exact .inr ⟨r', e2, by omega⟩
  maps := fun id es hg => by
    have hid : id < S0.h.next := hg0.next id (by rw [hg]; simp)
    rcases E.maps id es hg with hn | ⟨es', h1⟩
    · rcases R.lows hid with ⟨_, e⟩ | ⟨b, b', e1, _⟩
      · exact .inl e
      · have hn' : h.get id = none := hn
        rw [e1] at hn'; cases hn'
    · have h1' : h.get id = some (.mp es') := h1
      rcases R.lows hid with ⟨e, _⟩ | ⟨b, b', e1, e2, hs⟩
      · rw [e] at h1'; cases h1'
      · rw [e1] at h1'; cases h1'
        cases b' with
        | cells => exact hs.elim
        | mp es'' => exact .inr ⟨es'', e2⟩
end

/-- A frame and a heap under new names. -/
def GRen (h0 : GH) (N : Nat) (a : GF) (h : GH) (os : List Src) (F : List (Nat × GV)) (h' : GH) : Prop := a.n = N ∧ Ren h0 os 6 h h' ∧ ∀ p ∈ F, un h0.next os 6 p.2 = a.get p.1

theorem Wk.ren {S0 : Sh} {N : Nat} {a : GF} {h h' : GH} {os : List Src} {F : List (Nat × GV)} (hg : Good S0.h) (R : GRen S0.h N a h os F h') : Wk S0 a h ⟨N, F⟩ h' := fun w μ act hs he =>
  ⟨muR S0.h.next os μ, ⟨R.2.1.sim hg hs.1, hs.2.defers, hs.2.size.trans R.1, fun t => by
    rcases look_mem F t with e | e
    · simp only [GF.get, e]; exact .dead _
    · have := R.2.2 _ e
      simp only at this
      refine R.2.1.un_rel 6 _ _ ?_
      simp only [GF.get]
      rw [this]
      exact hs.2.tmps t⟩, R.2.1.evolve hg he⟩

theorem gret_ren' {h0 h h' : GH} {R : GV → GH → Prop} {v v' : GV} (os : List Src) (hR : R v' h') (C : Ren h0 os 6 h h') (hv : un h0.next os 6 v' = v) : GRet h0 R v h :=
  ⟨v', h', ⟨fun S0 w μ x e hs0 hs he hx => by
    subst e
    exact ⟨_, C.sim hs0.good hs, C.evolve hs0.good he, C.un_rel 6 _ _ (by rw [hv]; exact hx)⟩⟩, hR⟩

/-! ### the same, for heaps of this make -/
/-- Below n: as it was at the call, but for blocks that have turned. -/
def LowOk (h0 : GH) (os : List Src) (g g' : Nat → Option GBlk) : Prop := ∀ id, (g' id = g id ∧ g id = h0.get id) ∨ ∃ b', g' id = some b' ∧ g id = some (unB h0.next os 6 b')
theorem LowOk.get {h0 : GH} {os : List Src} {g g' : Nat → Option GBlk} (L : LowOk h0 os g g') (id : Nat) : (g' id = g id ∧ g id = h0.get id) ∨ ∃ b', g' id = some b' ∧ g id = some (unB h0.next os 6 b') := L id
theorem LowOk.refl {h0 : GH} {os : List Src} : LowOk h0 os h0.get h0.get := fun _ => .inl ⟨rfl, rfl⟩
theorem LowOk.upd {h0 : GH} {os : List Src} {g g' : Nat → Option GBlk} {i : Nat} {b b' : GBlk} (h : LowOk h0 os g g') (hb : unB h0.next os 6 b' = b) : LowOk h0 os (upd g i (some b)) (upd g' i (some b')) := fun id => by
  simp only [upd_get]
  split
  · exact .inr ⟨_, rfl, by rw [hb]⟩
  · exact h id
/-- Blocks without names. -/
def FlatB : GBlk → Prop
  | .cells _ _ rows => ∀ r ∈ rows, ∀ g ∈ r, ∃ x, g = .v x
  | .mp es => ∀ p ∈ es, ∃ x, p.2 = .v x
theorem FlatB.same {b : GBlk} (h : FlatB b) (n : Nat) (os : List Src) (k : Nat) : unB n os (k + 1) b = b := by
  have hv : ∀ x, un n os (k + 1) (.v x) = .v x := fun x => rfl
  cases b with
  | cells t e rows =>
    simp only [unB, GBlk.cells.injEq, true_and]
    conv => rhs; rw [← List.map_id rows]
    refine List.map_congr_left fun r hr => ?_
    conv => rhs; rw [id, ← List.map_id r]
    refine List.map_congr_left fun g hg => ?_
    obtain ⟨x, rfl⟩ := h r hr g hg
    exact hv x
  | mp es =>
    simp only [unB, GBlk.mp.injEq]
    conv => rhs; rw [← List.map_id es]
    refine List.map_congr_left fun p hp => ?_
    obtain ⟨x, hx⟩ := h p hp
    obtain ⟨a, b⟩ := p
    simp only at hx; subst hx
    rfl
theorem LowOk.flat {h0 : GH} {os : List Src} {g : Nat → Option GBlk} (h : ∀ id, g id = h0.get id ∨ ∃ b, g id = some b ∧ FlatB b) : LowOk h0 os g g := fun id => by
  rcases h id with h | ⟨b, hb, hf⟩
  · exact .inl ⟨rfl, h⟩
  · exact .inr ⟨b, hb, by rw [hb, hf.same h0.next os 5]⟩
theorem LowOk.self {h0 : GH} {os : List Src} {g' : Nat → Option GBlk} (e : g' = h0.get) : LowOk h0 os h0.get g' := by subst e; exact .refl
def TopOk (n : Nat) (os : List Src) (h : GH) : List Src → List (Option GBlk) → Prop
  | [], [] => True
  | .o j :: r, some b :: s => some (unB n os 6 b) = h.get (n + j) ∧ TopOk n os h r s
  | .z e :: r, some (.cells _ e' []) :: s => e' = e ∧ TopOk n os h r s
  | _, _ => False
theorem TopOk.spec {n : Nat} {os : List Src} {h : GH} : ∀ {l : List Src} {bs : List (Option GBlk)}, TopOk n os h l bs → bs.length = l.length ∧
    (∀ (i j : Nat), l[i]? = some (.o j) → ∃ b, bs[i]? = some (some b) ∧ h.get (n + j) = some (unB n os 6 b)) ∧ ∀ (i e : Nat), l[i]? = some (.z e) → ∃ t : TypeId, bs[i]? = some (some (.cells t e []))
  | [], [], _ => ⟨rfl, fun i j h => by simp at h, fun i j h => by simp at h⟩
  | .o j :: r, some b :: s, hk => by
    obtain ⟨h1, h2, h3⟩ := TopOk.spec (l := r) (bs := s) hk.2
    refine ⟨by simp [h1], fun i j' hi => ?_, fun i e hi => ?_⟩
    · cases i with
      | zero => simp at hi; subst hi; exact ⟨b, rfl, hk.1.symm⟩
      | succ i => simp at hi; simpa using h2 i j' hi
    · cases i with
      | zero => simp at hi
      | succ i => simp at hi; simpa using h3 i e hi
  | .z e :: r, some (.cells t e' []) :: s, hk => by
    obtain ⟨h1, h2, h3⟩ := TopOk.spec (l := r) (bs := s) hk.2
    refine ⟨by simp [h1], fun i j' hi => ?_, fun i e2 hi => ?_⟩
    · cases i with
      | zero => simp at hi
      | succ i => simp at hi; simpa using h2 i j' hi
    · cases i with
      | zero => simp at hi; subst hi; exact ⟨t, by rw [hk.1]; rfl⟩
      | succ i => simp at hi; simpa using h3 i e2 hi
  | .z _ :: _, some (.cells _ _ (_ :: _)) :: _, hk => hk.elim
  | .z _ :: _, some (.mp _) :: _, hk => hk.elim
  | .z _ :: _, none :: _, hk => hk.elim
  | .z _ :: _, [], hk => hk.elim
  | .o _ :: _, none :: _, hk => hk.elim
  | .o _ :: _, [], hk => hk.elim
  | [], _ :: _, hk => hk.elim
def srcNodup : List Src → Bool
  | [] => true
  | .o j :: r => !r.contains (.o j) && srcNodup r
  | .z _ :: r => srcNodup r
theorem srcNodup_spec : ∀ {l : List Src}, srcNodup l = true → ∀ (i j o : Nat), l[i]? = some (.o o) → l[j]? = some (.o o) → i = j
  | [], _, i, j, o, h, _ => by simp at h
  | .z _ :: r, hk, i, j, o, h1, h2 => by
    cases i with
    | zero => simp at h1
    | succ i => cases j with
      | zero => simp at h2
      | succ j => simp at h1 h2; rw [srcNodup_spec (l := r) hk i j o h1 h2]
  | .o q :: r, hk, i, j, o, h1, h2 => by
    simp only [srcNodup, Bool.and_eq_true, Bool.not_eq_true', List.contains_eq_mem, decide_eq_false_iff_not] at hk
    cases i with
    | zero => cases j with
      | zero => rfl
      | succ j => simp at h1 h2; subst h1; exact absurd (List.mem_of_getElem? h2) hk.1
    | succ i => cases j with
      | zero => simp at h1 h2; subst h2; exact absurd (List.mem_of_getElem? h1) hk.1
      | succ j => simp at h1 h2; rw [srcNodup_spec (l := r) hk.2 i j o h1 h2]

theorem Ren.gx {h0 h : GH} {os : List Src} {g g' : Nat → Option GBlk} {bs bs' : List (Option GBlk)} (e : h = GX h0.next g bs) (L : LowOk h0 os g g') (T : TopOk h0.next os h os bs') (N : srcNodup os = true) : Ren h0 os 6 h (GX h0.next g' bs') := by
  subst e
  obtain ⟨h1, h2, h3⟩ := T.spec
  refine ⟨by simp [gx_next, h1], fun id hid => ?_, fun i j hi => ?_, fun i e hi => ?_, fun i hi => ?_, srcNodup_spec N⟩
  · rw [gx_get_low hid, gx_get_low hid]; exact L.get id
  · obtain ⟨b, hb, hb2⟩ := h2 i j hi
    exact ⟨b, by rw [gx_get_at, hb]; rfl, hb2⟩
  · obtain ⟨t, ht⟩ := h3 i e hi
    exact ⟨t, by rw [gx_get_at, ht]; rfl⟩
  · rw [gx_get_at, List.getElem?_eq_none (by omega)]; rfl

theorem gret_ren {h0 : GH} {R : GV → GH → Prop} {v v' : GV} {g g' : Nat → Option GBlk} {bs bs' : List (Option GBlk)} (os : List Src) (hR : R v' (GX h0.next g' bs')) (L : LowOk h0 os g g') (N : srcNodup os = true)
    (hv : un h0.next os 6 v' = v) (T : TopOk h0.next os (GX h0.next g bs) os bs') : GRet h0 R v (GX h0.next g bs) :=
  gret_ren' os hR (Ren.gx rfl L T N) hv

/-- What a frame must say, slot by slot. -/
def FOk (n : Nat) (os : List Src) (m : List (Nat × GV)) : List (Nat × GV) → Prop
  | [] => True
  | p :: r => un n os 6 p.2 = GF.look m p.1 ∧ FOk n os m r
theorem FOk.spec {n : Nat} {os : List Src} {m : List (Nat × GV)} : ∀ {F : List (Nat × GV)}, FOk n os m F → ∀ p ∈ F, un n os 6 p.2 = GF.look m p.1
  | [], _, p, hp => by cases hp
  | q :: r, h, p, hp => by
    rcases List.mem_cons.1 hp with rfl | hp
    · exact h.1
    · exact h.2.spec p hp

theorem GRen.gx {h0 : GH} {N N' : Nat} {m : List (Nat × GV)} (os : List Src) {F : List (Nat × GV)} {g g' : Nat → Option GBlk} {bs bs' : List (Option GBlk)} (e : N' = N) (L : LowOk h0 os g g') (hN : srcNodup os = true)
    (hF : FOk h0.next os m F) (T : TopOk h0.next os (GX h0.next g bs) os bs') : GRen h0 N ⟨N', m⟩ (GX h0.next g bs) os F (GX h0.next g' bs') :=
  ⟨e, Ren.gx rfl L T hN, hF.spec⟩

/-- A loop whose rounds begin at frames and heaps of one make. -/
def gnextr {σ : Type} (h0 : GH) (N : Nat) (F : σ → List (Nat × GV)) (H : σ → GH) (I : σ → Prop) (m : σ → Nat) (s : σ) (a : GF) (h : GH) (_p : Ph F := ()) (_q : Ph H := ()) (_r : Ph m := ()) (_s : Ph I := ()) : Prop :=
  ∃ s' os, m s' < m s ∧ I s' ∧ GRen h0 N a h os (F s') (H s')
theorem gloop_can {P : Program} {S0 : Sh} {plan : List (Nat × List (Nat × Nat))} {c : Code} {Q : Exit → GF → GH → Prop} {a : GF} {h h0 : GH} {σ : Type} (F : σ → List (Nat × GV)) (H : σ → GH) (I : σ → Prop) (m : σ → Nat) (s0 : σ) (os0 : List Src)
    (e : S0.h = h0) (hg : Good h0) (hm : P.follows .mixedOrders = true) (hI : I s0) (hR : GRen h0 a.n a h os0 (F s0) (H s0))
    (step : ∀ s, I s → gwp P S0 plan c (Exit.thenG (fun a' h' => gnextr h0 a.n F H I m s a' h') Q) ⟨a.n, F s⟩ (H s)) : gloop P S0 plan c Q a h := by
  subst e
  have key : ∀ s (a' : GF) (h' : GH), (a' = ⟨a.n, F s⟩ ∧ h' = H s ∧ I s) → GWp P S0 c (Exit.thenG (fun a' h' => ∃ s', m s' < m s ∧ ∃ a2 h2, Wk S0 a' h' a2 h2 ∧ (a2 = ⟨a.n, F s'⟩ ∧ h2 = H s' ∧ I s')) Q) a' h' := by
    rintro s a' h' ⟨rfl, rfl, hI⟩
    refine (gwp_sound hg.next hm plan c _ _ _ (step s hI)).mono fun e a1 h1 hq => ?_
    cases e with
    | normal =>
      obtain ⟨s', os, h2, h3, h4⟩ := hq
      exact ⟨s', h2, _, _, Wk.ren hg h4, rfl, rfl, h3⟩
    | _ => exact hq
  have := GWp.loop (Q := Q) (fun s a' h' => a' = ⟨a.n, F s⟩ ∧ h' = H s ∧ I s) m key s0 _ _ ⟨rfl, rfl, hI⟩
  exact GWp.weaken (Wk.ren hg hR) this

/-- Where ways meet. -/
theorem gjoin_can {P : Program} {S0 : Sh} {plan : List (Nat × List (Nat × Nat))} {x y : Code} {Q : Exit → GF → GH → Prop} {a : GF} {h h0 : GH} {σ : Type} (F : σ → List (Nat × GV)) (H : σ → GH) (I : σ → Prop)
    (e : S0.h = h0) (hg : Good h0) (hm : P.follows .mixedOrders = true)
    (hx : ∀ K : GF → GH → Prop, (∀ s os a' h', I s → GRen h0 a.n a' h' os (F s) (H s) → K a' h') → gwp P S0 plan x (Exit.thenG K Q) a h)
    (hy : ∀ s, I s → gwp P S0 plan y Q ⟨a.n, F s⟩ (H s)) : gjoin P S0 plan x y Q a h := by
  subst e
  exact hx _ fun s os a' h' hI hR => GWp.weaken (Wk.ren hg hR) (gwp_sound hg.next hm plan y _ _ _ (hy s hI))

theorem gcall_enterx {P : Program} {f : FuncId} {fn : Func} {c : Code} {args : List GV} {h : GH} {R : GV → GH → Prop} (hm : P.follows .mixedOrders = true) (plan : List (Nat × List (Nat × Nat)))
    (hto : CallsTo P f) (hf : P.funcs[f]? = some fn) (hb : fn.body = some c) {n : Nat} (hnt : fn.ntmps = n) (hargs : args.length ≤ n) {rs : List ResultVar} (hrs : fn.results.toList = rs)
    (hk : ∀ S0 : Sh, S0.h = h → Good h → gwp P S0 plan c (GPost P rs h R) ⟨n, argsOf 0 args⟩ (GX h.next h.get [])) : GCall P f args h R := by
  refine ⟨hto, fun w μ vs hs hvs hrel => ?_⟩
  have hG : Good h := hs.good
  refine (gcall_enter hm plan hto hf hb hnt hargs hrs fun S0 e hn => ?_).2 w μ vs hs hvs hrel
  have := hk S0 e hG
  rwa [GX_of hG] at this

/-! ### what was before, in a walk's words -/
section
variable {n : Nat} {os : List Src} {k : Nat}
@[push_cast] theorem un_v {x : Value} : un n os (k + 1) (.v x) = .v x := nd rfl
@[push_cast] theorem un_esl : un n os (k + 1) .esl = .esl := nd rfl
@[push_cast] theorem un_isl {e : Nat} {r : List (List GV)} : un n os (k + 1) (.isl e r) = .isl e r := nd rfl
@[push_cast] theorem un_iptr {r : List GV} {o : Nat} : un n os (k + 1) (.iptr r o) = .iptr r o := nd rfl
@[push_cast] theorem un_dead : un n os (k + 1) .dead = .dead := nd rfl
@[push_cast] theorem un_agg {ls : List GV} : un n os (k + 1) (.agg ls) = .agg (ls.map (un n os k)) := nd rfl
@[push_cast] theorem un_tup {ls : List GV} : un n os (k + 1) (.tup ls) = .tup (ls.map (un n os k)) := nd rfl
@[push_cast] theorem un_fn {f : Fn} {x c : List GV} : un n os (k + 1) (.fn f x c) = .fn f (x.map (un n os k)) (c.map (un n os k)) := nd rfl
theorem un_msl_low {id e off len : Nat} (h : id < n) : un n os (k + 1) (.msl id e off len) = .msl id e off len := by simp [un, h]
theorem un_mptr_low {id i off : Nat} (h : id < n) : un n os (k + 1) (.mptr id i off) = .mptr id i off := by simp [un, h]
theorem un_mmap_low {id : Nat} (h : id < n) : un n os (k + 1) (.mmap id) = .mmap id := by simp [un, h]
@[push_cast] theorem un_msl_at {j e off len : Nat} : un n os (k + 1) (.msl (n + j) e off len) = unS n os[j]? e off len := by
  simp only [un]
  rw [if_neg (by omega), Nat.add_sub_cancel_left]
@[push_cast] theorem un_msl_n {e off len : Nat} : un n os (k + 1) (.msl n e off len) = unS n os[0]? e off len := by simp [un]
@[push_cast] theorem un_mptr_at {j i off : Nat} : un n os (k + 1) (.mptr (n + j) i off) = unI n os[j]? fun o => .mptr o i off := by
  simp only [un]
  rw [if_neg (by omega), Nat.add_sub_cancel_left]
@[push_cast] theorem un_mptr_n {i off : Nat} : un n os (k + 1) (.mptr n i off) = unI n os[0]? fun o => .mptr o i off := by simp [un]
@[push_cast] theorem un_mmap_at {j : Nat} : un n os (k + 1) (.mmap (n + j)) = unI n os[j]? .mmap := by
  simp only [un]
  rw [if_neg (by omega), Nat.add_sub_cancel_left]
@[push_cast] theorem un_mmap_n : un n os (k + 1) (.mmap n) = unI n os[0]? .mmap := by simp [un]
@[push_cast] theorem unS_o {j e off len : Nat} : unS n (some (.o j)) e off len = .msl (n + j) e off len := nd rfl
@[push_cast] theorem unS_z {e : Nat} : unS n (some (.z e)) e 0 0 = .esl := by simp [unS]
@[push_cast] theorem unI_o {j : Nat} {f : Nat → GV} : unI n (some (.o j)) f = f (n + j) := nd rfl
@[push_cast] theorem unB_cells {t : TypeId} {e : Nat} {rows : List (List GV)} : unB n os k (.cells t e rows) = .cells t e (rows.map fun r => r.map (un n os k)) := nd rfl
@[push_cast] theorem unB_mp {es : List (Value × GV)} : unB n os k (.mp es) = .mp (es.map fun p => (p.1, un n os k p.2)) := nd rfl
@[push_cast] theorem TopOk_nil {h : GH} : TopOk n os h [] [] = True := nd rfl
@[push_cast] theorem TopOk_o {h : GH} {j : Nat} {r : List Src} {b : GBlk} {s : List (Option GBlk)} : TopOk n os h (.o j :: r) (some b :: s) = (some (unB n os 6 b) = h.get (n + j) ∧ TopOk n os h r s) := nd rfl
@[push_cast] theorem TopOk_z {h : GH} {e e' : Nat} {t : TypeId} {r : List Src} {s : List (Option GBlk)} : TopOk n os h (.z e :: r) (some (.cells t e' []) :: s) = (e' = e ∧ TopOk n os h r s) := nd rfl
@[push_cast] theorem FOk_nil {m : List (Nat × GV)} : FOk n os m [] = True := nd rfl
@[push_cast] theorem FOk_cons {m r : List (Nat × GV)} {t : Nat} {g : GV} : FOk n os m ((t, g) :: r) = (un n os 6 g = GF.look m t ∧ FOk n os m r) := nd rfl
end
theorem Low.gx {h0 : GH} {bs : List (Option GBlk)} : Low h0 (GX h0.next h0.get bs) := ⟨by simp [gx_next], fun id hid => gx_get_low hid⟩
/-- A function's end: what was there is as it was, what is handed back becomes a tree. -/
theorem gret_pure {h0 : GH} {R : GV → GH → Prop} {v : GV} {bs : List (Option GBlk)} (hg : Good h0) (hr : R (frz (GX h0.next h0.get bs) h0.next 9 v) h0) : GRet h0 R v (GX h0.next h0.get bs) := gret_same 9 Low.gx hg.next hr
theorem gret_id {h0 : GH} {R : GV → GH → Prop} {v : GV} (hg : Good h0) (hr : R v h0) : GRet h0 R v (GX h0.next h0.get []) := by
  rw [GX_of hg]; exact gret_keep hr
/-- A function's end where blocks below have turned. -/
theorem gret_low {h0 h1 : GH} {R : GV → GH → Prop} {v v' : GV} {g g' : Nat → Option GBlk} {bs : List (Option GBlk)} (hR : R v' h1) (e : h1 = GX h0.next g' []) (L : LowOk h0 [] g g') (hv : un h0.next [] 6 v' = v) : GRet h0 R v (GX h0.next g bs) :=
  gret_ren (bs' := []) [] (e ▸ hR) L rfl hv trivial
theorem GX_upd {h : GH} {i : Nat} {b : GBlk} (hg : Good h) (hi : i < h.next) : GX h.next (upd h.get i (some b)) [] = h.set i b := by
  rw [← gx_set_low hi, GX_of hg]
end Gx
