/- Returns, in a walk's words. -/
import Derived.Test.YtbibihbkkflidaaGxSimp3
set_option linter.unusedSimpArgs false
set_option linter.unusedVariables false
namespace Gx
open Go

/-- Below the heap at the call nothing has turned. -/
structure Low (h0 h : GH) : Prop where
  next : h0.next ≤ h.next
  get : ∀ id, id < h0.next → h.get id = h0.get id

theorem Low.refl (h : GH) : Low h h := ⟨Nat.le_refl _, fun _ _ => rfl⟩
theorem Low.trans {a b c : GH} (x : Low a b) (y : Low b c) : Low a c := ⟨Nat.le_trans x.next y.next, fun id hid => (y.get id (Nat.lt_of_lt_of_le hid x.next)).trans (x.get id hid)⟩
theorem Low.new {a b : GH} (x : Low a b) (blk : GBlk) : Low a (b.new blk) := ⟨Nat.le_succ_of_le x.next, fun id hid => by
  have := x.next
  rw [get_new, if_neg (by omega)]; exact x.get id hid⟩
theorem Low.set {a b : GH} (x : Low a b) (i : Nat) (blk : GBlk) (hi : a.next ≤ i) : Low a (b.set i blk) := ⟨x.next, fun id hid => by
  rw [get_set, if_neg (by omega)]; exact x.get id hid⟩
theorem Low.del {a b : GH} (x : Low a b) (i : Nat) (hi : a.next ≤ i) : Low a (b.del i) := ⟨x.next, fun id hid => by
  rw [get_del, if_neg (by omega)]; exact x.get id hid⟩

theorem gret_same {h0 h : GH} {R : GV → GH → Prop} {v : GV} (k : Nat) (l : Low h0 h) (hn : ∀ id, h0.get id ≠ none → id < h0.next) (hr : R (frz h h0.next k v) h0) : GRet h0 R v h := by
  refine ⟨_, _, back_less k ⟨rfl, fun id hid => .inl (l.get id hid).symm, fun id hid => ?_⟩ (fun id t e r h => .inl h) (fun id es h => .inl h), hr⟩
  cases e : h0.get id with
  | none => rfl
  | some b => have := hn id (by rw [e]; simp); omega

section
variable {h : GH} {n k : Nat}
@[push_cast] theorem frz_v {x : Value} : frz h n (k + 1) (.v x) = .v x := nd rfl
@[push_cast] theorem frz_esl : frz h n (k + 1) .esl = .esl := nd rfl
@[push_cast] theorem frz_isl {e : Nat} {r : List (List GV)} : frz h n (k + 1) (.isl e r) = .isl e r := nd rfl
@[push_cast] theorem frz_iptr {r : List GV} {o : Nat} : frz h n (k + 1) (.iptr r o) = .iptr r o := nd rfl
@[push_cast] theorem frz_dead : frz h n (k + 1) .dead = .dead := nd rfl
@[push_cast] theorem frz_agg {ls : List GV} : frz h n (k + 1) (.agg ls) = .agg (ls.map (frz h n k)) := nd rfl
@[push_cast] theorem frz_tup {ls : List GV} : frz h n (k + 1) (.tup ls) = .tup (ls.map (frz h n k)) := nd rfl
/-- One row of a block that becomes a tree. -/
def frow (h : GH) (n k : Nat) (r : List GV) : List GV := r.map fun g => if (frz h n k g).idl then frz h n k g else .dead
@[push_cast] theorem frow_nil : frow h n k [] = [] := nd rfl
@[push_cast] theorem frow_v {x : Value} {r : List GV} : frow h n (k + 1) (.v x :: r) = .v x :: frow h n (k + 1) r := nd rfl
@[push_cast] theorem frow_esl {r : List GV} : frow h n (k + 1) (.esl :: r) = .esl :: frow h n (k + 1) r := nd rfl
@[push_cast] theorem frow_isl {e : Nat} {rr : List (List GV)} {r : List GV} : frow h n (k + 1) (.isl e rr :: r) = .isl e rr :: frow h n (k + 1) r := nd rfl
theorem frz_msl {id e off len : Nat} {t : TypeId} {rows : List (List GV)} (hid : n ≤ id) (hg : h.get id = some (.cells t e rows)) (hl : off = 0) (hlen : len = rows.length) :
    frz h n (k + 1) (.msl id e off len) = .isl e (rows.map (frow h n k)) := by
  subst hl; subst hlen
  simp only [frz, hg]
  rw [if_neg (by omega)]
  simp [frow]
theorem frow_idl {r : List GV} (hr : r.all GV.idl = true) : frow h n k r = r := by
  unfold frow
  conv => rhs; rw [← List.map_id r]
  refine List.map_congr_left fun g hg => ?_
  simp only [List.all_eq_true] at hr
  have hi := hr g hg
  have : frz h n k g = g := by
    cases k with
    | zero => simp [frz, hi]
    | succ k => cases g <;> first | rfl | (simp [GV.idl] at hi; done) | (simp only [GV.idl] at hi; simp [frz, hi])
  simp [this, hi]
theorem frows_idl {rows : List (List GV)} (hr : ∀ r ∈ rows, r.all GV.idl = true) : rows.map (frow h n k) = rows := by
  conv => rhs; rw [← List.map_id rows]
  exact List.map_congr_left fun r h => frow_idl (hr r h)
end

/-! loops -/
/-- What the end of a round owes. -/
def gnext {σ : Type} (n : Nat) (F : σ → List (Nat × GV)) (I : σ → GH → Prop) (m : σ → Nat) (s : σ) (a : GF) (h : GH) (_p : Ph F := ()) (_q : Ph I := ()) (_r : Ph m := ()) : Prop := ∃ s', m s' < m s ∧ GF.le ⟨n, F s'⟩ a ∧ I s' h
theorem gloop_intro {P : Program} {S0 : Sh} {plan : List (Nat × List (Nat × Nat))} {c : Code} {Q : Exit → GF → GH → Prop} {a : GF} {h : GH} {σ : Type} (F : σ → List (Nat × GV)) (I : σ → GH → Prop) (m : σ → Nat) (s0 : σ)
    (hn : ∀ id, S0.h.get id ≠ none → id < S0.h.next) (hm : P.follows .mixedOrders = true) (h0 : GF.le ⟨a.n, F s0⟩ a) (hI : I s0 h)
    (step : ∀ s h, I s h → gwp P S0 plan c (Exit.thenG (fun a' h' => gnext a.n F I m s a' h') Q) ⟨a.n, F s⟩ h) : gloop P S0 plan c Q a h := by
  have key : ∀ s (a' : GF) (h' : GH), (a' = ⟨a.n, F s⟩ ∧ I s h') → GWp P S0 c (Exit.thenG (fun a' h' => ∃ s', m s' < m s ∧ ∃ a2 h2, Wk S0 a' h' a2 h2 ∧ (a2 = ⟨a.n, F s'⟩ ∧ I s' h2)) Q) a' h' := by
    rintro s a' h' ⟨rfl, hI⟩
    refine (gwp_sound hn hm plan c _ _ _ (step s h' hI)).mono fun e a1 h1 hq => ?_
    cases e with
    | normal => obtain ⟨s', hs, hl, hi⟩ := hq; exact ⟨s', hs, _, _, Wk.frame hl, rfl, hi⟩
    | _ => exact hq
  have := GWp.loop (Q := Q) (fun s a' h' => a' = ⟨a.n, F s⟩ ∧ I s h') m key s0 _ h ⟨rfl, hI⟩
  intro w μ act hs he
  obtain ⟨μ', hs', he'⟩ := Wk.frame h0 w μ act hs he
  exact this w μ' act hs' he'
@[push_cast] theorem gle_nil {n : Nat} {m : List (Nat × GV)} : GF.le ⟨n, []⟩ ⟨n, m⟩ = True := eq_true ⟨rfl, fun p hp => by simp at hp⟩
@[push_cast] theorem gle_cons {n t : Nat} {g : GV} {r m : List (Nat × GV)} : GF.le ⟨n, (t, g) :: r⟩ ⟨n, m⟩ = (GF.look m t = g ∧ GF.le ⟨n, r⟩ ⟨n, m⟩) := by
  apply propext
  constructor
  · rintro ⟨h1, h2⟩; exact ⟨h2 (t, g) (by simp), h1, fun p hp => h2 p (by simp [hp])⟩
  · rintro ⟨h1, h2, h3⟩; exact ⟨h2, fun p hp => by simp at hp; rcases hp with rfl | hp; exact h1; exact h3 p hp⟩
/-- A call that hands back a value, and what heap it leaves. -/
theorem GCall.ret {P : Program} {f : Nat} {args : List GV} {h h2 : GH} {g : GV} {R : GV → GH → Prop} (hc : GCall P f args h fun v h' => v = g ∧ h' = h2) (hr : R g h2) : GCall P f args h R :=
  hc.mono fun v h' hv => by obtain ⟨rfl, rfl⟩ := hv; exact hr
/-- A function's end where one block below has turned. -/
theorem gret_set {h0 h : GH} {R : GV → GH → Prop} {v : GV} (k : Nat) (i t e : Nat) (rows : List (List GV)) (hnx : h0.next ≤ h.next) (hi : i < h0.next) (hget : ∀ id, id < h0.next → h.get id = if id = i then some (.cells t e rows) else h0.get id)
    (hb : ∀ r ∈ rows, ∀ g ∈ r, ∃ x, g = .v x) (hn : ∀ id, h0.get id ≠ none → id < h0.next) (hr : R (frz h h0.next k v) (h0.set i (.cells t e rows))) : GRet h0 R v h := by
  refine ⟨_, h0.set i (.cells t e rows), back_less k ⟨rfl, fun id hid => .inl ?_, fun id hid => ?_⟩ (fun id t' e' r' h' => ?_) (fun id es h' => ?_), hr⟩
  · rw [hget id hid, get_set]
  · rw [get_set, if_neg (by omega)]
    cases e : h0.get id with
    | none => rfl
    | some b => have := hn id (by rw [e]; simp); omega
  · rw [get_set] at h'
    split at h'
    · simp only [Option.some.injEq, GBlk.cells.injEq] at h'
      obtain ⟨rfl, rfl, rfl⟩ := h'
      exact .inr fun r hr g hg => by obtain ⟨x, rfl⟩ := hb r hr g hg; exact .idl rfl
    · exact .inl h'
  · rw [get_set] at h'
    split at h'
    · cases h'
    · exact .inl h'
theorem optq_idx {α : Type} {l : List α} {i : Nat} {k : α → Prop} (h : i < l.length) (hk : k l[i]) : optq l[i]? k := by
  rw [List.getElem?_eq_getElem h]; exact hk
@[push_cast] theorem optq_map {α β : Type} {l : List α} {f : α → β} {i : Nat} {k : β → Prop} : optq (l.map f)[i]? k = optq l[i]? (fun x => k (f x)) := by
  rw [List.getElem?_map]; cases l[i]? <;> rfl

theorem wrap_i64 {n : Int} (h1 : -9223372036854775808 ≤ n) (h2 : n < 9223372036854775808) : IntKind.i64.wrap n = n := by
  simp only [IntKind.wrap, IntKind.signed, IntKind.bits]
  simp
  try omega

theorem GPureK.ret {P : Program} {f : Nat} {args : List GV} {g : GV} {k : GV → Prop} (hc : ∀ h, GCall P f args h fun v h' => v = g ∧ h' = h) (hk : k g) : GPureK P f args k := ⟨g, hc, hk⟩
theorem GHeldK.ret {P : Program} {f : Nat} {args : List GV} {h : GH} {g : GV} {k : GV → Prop} (hc : GCall P f args h fun v h' => v = g ∧ h' = h) (hk : k g) : GHeldK P f args h k := ⟨g, hc, hk⟩

@[push_cast] theorem planOf_nil {i : Nat} : planOf [] i = [] := nd rfl
@[push_cast] theorem planOf_cons {k i : Nat} {o : List (Nat × Nat)} {r : List (Nat × List (Nat × Nat))} : planOf ((k, o) :: r) i = if k = i then o else planOf r i := nd rfl

theorem ite_blk_ne {n m : Nat} {x y : Option GBlk} (h : n ≠ m) : (if n = m then x else y) = y := if_neg h
theorem ite_blk_eq {n m : Nat} {x y : Option GBlk} (h : n = m) : (if n = m then x else y) = x := if_pos h
end Gx
