/- A part of the proof: what some of the functions come to. -/
import Derived.Test.YtbibihbkkflidaaGxC1
import Derived.Below
set_option linter.unusedSimpArgs false
set_option linter.unusedVariables false
namespace Gx
open Go Go.Proofs Go.RowKit
def emptyH : GH := ⟨fun _ => none, 0⟩
theorem sim_empty (w : World) : Sim ⟨w, emptyH, fun _ => none⟩ :=
  ⟨fun id h => absurd rfl h, fun id id' b o o' h _ _ _ => absurd rfl h, fun id t esz rows h => (nomatch h), fun id es h => (nomatch h)⟩
theorem no_own (w : World) (b : Nat) : ¬ Sh.owned ⟨w, emptyH, fun _ => none⟩ b := fun ⟨id, base, h, _⟩ => h rfl
/-- A row of bytes that came in. -/
theorem row_rel {w : World} {a : Option Addr} {len cap : Nat} {zs : List Int} (hrow : (a = none ∧ len = 0 ∧ cap = 0 ∧ zs = []) ∨
    ∃ x, a = some x ∧ len ≤ cap ∧ cap ≤ maxLen ∧ zs.length = cap ∧ (∀ i, i < zs.length → w.cell? (x.add i) = some (.int .u8 (zs.getD i 0))) ∧ ∀ n ∈ zs, (Lit.int .u8 n).wf = true) :
    VRel ⟨w, emptyH, fun _ => none⟩ (gB (zs.take len)) (.slice a len cap) ∧ Bytes (zs.take len) ∧ (zs.take len).length < 2 ^ 63 := by
  rcases hrow with ⟨rfl, rfl, rfl, rfl⟩ | ⟨x, rfl, h1, h2, h3, h4, h5⟩
  · exact ⟨.isl0 _ _ _, fun x hx => by simp at hx, by simp⟩
  · have hby : Bytes (zs.take len) := fun n hn => by
      have := h5 n (List.mem_of_mem_take hn)
      simp only [Lit.wf, Bool.and_eq_true, decide_eq_true_eq] at this
      exact this
    have hlen : (zs.take len).length = len := by simp; omega
    refine ⟨?_, hby, by rw [hlen]; simp only [maxLen] at h2; omega⟩
    rcases Nat.eq_zero_or_pos len with rfl | hpos
    · exact .isl0 _ _ _
    · obtain ⟨b, o, sp⟩ := x
      have h0 := h4 0 (by omega)
      simp only [Addr.add, if_true, World.cell?] at h0
      have hblk : ∃ c t fr, w.heap[b]? = some (.cells c t fr) ∧ sp = none := by
        split at h0
        · rename_i c t fr hb
          refine ⟨c, t, fr, hb, ?_⟩
          cases sp with
          | none => rfl
          | some s => simp at h0
        · cases h0
      obtain ⟨c, t, fr, hb, rfl⟩ := hblk
      have hbs : b < w.heap.size := by
        rcases Nat.lt_or_ge b w.heap.size with h | h
        · exact h
        · rw [Array.getElem?_eq_none h] at hb; cases hb
      refine .isl (fun i _ => .int .u8 (zs.getD i 0)) (by simp; omega) hbs (no_own w b) h1 (fun r hr => ?_) (fun i j hi hj => ?_) (fun _ _ _ _ => rfl) (fun r hr g hg => ?_) (fun i j r g hr hg => ?_)
      · obtain ⟨n, _, rfl⟩ := List.mem_map.1 hr; rfl
      · have hi' : i < zs.length := by simp [hlen] at hi; omega
        have := h4 i hi'
        obtain rfl : j = 0 := by omega
        simp only [Addr.add] at this
        rw [← this]
        simp only [Nat.mul_one, Nat.add_zero]
        split
        · rename_i e; subst e; rfl
        · rfl
      · obtain ⟨n, _, rfl⟩ := List.mem_map.1 hr
        simp only [List.mem_singleton] at hg; subst hg; rfl
      · rw [List.getElem?_map] at hr
        obtain ⟨n, hn, rfl⟩ := Option.map_eq_some_iff.1 hr
        have hj : j = 0 := by
          cases j with
          | zero => rfl
          | succ j => simp at hg
        subst hj
        simp only [List.getElem?_cons_zero, Option.some.injEq] at hg
        subst hg
        have hn2 : zs.getD i 0 = n := by
          rw [List.getElem?_take] at hn
          split at hn
          · rw [List.getD_eq_getElem?_getD, hn]; rfl
          · cases hn
        rw [hn2]
        exact .v rfl
/-- A law of bytes, as its statement wants it. -/
theorem top1 {f : FuncId} (hG : ∀ code, Bytes code → code.length < 2 ^ 63 → GCall Pg f [gB code] emptyH fun v h' => v = bv true ∧ h' = emptyH)
    {w : World} {a : Option Addr} {len cap : Nat} {zs : List Int} (hrow : (a = none ∧ len = 0 ∧ cap = 0 ∧ zs = []) ∨
    ∃ x, a = some x ∧ len ≤ cap ∧ cap ≤ maxLen ∧ zs.length = cap ∧ (∀ i, i < zs.length → w.cell? (x.add i) = some (.int .u8 (zs.getD i 0))) ∧ ∀ n ∈ zs, (Lit.int .u8 n).wf = true) :
    Calls Pg f #[.slice a len cap] w fun e w' => e = .returned (.bool true) ∧ Below w.heap.size w w' := by
  obtain ⟨r1, r2, r3⟩ := row_rel hrow
  refine ((hG _ r2 r3).2 w (fun _ => none) #[.slice a len cap] (sim_empty w) rfl (fun i g x hg hx => ?_)).mono fun e w' ⟨x, g, h', μ', he, hs, E, hx, hv, hh⟩ => ?_
  · cases i with
    | zero => simp at hg hx; subst hg; subst hx; exact r1
    | succ i => simp at hg
  · subst hv
    cases hx with
    | v => exact ⟨he, E.os, E.tape, E.output, E.size, fun k hk => E.keep k hk (no_own w k)⟩
theorem top2 {f : FuncId} (hG : ∀ c1 c2, Bytes c1 → c1.length < 2 ^ 63 → Bytes c2 → c2.length < 2 ^ 63 → GCall Pg f [gB c1, gB c2] emptyH fun v h' => v = bv true ∧ h' = emptyH)
    {w : World} {a : Option Addr} {len cap : Nat} {zs : List Int} {a2 : Option Addr} {len2 cap2 : Nat} {zs2 : List Int} (hrow : (a = none ∧ len = 0 ∧ cap = 0 ∧ zs = []) ∨
    ∃ x, a = some x ∧ len ≤ cap ∧ cap ≤ maxLen ∧ zs.length = cap ∧ (∀ i, i < zs.length → w.cell? (x.add i) = some (.int .u8 (zs.getD i 0))) ∧ ∀ n ∈ zs, (Lit.int .u8 n).wf = true)
    (hrow2 : (a2 = none ∧ len2 = 0 ∧ cap2 = 0 ∧ zs2 = []) ∨
    ∃ x, a2 = some x ∧ len2 ≤ cap2 ∧ cap2 ≤ maxLen ∧ zs2.length = cap2 ∧ (∀ i, i < zs2.length → w.cell? (x.add i) = some (.int .u8 (zs2.getD i 0))) ∧ ∀ n ∈ zs2, (Lit.int .u8 n).wf = true) :
    Calls Pg f #[.slice a len cap, .slice a2 len2 cap2] w fun e w' => e = .returned (.bool true) ∧ Below w.heap.size w w' := by
  obtain ⟨r1, r2, r3⟩ := row_rel hrow
  obtain ⟨s1, s2, s3⟩ := row_rel hrow2
  refine ((hG _ _ r2 r3 s2 s3).2 w (fun _ => none) #[.slice a len cap, .slice a2 len2 cap2] (sim_empty w) rfl (fun i g x hg hx => ?_)).mono fun e w' ⟨x, g, h', μ', he, hs, E, hx, hv, hh⟩ => ?_
  · match i, hg, hx with
    | 0, hg, hx => simp at hg hx; subst hg; subst hx; exact r1
    | 1, hg, hx => simp at hg hx; subst hg; subst hx; exact s1
    | i + 2, hg, hx => simp at hg
  · subst hv
    cases hx with
    | v => exact ⟨he, E.os, E.tape, E.output, E.size, fun k hk => E.keep k hk (no_own w k)⟩
end Gx
