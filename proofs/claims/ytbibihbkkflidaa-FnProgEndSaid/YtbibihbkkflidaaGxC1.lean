/- A part of the proof: what some of the functions come to. -/
import Derived.Test.YtbibihbkkflidaaGxB14
import Derived.Test.YtbibihbkkflidaaGxRun
set_option linter.unusedSimpArgs false
set_option linter.unusedVariables false
namespace Gx
open Go Go.Proofs
theorem res_len (p : Prog) (l : List Int) (most : Int) : (resOf p l most).outs.length < 2 ^ 63 ∧ (resOf p l most).path.length < 2 ^ 63 := by
  unfold resOf
  split
  · rename_i hf
    have hm : most ≤ 600 := by simp only [runFits, Bool.and_eq_true, inB, decide_eq_true_eq] at hf; exact hf.1.2.2
    have := runG_len p (varM p) most.toNat vars0 l [] [] 0 (-1)
    simp only [runV, List.length_nil] at this ⊢
    omega
  · simp
theorem lk_res (p : Prog) (l : List Int) (most : Int) (h : GH) : GCall Pg f_laws_lkResult [gR (resOf p l most), gR (resOf p l most)] h fun v h' => v = bv true ∧ h' = h := laws_lkResult _ (res_len p l most).1 (res_len p l most).2 h
theorem res_null (p : Prog) (l : List Int) : (resOf p l 0).outs = [] ∧ (resOf p l 0).path = [] ∧ ((resOf p l 0).code = 1 ∨ (resOf p l 0).code = 9) := by
  unfold resOf
  split <;> simp [runV, runG]
set_option maxRecDepth 100000 in
set_option maxHeartbeats 4000000 in
theorem laws_FnRunNull (code : List Int) (hb : Bytes code) (hl : code.length < 2 ^ 63) (h : GH) : GCall Pg f_laws_FnRunNull [gB code] h fun v h' => v = bv true ∧ h' = h := by
  refine gcall_enterx mixed [(5, [(2, 0), (0, 1), (1, 1), (3, 0), (4, 0), (5, 0), (6, 0), (8, 0), (9, 0), (12, 0), (13, 0), (7, 1), (10, 0), (11, 1), (14, 0), (15, 0), (16, 0), (17, 0)])] call_laws_FnRunNull func_laws_FnRunNull rfl nt_laws_FnRunNull (by simp) res_laws_FnRunNull fun S0 e hG => ?_; have hn := hG.next
  repeat' (first | simp (disch := omega) only [push_cast, Nat.reduceAdd, Nat.reduceBEq, Nat.reduceEqDiff, ↓reduceIte, Nat.reduceLT, Nat.reduceMul, Nat.reduceLeDiff, Int.reduceToNat, Int.reduceEq, Int.reduceLT, Int.reduceLE, Int.reduceAdd, Int.reduceSub, Int.reduceNeg, bI, hd_int] | (with_reducible refine GCall.mono (spec_DrawRunOf code hb hl _) ?_ ;  rintro v h' ⟨⟨p, l, most, rfl, d1, d2, d3, d4, d5⟩, rfl⟩) | with_reducible refine gstat_intro (by kernel_rfl) ?_ | ((with_reducible refine gcase_intro (fun hc => ?_) (fun hc => ?_)) <;> (have hr := hc) <;> (try simp only [Bool.and_eq_true, Bool.and_eq_false_iff, Bool.or_eq_true, Bool.or_eq_false_iff, decide_eq_true_eq, decide_eq_false_iff_not, Bool.not_eq_true, Bool.not_eq_false, Bool.not_eq_eq_eq_not, Bool.not_true, Bool.not_false, beq_iff_eq, beq_eq_false_iff_ne, bne_iff_ne, bne_eq_false_iff_eq, Bool.false_eq_true, Bool.true_eq_false, Int.not_lt, Int.not_le, ne_eq, not_true_eq_false, not_false_eq_true] at hc) <;> (try (first | with_reducible exact (bcontra hc (by assumption)).elim | with_reducible exact (bcontra (by assumption) hc).elim | contradiction | (exfalso; omega))) <;> (try simp only [push_cast, Nat.reduceAdd, Nat.reduceBEq, Nat.reduceEqDiff, ↓reduceIte, Nat.reduceLT, Nat.reduceMul, Nat.reduceLeDiff, Int.reduceToNat, Int.reduceEq, Int.reduceLT, Int.reduceLE, Int.reduceAdd, Int.reduceSub, Int.reduceNeg, bI, hr]) <;> (try clear hr)) | with_reducible refine gassert_intro (by first | omega | (simp; done) | (simp; omega)) ?_ | ((with_reducible refine optq_ints (by simp only [isInts]) (by simp only [List.length_cons, List.length_nil]; omega) (fun v hv => ?_)) <;> (simp only [toInts, List.mem_cons, List.not_mem_nil, or_false] at hv)) | with_reducible refine optq_idx (by omega) ?_)
  · (all_goals ((first | refine gret_id hG ⟨?_, rfl⟩ | refine gret_pure hG ⟨?_, rfl⟩) <;> (try simp only [push_cast, Nat.reduceAdd, Nat.reduceBEq, Nat.reduceEqDiff, ↓reduceIte, Nat.reduceLT, Nat.reduceMul, Nat.reduceLeDiff, Int.reduceToNat, Int.reduceEq, Int.reduceLT, Int.reduceLE, Int.reduceAdd, Int.reduceSub, Int.reduceNeg, bI])))
  have hs2 : ∀ s ∈ p, s.next.length < 2 ^ 63 := fun s hs => by have := d2 s hs; omega
  have hp2 : p.length < 2 ^ 63 := by omega
  have hl2 : l.length < 2 ^ 63 := by omega
  obtain ⟨n1, n2, n3⟩ := res_null p l
  repeat' (first | simp (disch := omega) only [push_cast, Nat.reduceAdd, Nat.reduceBEq, Nat.reduceEqDiff, ↓reduceIte, Nat.reduceLT, Nat.reduceMul, Nat.reduceLeDiff, Int.reduceToNat, Int.reduceEq, Int.reduceLT, Int.reduceLE, Int.reduceAdd, Int.reduceSub, Int.reduceNeg, bI, hd_int] | with_reducible refine GCall.ret (impl_RunOf_f p l _ hs2 hp2 hl2 ..) ?_ | with_reducible refine GPureK.ret (fun _ => impl_RunOf_f p l _ hs2 hp2 hl2 ..) ?_ | with_reducible refine GHeldK.ret (impl_RunOf_f p l _ hs2 hp2 hl2 ..) ?_ | with_reducible refine GCall.ret (spec_RunOf_f p l _ hs2 hp2 hl2 ..) ?_ | with_reducible refine GPureK.ret (fun _ => spec_RunOf_f p l _ hs2 hp2 hl2 ..) ?_ | with_reducible refine GHeldK.ret (spec_RunOf_f p l _ hs2 hp2 hl2 ..) ?_ | with_reducible refine GCall.ret (lk_res p l ..) ?_ | with_reducible refine GPureK.ret (fun _ => lk_res p l ..) ?_ | with_reducible refine GHeldK.ret (lk_res p l ..) ?_ | with_reducible refine gstat_intro (by kernel_rfl) ?_ | ((with_reducible refine gcase_intro (fun hc => ?_) (fun hc => ?_)) <;> (have hr := hc) <;> (try simp only [Bool.and_eq_true, Bool.and_eq_false_iff, Bool.or_eq_true, Bool.or_eq_false_iff, decide_eq_true_eq, decide_eq_false_iff_not, Bool.not_eq_true, Bool.not_eq_false, Bool.not_eq_eq_eq_not, Bool.not_true, Bool.not_false, beq_iff_eq, beq_eq_false_iff_ne, bne_iff_ne, bne_eq_false_iff_eq, Bool.false_eq_true, Bool.true_eq_false, Int.not_lt, Int.not_le, ne_eq, not_true_eq_false, not_false_eq_true] at hc) <;> (try (first | with_reducible exact (bcontra hc (by assumption)).elim | with_reducible exact (bcontra (by assumption) hc).elim | contradiction | (exfalso; omega))) <;> (try simp only [push_cast, Nat.reduceAdd, Nat.reduceBEq, Nat.reduceEqDiff, ↓reduceIte, Nat.reduceLT, Nat.reduceMul, Nat.reduceLeDiff, Int.reduceToNat, Int.reduceEq, Int.reduceLT, Int.reduceLE, Int.reduceAdd, Int.reduceSub, Int.reduceNeg, bI, hr]) <;> (try clear hr)) | with_reducible refine gassert_intro (by first | omega | (simp; done) | (simp; omega)) ?_ | ((with_reducible refine optq_ints (by simp only [isInts]) (by simp only [List.length_cons, List.length_nil]; omega) (fun v hv => ?_)) <;> (simp only [toInts, List.mem_cons, List.not_mem_nil, or_false] at hv)) | with_reducible refine optq_idx (by omega) ?_)
  · (all_goals ((first | refine gret_id hG ⟨?_, rfl⟩ | refine gret_pure hG ⟨?_, rfl⟩) <;> (try simp only [push_cast, Nat.reduceAdd, Nat.reduceBEq, Nat.reduceEqDiff, ↓reduceIte, Nat.reduceLT, Nat.reduceMul, Nat.reduceLeDiff, Int.reduceToNat, Int.reduceEq, Int.reduceLT, Int.reduceLE, Int.reduceAdd, Int.reduceSub, Int.reduceNeg, bI])))
  · rw [show ((resOf p l 0).code == 9) = true by rw [beq_iff_eq]; omega]
    (all_goals ((first | refine gret_id hG ⟨?_, rfl⟩ | refine gret_pure hG ⟨?_, rfl⟩) <;> (try simp only [push_cast, Nat.reduceAdd, Nat.reduceBEq, Nat.reduceEqDiff, ↓reduceIte, Nat.reduceLT, Nat.reduceMul, Nat.reduceLeDiff, Int.reduceToNat, Int.reduceEq, Int.reduceLT, Int.reduceLE, Int.reduceAdd, Int.reduceSub, Int.reduceNeg, bI])))
  · exact absurd hc (by simp [n1, n2]; rfl)
end Gx
