/- A part of the proof: what some of the functions come to. -/
import Derived.Test.YtbibihbkkflidaaGxB9
set_option linter.unusedSimpArgs false
set_option linter.unusedVariables false
namespace Gx
open Go Go.Proofs
theorem pRows_set {b : Nat → Nat} {p : Prog} {i id : Nat} {s : Step} (hi : i < p.length) : (pRows b p).set i (gSo id s) = pRows (fun j => if j = i then id else b j) (p.set i s) := by
  apply List.ext_getElem
  · simp [pRows]
  · intro j h1 h2
    simp only [pRows, List.getElem_set, List.getElem_mapIdx]
    by_cases e : i = j
    · subst e; simp
    · simp [e, Ne.symm e]
theorem pRows_get {b : Nat → Nat} {p : Prog} {i : Nat} : (pRows b p)[i]? = (p[i]?).map fun s => gSo (b i) s := by simp [pRows]
theorem set_zero {q : Prog} {x s : Step} (h : 1 ≤ q.length) : (q ++ [x]).set 0 s = s :: (q.tail ++ [x]) := by cases q with | nil => simp at h | cons a r => rfl
theorem tail_mid {q : Prog} {x s : Step} {i : Nat} (h1 : 1 ≤ i) (h2 : i < q.length) (h : i < (s :: (q.tail ++ [x])).length) : (s :: (q.tail ++ [x]))[i] = q[i] := by
  cases q with
  | nil => simp at h2
  | cons a r => cases i with
    | zero => omega
    | succ i => simp only [List.tail_cons, List.getElem_cons_succ]; rw [List.getElem_append_left (by simpa using h2)]
theorem tail_last {q : Prog} {x s : Step} (hq : 1 ≤ q.length) (h : q.length < (s :: (q.tail ++ [x])).length) : (s :: (q.tail ++ [x]))[q.length] = x := by
  cases q with
  | nil => simp at hq
  | cons a r => simp
/-- A program of the caller's own, lent. -/
theorem lentP {h : GH} {a : Nat} {b : Nat → Nat} {p : Prog} (hst : h.get a = some (.cells 49 8 (pRows b p))) (hfam : ∀ i (hi : i < p.length), h.get (b i) = some (nB p[i])) : Lent h (.msl a 8 0 p.length) (gSs p) := by
  have e0 : ((pRows b p).drop 0).take p.length = pRows b p := by rw [List.drop_zero]; exact List.take_of_length_le (by simp [pRows])
  refine .msl hst (by rw [e0]; simp [pRows]) (fun i r r' h1 h2 => ?_) (fun r hr g hg => ?_) (fun i j r r' g g' h1 h2 h3 h4 => ?_)
  · rw [e0, pRows_get] at h1
    rw [List.getElem?_map] at h2
    obtain ⟨s, hs, rfl⟩ := Option.map_eq_some_iff.1 h1
    rw [hs] at h2; simp at h2; subst h2; rfl
  · obtain ⟨s, _, rfl⟩ := List.mem_map.1 hr
    simp only [List.mem_cons, List.not_mem_nil, or_false] at hg
    rcases hg with rfl | rfl | rfl | rfl | rfl | rfl | rfl | rfl <;> rfl
  · rw [e0, pRows_get] at h1
    rw [List.getElem?_map] at h2
    obtain ⟨s, hs, rfl⟩ := Option.map_eq_some_iff.1 h1
    rw [hs] at h2; simp at h2; subst h2
    have hi : i < p.length := (List.getElem?_eq_some_iff.1 hs).1
    have hsi : p[i] = s := (List.getElem?_eq_some_iff.1 hs).2
    have hf := hfam i hi
    rw [hsi] at hf
    match j, h3, h4 with
    | 0, h3, h4 => simp at h3 h4; subst h3; subst h4; exact .same _
    | 1, h3, h4 => simp at h3 h4; subst h3; subst h4; exact .same _
    | 2, h3, h4 => simp at h3 h4; subst h3; subst h4; exact .same _
    | 3, h3, h4 => simp at h3 h4; subst h3; subst h4; exact .same _
    | 4, h3, h4 => simp at h3 h4; subst h3; subst h4; exact .same _
    | 5, h3, h4 => simp at h3 h4; subst h3; subst h4; exact .same _
    | 6, h3, h4 => simp at h3 h4; subst h3; subst h4; exact .same _
    | 7, h3, h4 => simp at h3 h4; subst h3; subst h4; exact Lent.whole hf (by simp) (fun r hr g hg => by
        obtain ⟨n, _, rfl⟩ := List.mem_map.1 hr
        simp only [List.mem_singleton] at hg; subst hg; rfl)
    | j + 8, h3, h4 => simp at h3
theorem lentProg {h : GH} {a : Nat} {b : Nat → Nat} {p : Prog} (hst : h.get a = some (.cells 49 8 (pRows b p))) (hfam : ∀ i (hi : i < p.length), h.get (b i) = some (nB p[i])) : Lent h (.agg [.msl a 8 0 p.length]) (gP p) :=
  Lent.aggL (.cons (lentP hst hfam) .nil)
theorem cln_gPo (n : Nat) (p : Prog) : Cln n (gPo n p) := .agg fun g hg => by
  simp only [List.mem_singleton] at hg; subst hg; exact .msl (Nat.le_refl _)
theorem cln_gPb (n : Nat) (p : Prog) : ∀ b ∈ gPb n p, ClnB n b := fun b hb => by
  rcases List.mem_cons.1 hb with rfl | hb
  · intro r hr g hg
    obtain ⟨i, hi, rfl⟩ := List.mem_iff_getElem.1 hr
    simp only [pRows, List.getElem_mapIdx, List.mem_cons, List.not_mem_nil, or_false] at hg
    rcases hg with rfl | rfl | rfl | rfl | rfl | rfl | rfl | rfl <;> first | exact .v _ | exact .msl (by omega)
  · obtain ⟨s, _, rfl⟩ := List.mem_map.1 hb
    intro r hr g hg
    obtain ⟨x, _, rfl⟩ := List.mem_map.1 hr
    simp only [List.mem_singleton] at hg; subst hg; exact .v _

set_option maxRecDepth 100000 in
set_option maxHeartbeats 4000000 in
theorem spec_l2First_same (p : Prog) (hp : p.length ≤ 500) (hs : ∀ s ∈ p, s.next.length ≤ 1000) (h : GH) (a : Nat) (b : Nat → Nat) (hst : h.get a = some (.cells 49 8 (pRows b p))) (hfam : ∀ i (hi : i < p.length), h.get (b i) = some (nB p[i]))
    (hw : waysL p 0 = 0) : GCall Pg f_spec_l2First [.agg [.msl a 8 0 p.length]] h fun v h' => v = .agg [.msl a 8 0 p.length] ∧ h' = h := by
  refine gcall_enterx mixed [(5, [(0, 0), (2, 0), (1, 1), (3, 1), (4, 0), (5, 1), (6, 0), (7, 2), (8, 0), (9, 2)])] call_spec_l2First func_spec_l2First rfl nt_spec_l2First (by simp) res_spec_l2First fun S0 e hG => ?_; have hn := hG.next
  have hla : a < h.next := hn a (by rw [hst]; simp)
  have hlb : ∀ i (hi : i < p.length), b i < h.next := fun i hi => hn (b i) (by rw [hfam i hi]; simp)
  have hfam' : ∀ bs i (hi : i < p.length), (GX h.next h.get bs).get (b i) = some (nB p[i]) := fun bs i hi => by rw [gx_get_low (hlb i hi), hfam i hi]
  have hst' : ∀ bs, (GX h.next h.get bs).get a = some (.cells 49 8 (pRows b p)) := fun bs => by rw [gx_get_low hla, hst]
  repeat' (first | simp (disch := omega) only [push_cast, Nat.reduceAdd, Nat.reduceBEq, Nat.reduceEqDiff, ↓reduceIte, Nat.reduceLT, Nat.reduceMul, Nat.reduceLeDiff, Int.reduceToNat, Int.reduceEq, Int.reduceLT, Int.reduceLE, Int.reduceAdd, Int.reduceSub, Int.reduceNeg, bI, hd_int, hw] | with_reducible refine GCall.ret (GCall.lend0 (spec_l2Ways p 0 (by omega) hs _) (.cons (lentProg (hst' _) (hfam' _)) (.cons (.same _) .nil)) (.v _) ⟨rfl, rfl⟩ ..) ?_ | with_reducible refine GPureK.ret (fun _ => GCall.lend0 (spec_l2Ways p 0 (by omega) hs _) (.cons (lentProg (hst' _) (hfam' _)) (.cons (.same _) .nil)) (.v _) ⟨rfl, rfl⟩ ..) ?_ | with_reducible refine GHeldK.ret (GCall.lend0 (spec_l2Ways p 0 (by omega) hs _) (.cons (lentProg (hst' _) (hfam' _)) (.cons (.same _) .nil)) (.v _) ⟨rfl, rfl⟩ ..) ?_ | with_reducible refine gstat_intro (by kernel_rfl) ?_ | ((with_reducible refine gcase_intro (fun hc => ?_) (fun hc => ?_)) <;> (have hr := hc) <;> (try simp only [Bool.and_eq_true, Bool.and_eq_false_iff, Bool.or_eq_true, Bool.or_eq_false_iff, decide_eq_true_eq, decide_eq_false_iff_not, Bool.not_eq_true, Bool.not_eq_false, Bool.not_eq_eq_eq_not, Bool.not_true, Bool.not_false, beq_iff_eq, beq_eq_false_iff_ne, bne_iff_ne, bne_eq_false_iff_eq, Bool.false_eq_true, Bool.true_eq_false, Int.not_lt, Int.not_le, ne_eq, not_true_eq_false, not_false_eq_true] at hc) <;> (try (first | with_reducible exact (bcontra hc (by assumption)).elim | with_reducible exact (bcontra (by assumption) hc).elim | contradiction | (exfalso; omega))) <;> (try simp only [push_cast, Nat.reduceAdd, Nat.reduceBEq, Nat.reduceEqDiff, ↓reduceIte, Nat.reduceLT, Nat.reduceMul, Nat.reduceLeDiff, Int.reduceToNat, Int.reduceEq, Int.reduceLT, Int.reduceLE, Int.reduceAdd, Int.reduceSub, Int.reduceNeg, bI, hw, hr]) <;> (try clear hr)) | with_reducible refine gassert_intro (by first | omega | (simp; done) | (simp; omega)) ?_ | ((with_reducible refine optq_ints (by simp only [isInts]) (by simp only [List.length_cons, List.length_nil]; omega) (fun v hv => ?_)) <;> (simp only [toInts, List.mem_cons, List.not_mem_nil, or_false] at hv)) | with_reducible refine optq_idx (by omega) ?_)
  refine gret_low ⟨rfl, rfl⟩ (GX_of hG).symm .refl (by simp only [un_agg, List.map_cons, List.map_nil, un_msl_low hla])

set_option maxRecDepth 100000 in
set_option maxHeartbeats 4000000 in
theorem spec_l2First_new (p : Prog) (hp : p.length ≤ 500) (hp1 : 1 ≤ p.length) (hs : ∀ s ∈ p, s.next.length ≤ 1000) (h : GH) (a : Nat) (b : Nat → Nat) (hst : h.get a = some (.cells 49 8 (pRows b p))) (hfam : ∀ i (hi : i < p.length), h.get (b i) = some (nB p[i]))
    (hw : waysL p 0 ≠ 0) : GCall Pg f_spec_l2First [.agg [.msl a 8 0 p.length]] h fun v h' => v = gPo h.next (firstL p) ∧ h' = h.add (gPb h.next (firstL p)) := by
  refine gcall_enterx mixed [(5, [(0, 0), (2, 0), (3, 1), (4, 0), (5, 1), (1, 3), (6, 4), (7, 2), (8, 0), (9, 2)])] call_spec_l2First func_spec_l2First rfl nt_spec_l2First (by simp) res_spec_l2First fun S0 e hG => ?_; have hn := hG.next
  have hla : a < h.next := hn a (by rw [hst]; simp)
  have hlb : ∀ i (hi : i < p.length), b i < h.next := fun i hi => hn (b i) (by rw [hfam i hi]; simp)
  have hfam' : ∀ bs i (hi : i < p.length), (GX h.next h.get bs).get (b i) = some (nB p[i]) := fun bs i hi => by rw [gx_get_low (hlb i hi), hfam i hi]
  have hst' : ∀ bs, (GX h.next h.get bs).get a = some (.cells 49 8 (pRows b p)) := fun bs => by rw [gx_get_low hla, hst]
  have hwl := waysL_le p 0 1000 hs
  have hwi : ¬ ((waysL p 0 : Nat) : Int) = 0 := by omega
  have hrow : pRows (fun i => h.next + (i + 3)) p ++ [gSo (h.next + 3) p[0]] = pRows (fun j => if j = p.length then h.next + 3 else h.next + (j + 3)) (p ++ [p[0]]) := by
    rw [pRows_snoc, if_pos rfl, pRows_congr (c := fun j => if j = p.length then h.next + 3 else h.next + (j + 3)) fun i hi => by simp only [if_neg (Nat.ne_of_lt hi)]]
  have hget0 : (p ++ [p[0]])[0]? = some p[0] := by rw [List.getElem?_append_left (by omega), List.getElem?_eq_getElem (by omega)]
  repeat' (first | simp (disch := omega) only [push_cast, Nat.reduceAdd, Nat.reduceBEq, Nat.reduceEqDiff, ↓reduceIte, Nat.reduceLT, Nat.reduceMul, Nat.reduceLeDiff, Int.reduceToNat, Int.reduceEq, Int.reduceLT, Int.reduceLE, Int.reduceAdd, Int.reduceSub, Int.reduceNeg, bI, hd_int, hwi, pRows_length, hrow, hget0, List.length_append] | with_reducible refine GCall.ret (GCall.lend0 (spec_l2Ways p 0 (by omega) hs _) (.cons (lentProg (hst' _) (hfam' _)) (.cons (.same _) .nil)) (.v _) ⟨rfl, rfl⟩ ..) ?_ | with_reducible refine GPureK.ret (fun _ => GCall.lend0 (spec_l2Ways p 0 (by omega) hs _) (.cons (lentProg (hst' _) (hfam' _)) (.cons (.same _) .nil)) (.v _) ⟨rfl, rfl⟩ ..) ?_ | with_reducible refine GHeldK.ret (GCall.lend0 (spec_l2Ways p 0 (by omega) hs _) (.cons (lentProg (hst' _) (hfam' _)) (.cons (.same _) .nil)) (.v _) ⟨rfl, rfl⟩ ..) ?_ | (with_reducible refine GCall.lend (spec_l1Copy p (by omega) hs _) (.cons (lentProg (hst' _) (hfam' _)) .nil) (cln_gPo _ _) (cln_gPb _ _) ?_) | with_reducible refine gstat_intro (by kernel_rfl) ?_ | ((with_reducible refine gcase_intro (fun hc => ?_) (fun hc => ?_)) <;> (have hr := hc) <;> (try simp only [Bool.and_eq_true, Bool.and_eq_false_iff, Bool.or_eq_true, Bool.or_eq_false_iff, decide_eq_true_eq, decide_eq_false_iff_not, Bool.not_eq_true, Bool.not_eq_false, Bool.not_eq_eq_eq_not, Bool.not_true, Bool.not_false, beq_iff_eq, beq_eq_false_iff_ne, bne_iff_ne, bne_eq_false_iff_eq, Bool.false_eq_true, Bool.true_eq_false, Int.not_lt, Int.not_le, ne_eq, not_true_eq_false, not_false_eq_true] at hc) <;> (try (first | with_reducible exact (bcontra hc (by assumption)).elim | with_reducible exact (bcontra (by assumption) hc).elim | contradiction | (exfalso; omega))) <;> (try simp only [push_cast, Nat.reduceAdd, Nat.reduceBEq, Nat.reduceEqDiff, ↓reduceIte, Nat.reduceLT, Nat.reduceMul, Nat.reduceLeDiff, Int.reduceToNat, Int.reduceEq, Int.reduceLT, Int.reduceLE, Int.reduceAdd, Int.reduceSub, Int.reduceNeg, bI, hwi, pRows_length, hrow, hget0, List.length_append, hr]) <;> (try clear hr)) | with_reducible refine gassert_intro (by first | omega | (simp; done) | (simp; omega)) ?_ | ((with_reducible refine optq_ints (by simp only [isInts]) (by simp only [List.length_cons, List.length_nil]; omega) (fun v hv => ?_)) <;> (simp only [toInts, List.mem_cons, List.not_mem_nil, or_false] at hv)) | with_reducible refine optq_idx (by omega) ?_)
  have hpe : p = p[0] :: p.tail := by cases p with | nil => simp at hp1 | cons y r => rfl
  have hfl : firstL p = skipTo p.length :: (p.tail ++ [p[0]]).map (mapNext fun x => if x = 0 then (p.length : Int) else x) := by
    have h1 : p.headD step0 = p[0] := by
      cases p with
      | nil => simp at hp1
      | cons y r => rfl
    simp only [firstL, hw, if_false, h1]
  generalize hgg : (fun x : Int => if x = 0 then (p.length : Int) else x) = gg at hfl
  have hgx : ∀ x : Int, (if x = 0 then (p.length : Int) else x) = gg x := fun x => by rw [← hgg]
  have htl : p.tail.length + 1 = p.length := by simp; omega
  refine gloop_can (σ := Prog × Prog) (fun s => [(2, .mptr h.next 0 0), (3, iv p.length), (4, .mptr (h.next + 1) 0 0), (5, iv s.1.length)])
    (fun s => GX h.next h.get (some (.cells 32 1 [[.esl]]) :: some (.cells 32 1 [[.msl (h.next + 2) 8 0 (p.length + 1)]]) :: some (.cells 49 8 (pRows (fun i => h.next + (i + 3)) (s.1 ++ s.2))) :: pFam (s.1 ++ s.2)))
    (fun s => firstL p = s.1 ++ s.2.map (mapNext gg) ∧ s.1.length + s.2.length = p.length + 1 ∧ (∀ x ∈ s.2, x.next.length ≤ 1000)) (fun s => s.2.length) ([skipTo p.length], p.tail ++ [p[0]]) ([.o 1, .o (p.length + 3), .o (p.length + 5)] ++ famO (p.length + 1) (fun j => if j = 0 then p.length + 6 else if j = p.length then 3 else j + 3)) e hG mixed
    ⟨hfl, by simp; omega, fun x hx => by
      simp only [List.mem_append, List.mem_singleton] at hx
      rcases hx with hx | rfl
      · exact hs x (List.mem_of_mem_tail hx)
      · exact hs _ (List.getElem_mem _)⟩
    (GRen.gx _ rfl .refl (fam_nodup (by simp [srcNodup] <;> omega) (fun i j h1 h2 h => by (repeat' split at h) <;> omega) (fun i hi => by simp; (repeat' split) <;> omega)) (by (first | (simp (disch := omega) only [push_cast, Nat.reduceAdd, Nat.reduceBEq, Nat.reduceEqDiff, ↓reduceIte, Nat.reduceLT, Nat.reduceMul, Nat.reduceLeDiff, Int.reduceToNat, Int.reduceEq, Int.reduceLT, Int.reduceLE, Int.reduceAdd, Int.reduceSub, Int.reduceNeg, bI, wrap_i64, Function.comp_def, List.map_map, List.map_append]; done) | (simp (disch := omega) [push_cast, gx_get_low, gx_set_low, un_msl_low, un_mptr_low, un_mmap_low, ite_blk_ne, ite_blk_eq, wrap_i64, Function.comp_def, List.map_map, List.map_append]; done) | fail "simpf"))
      (.oc (by simp (disch := omega) only [push_cast, Nat.reduceAdd, Nat.reduceBEq, Nat.reduceEqDiff, ↓reduceIte, Nat.reduceLT, Nat.reduceMul, Nat.reduceLeDiff, Int.reduceToNat, Int.reduceEq, Int.reduceLT, Int.reduceLE, Int.reduceAdd, Int.reduceSub, Int.reduceNeg, bI]) (.oc (by (first | (simp (disch := omega) only [push_cast, Nat.reduceAdd, Nat.reduceBEq, Nat.reduceEqDiff, ↓reduceIte, Nat.reduceLT, Nat.reduceMul, Nat.reduceLeDiff, Int.reduceToNat, Int.reduceEq, Int.reduceLT, Int.reduceLE, Int.reduceAdd, Int.reduceSub, Int.reduceNeg, bI, wrap_i64, Function.comp_def, List.map_map, List.map_append]; done) | (simp (disch := omega) [push_cast, gx_get_low, gx_set_low, un_msl_low, un_mptr_low, un_mmap_low, ite_blk_ne, ite_blk_eq, wrap_i64, Function.comp_def, List.map_map, List.map_append]; done) | fail "simpf")) (.oc ?_ (TopOk.fam _ (by simp; omega) (fun s _ => nB_un s) fun i hi => ?_))))) ?_
  · simp only [push_cast, Nat.reduceAdd, Nat.reduceBEq, Nat.reduceEqDiff, ↓reduceIte, Nat.reduceLT, Nat.reduceMul, Nat.reduceLeDiff, Int.reduceToNat, Int.reduceEq, Int.reduceLT, Int.reduceLE, Int.reduceAdd, Int.reduceSub, Int.reduceNeg, bI]
    rw [pRows_fam3 (by simp; omega)]
    have e1 : [GV.v (.int .i64 6), GV.v (.int .i64 0), GV.v (.int .i64 0), GV.v (.int .i64 0), GV.v (.int .i64 0), GV.v (.int .i64 0), GV.v (.int .i64 0), GV.msl (h.next + (p.length + 3 + 1 + 1 + 1)) 1 0 1] = gSo (h.next + (p.length + 6)) (skipTo p.length) := rfl
    rw [e1, pRows_set (by simp), set_zero hp1]
    rw [pRows_congr fun i hi => ?_]
    simp at hi
    (repeat' split) <;> omega
  · simp only [List.singleton_append] at hi ⊢
    simp at hi
    by_cases e0 : i = 0
    · subst e0
      simp only [if_true, List.getElem_cons_zero]
      (first | (simp (disch := omega) only [push_cast, Nat.reduceAdd, Nat.reduceBEq, Nat.reduceEqDiff, ↓reduceIte, Nat.reduceLT, Nat.reduceMul, Nat.reduceLeDiff, Int.reduceToNat, Int.reduceEq, Int.reduceLT, Int.reduceLE, Int.reduceAdd, Int.reduceSub, Int.reduceNeg, bI, wrap_i64, Function.comp_def, List.map_map, List.map_append, skipTo]; done) | (simp (disch := omega) [push_cast, gx_get_low, gx_set_low, un_msl_low, un_mptr_low, un_mmap_low, ite_blk_ne, ite_blk_eq, wrap_i64, Function.comp_def, List.map_map, List.map_append, skipTo]; done) | fail "simpf")
    by_cases e1 : i = p.length
    · subst e1
      simp only [if_neg e0, if_true, tail_last hp1]
      exact (by simp (disch := omega) only [push_cast, Nat.reduceAdd, Nat.reduceBEq, Nat.reduceEqDiff, ↓reduceIte, Nat.reduceLT, Nat.reduceMul, Nat.reduceLeDiff, Int.reduceToNat, Int.reduceEq, Int.reduceLT, Int.reduceLE, Int.reduceAdd, Int.reduceSub, Int.reduceNeg, bI, fam_in])
    · simp only [if_neg e0, if_neg e1, tail_mid (show 1 ≤ i by omega) (show i < p.length by omega)]
      exact (by simp (disch := omega) only [push_cast, Nat.reduceAdd, Nat.reduceBEq, Nat.reduceEqDiff, ↓reduceIte, Nat.reduceLT, Nat.reduceMul, Nat.reduceLeDiff, Int.reduceToNat, Int.reduceEq, Int.reduceLT, Int.reduceLE, Int.reduceAdd, Int.reduceSub, Int.reduceNeg, bI, fam_in])
  rintro ⟨xs, ys⟩ ⟨hI, hl, hb⟩
  dsimp only at hI hl hb ⊢
  cases ys with
  | nil =>
    simp only [List.length_nil, Nat.add_zero] at hl
    simp only [List.map_nil, List.append_nil] at hI ⊢
    subst hI
    repeat' (first | simp (disch := omega) only [push_cast, Nat.reduceAdd, Nat.reduceBEq, Nat.reduceEqDiff, ↓reduceIte, Nat.reduceLT, Nat.reduceMul, Nat.reduceLeDiff, Int.reduceToNat, Int.reduceEq, Int.reduceLT, Int.reduceLE, Int.reduceAdd, Int.reduceSub, Int.reduceNeg, bI, hd_int, hl] | with_reducible refine gstat_intro (by kernel_rfl) ?_ | ((with_reducible refine gcase_intro (fun hc => ?_) (fun hc => ?_)) <;> (have hr := hc) <;> (try simp only [Bool.and_eq_true, Bool.and_eq_false_iff, Bool.or_eq_true, Bool.or_eq_false_iff, decide_eq_true_eq, decide_eq_false_iff_not, Bool.not_eq_true, Bool.not_eq_false, Bool.not_eq_eq_eq_not, Bool.not_true, Bool.not_false, beq_iff_eq, beq_eq_false_iff_ne, bne_iff_ne, bne_eq_false_iff_eq, Bool.false_eq_true, Bool.true_eq_false, Int.not_lt, Int.not_le, ne_eq, not_true_eq_false, not_false_eq_true] at hc) <;> (try (first | with_reducible exact (bcontra hc (by assumption)).elim | with_reducible exact (bcontra (by assumption) hc).elim | contradiction | (exfalso; omega))) <;> (try simp only [push_cast, Nat.reduceAdd, Nat.reduceBEq, Nat.reduceEqDiff, ↓reduceIte, Nat.reduceLT, Nat.reduceMul, Nat.reduceLeDiff, Int.reduceToNat, Int.reduceEq, Int.reduceLT, Int.reduceLE, Int.reduceAdd, Int.reduceSub, Int.reduceNeg, bI, hl, hr]) <;> (try clear hr)) | with_reducible refine gassert_intro (by first | omega | (simp; done) | (simp; omega)) ?_ | ((with_reducible refine optq_ints (by simp only [isInts]) (by simp only [List.length_cons, List.length_nil]; omega) (fun v hv => ?_)) <;> (simp only [toInts, List.mem_cons, List.not_mem_nil, or_false] at hv)) | with_reducible refine optq_idx (by omega) ?_)
    have hpl : p.length + 1 = (firstL p).length := hl.symm
    simp only [hpl]
    refine gret_ren ([.o 2] ++ famO (firstL p).length fun i => i + 3) ⟨rfl, rfl⟩ .refl (fam_nodup rfl (fun i j _ _ h => by omega) (fun i _ => by simp)) (by (first | (simp (disch := omega) only [push_cast, Nat.reduceAdd, Nat.reduceBEq, Nat.reduceEqDiff, ↓reduceIte, Nat.reduceLT, Nat.reduceMul, Nat.reduceLeDiff, Int.reduceToNat, Int.reduceEq, Int.reduceLT, Int.reduceLE, Int.reduceAdd, Int.reduceSub, Int.reduceNeg, bI, wrap_i64, Function.comp_def, List.map_map, List.map_append]; done) | (simp (disch := omega) [push_cast, gx_get_low, gx_set_low, un_msl_low, un_mptr_low, un_mmap_low, ite_blk_ne, ite_blk_eq, wrap_i64, Function.comp_def, List.map_map, List.map_append]; done) | fail "simpf")) (.oc ?_ (TopOk.fam _ rfl (fun s _ => nB_un s) fun i hi => (by simp (disch := omega) only [push_cast, Nat.reduceAdd, Nat.reduceBEq, Nat.reduceEqDiff, ↓reduceIte, Nat.reduceLT, Nat.reduceMul, Nat.reduceLeDiff, Int.reduceToNat, Int.reduceEq, Int.reduceLT, Int.reduceLE, Int.reduceAdd, Int.reduceSub, Int.reduceNeg, bI, fam_in'])))
    simp only [push_cast, Nat.reduceAdd, Nat.reduceBEq, Nat.reduceEqDiff, ↓reduceIte, Nat.reduceLT, Nat.reduceMul, Nat.reduceLeDiff, Int.reduceToNat, Int.reduceEq, Int.reduceLT, Int.reduceLE, Int.reduceAdd, Int.reduceSub, Int.reduceNeg, bI]
    rw [pRows_fam1 (Nat.le_refl _)]
  | cons y ys =>
    simp only [List.length_cons] at hl
    have hby := hb y (by simp)
    have hgy : (xs ++ y :: ys)[xs.length]? = some y := get_mid?
    have hgy2 : ∀ h, (xs ++ y :: ys)[xs.length]'h = y := get_mid
    have hgf : (pFam (xs ++ y :: ys))[xs.length]? = some (some (nB y)) := by simp
    have hgf2 : ∀ r, (pFam (xs ++ y :: ys) ++ r)[xs.length]? = some (some (nB y)) := fun r => by rw [List.getElem?_append_left (by simp), hgf]
    have hLm : (xs ++ y :: ys).length = p.length + 1 := by simp; omega
    generalize hLd : xs ++ y :: ys = L at hgy hgy2 hgf hgf2 hLm
    repeat' (first | simp (disch := omega) only [push_cast, Nat.reduceAdd, Nat.reduceBEq, Nat.reduceEqDiff, ↓reduceIte, Nat.reduceLT, Nat.reduceMul, Nat.reduceLeDiff, Int.reduceToNat, Int.reduceEq, Int.reduceLT, Int.reduceLE, Int.reduceAdd, Int.reduceSub, Int.reduceNeg, bI, hd_int, hgy, hgy2, hgf, hgf2, hLm] | with_reducible refine gstat_intro (by kernel_rfl) ?_ | ((with_reducible refine gcase_intro (fun hc => ?_) (fun hc => ?_)) <;> (have hr := hc) <;> (try simp only [Bool.and_eq_true, Bool.and_eq_false_iff, Bool.or_eq_true, Bool.or_eq_false_iff, decide_eq_true_eq, decide_eq_false_iff_not, Bool.not_eq_true, Bool.not_eq_false, Bool.not_eq_eq_eq_not, Bool.not_true, Bool.not_false, beq_iff_eq, beq_eq_false_iff_ne, bne_iff_ne, bne_eq_false_iff_eq, Bool.false_eq_true, Bool.true_eq_false, Int.not_lt, Int.not_le, ne_eq, not_true_eq_false, not_false_eq_true] at hc) <;> (try (first | with_reducible exact (bcontra hc (by assumption)).elim | with_reducible exact (bcontra (by assumption) hc).elim | contradiction | (exfalso; omega))) <;> (try simp only [push_cast, Nat.reduceAdd, Nat.reduceBEq, Nat.reduceEqDiff, ↓reduceIte, Nat.reduceLT, Nat.reduceMul, Nat.reduceLeDiff, Int.reduceToNat, Int.reduceEq, Int.reduceLT, Int.reduceLE, Int.reduceAdd, Int.reduceSub, Int.reduceNeg, bI, hgy, hgy2, hgf, hgf2, hLm, hr]) <;> (try clear hr)) | with_reducible refine gassert_intro (by first | omega | (simp; done) | (simp; omega)) ?_ | ((with_reducible refine optq_ints (by simp only [isInts]) (by simp only [List.length_cons, List.length_nil]; omega) (fun v hv => ?_)) <;> (simp only [toInts, List.mem_cons, List.not_mem_nil, or_false] at hv)) | with_reducible refine optq_idx (by omega) ?_)
    have ht : List.take y.next.length (List.map (fun n => [iv n]) y.next) = List.map (fun n => [iv n]) y.next := List.take_of_length_le (by simp)
    refine gloop_can (σ := Nat) (fun k => [(2, .mptr h.next 0 0), (3, iv p.length), (4, .mptr (h.next + 1) 0 0), (5, iv xs.length), (6, .msl (h.next + 3) 1 0 y.next.length), (7, iv k)])
      (fun k => GX h.next h.get (some (.cells 32 1 [[.esl]]) :: some (.cells 32 1 [[.msl (h.next + 2) 8 0 (p.length + 1)]]) :: some (.cells 49 8 (pRows (fun i => h.next + (i + 4)) L)) :: bI (half gg y.next k) :: pFam L))
      (fun k => k ≤ y.next.length) (fun k => y.next.length - k) 0 ([.o 0, .o 1, .o 2, .o (p.length + 4)] ++ famO L.length (fun i => i + 3)) e hG mixed (Nat.zero_le _)
      (GRen.gx _ rfl .refl (fam_nodup (by simp [srcNodup] <;> omega) (fun i j _ _ h => by omega) (fun i hi => by rw [hLm] at hi; simp <;> omega)) (by (first | (simp (disch := omega) only [push_cast, Nat.reduceAdd, Nat.reduceBEq, Nat.reduceEqDiff, ↓reduceIte, Nat.reduceLT, Nat.reduceMul, Nat.reduceLeDiff, Int.reduceToNat, Int.reduceEq, Int.reduceLT, Int.reduceLE, Int.reduceAdd, Int.reduceSub, Int.reduceNeg, bI, wrap_i64, Function.comp_def, List.map_map, List.map_append, ht]; done) | (simp (disch := omega) [push_cast, gx_get_low, gx_set_low, un_msl_low, un_mptr_low, un_mmap_low, ite_blk_ne, ite_blk_eq, wrap_i64, Function.comp_def, List.map_map, List.map_append, ht]; done) | fail "simpf")) (.oc (by simp (disch := omega) only [push_cast, Nat.reduceAdd, Nat.reduceBEq, Nat.reduceEqDiff, ↓reduceIte, Nat.reduceLT, Nat.reduceMul, Nat.reduceLeDiff, Int.reduceToNat, Int.reduceEq, Int.reduceLT, Int.reduceLE, Int.reduceAdd, Int.reduceSub, Int.reduceNeg, bI]) (.oc (by simp (disch := omega) only [push_cast, Nat.reduceAdd, Nat.reduceBEq, Nat.reduceEqDiff, ↓reduceIte, Nat.reduceLT, Nat.reduceMul, Nat.reduceLeDiff, Int.reduceToNat, Int.reduceEq, Int.reduceLT, Int.reduceLE, Int.reduceAdd, Int.reduceSub, Int.reduceNeg, bI]) (.oc ?_ (.oc (by (first | (simp (disch := omega) only [push_cast, Nat.reduceAdd, Nat.reduceBEq, Nat.reduceEqDiff, ↓reduceIte, Nat.reduceLT, Nat.reduceMul, Nat.reduceLeDiff, Int.reduceToNat, Int.reduceEq, Int.reduceLT, Int.reduceLE, Int.reduceAdd, Int.reduceSub, Int.reduceNeg, bI, wrap_i64, Function.comp_def, List.map_map, List.map_append, half_zero, hLm.symm, ht]; done) | (simp (disch := omega) [push_cast, gx_get_low, gx_set_low, un_msl_low, un_mptr_low, un_mmap_low, ite_blk_ne, ite_blk_eq, wrap_i64, Function.comp_def, List.map_map, List.map_append, half_zero, hLm.symm, ht]; done) | fail "simpf")) (TopOk.fam _ rfl (fun s _ => nB_un s) fun i hi => (by simp (disch := omega) only [push_cast, Nat.reduceAdd, Nat.reduceBEq, Nat.reduceEqDiff, ↓reduceIte, Nat.reduceLT, Nat.reduceMul, Nat.reduceLeDiff, Int.reduceToNat, Int.reduceEq, Int.reduceLT, Int.reduceLE, Int.reduceAdd, Int.reduceSub, Int.reduceNeg, bI, fam_in]))))))) ?_
    · simp only [push_cast, Nat.reduceAdd, Nat.reduceBEq, Nat.reduceEqDiff, ↓reduceIte, Nat.reduceLT, Nat.reduceMul, Nat.reduceLeDiff, Int.reduceToNat, Int.reduceEq, Int.reduceLT, Int.reduceLE, Int.reduceAdd, Int.reduceSub, Int.reduceNeg, bI]
      rw [pRows_fam4 (Nat.le_refl _)]
    intro k hk
    by_cases hkl : k < y.next.length
    · have hX := half_get gg y.next hkl
      have hlen := half_length gg y.next k
      have hsu := half_succ gg y.next hkl
      repeat' (first | simp (disch := omega) only [push_cast, Nat.reduceAdd, Nat.reduceBEq, Nat.reduceEqDiff, ↓reduceIte, Nat.reduceLT, Nat.reduceMul, Nat.reduceLeDiff, Int.reduceToNat, Int.reduceEq, Int.reduceLT, Int.reduceLE, Int.reduceAdd, Int.reduceSub, Int.reduceNeg, bI, hd_int, hX, hLm] | with_reducible refine gstat_intro (by kernel_rfl) ?_ | ((with_reducible refine gcase_intro (fun hc => ?_) (fun hc => ?_)) <;> (have hr := hc) <;> (try simp only [Bool.and_eq_true, Bool.and_eq_false_iff, Bool.or_eq_true, Bool.or_eq_false_iff, decide_eq_true_eq, decide_eq_false_iff_not, Bool.not_eq_true, Bool.not_eq_false, Bool.not_eq_eq_eq_not, Bool.not_true, Bool.not_false, beq_iff_eq, beq_eq_false_iff_ne, bne_iff_ne, bne_eq_false_iff_eq, Bool.false_eq_true, Bool.true_eq_false, Int.not_lt, Int.not_le, ne_eq, not_true_eq_false, not_false_eq_true] at hc) <;> (try (first | with_reducible exact (bcontra hc (by assumption)).elim | with_reducible exact (bcontra (by assumption) hc).elim | contradiction | (exfalso; omega))) <;> (try simp only [push_cast, Nat.reduceAdd, Nat.reduceBEq, Nat.reduceEqDiff, ↓reduceIte, Nat.reduceLT, Nat.reduceMul, Nat.reduceLeDiff, Int.reduceToNat, Int.reduceEq, Int.reduceLT, Int.reduceLE, Int.reduceAdd, Int.reduceSub, Int.reduceNeg, bI, hX, hLm, hr]) <;> (try clear hr)) | with_reducible refine gassert_intro (by first | omega | (simp; done) | (simp; omega)) ?_ | ((with_reducible refine optq_ints (by simp only [isInts]) (by simp only [List.length_cons, List.length_nil]; omega) (fun v hv => ?_)) <;> (simp only [toInts, List.mem_cons, List.not_mem_nil, or_false] at hv)) | with_reducible refine optq_idx (by omega) ?_)
      · rename_i hx0
        have hg0 : gg y.next[k] = p.length := by rw [← hgx, if_pos hc]
        rw [hg0] at hsu
        refine ⟨k + 1, [.o 0, .o 1, .o 2, .o 3] ++ famO L.length (fun i => i + 4), by dsimp only; omega, by dsimp only; omega, GRen.gx _ rfl .refl (fam_nodup rfl (fun i j _ _ h => by omega) (fun i hi => by simp <;> omega)) (by (first | (simp (disch := omega) only [push_cast, Nat.reduceAdd, Nat.reduceBEq, Nat.reduceEqDiff, ↓reduceIte, Nat.reduceLT, Nat.reduceMul, Nat.reduceLeDiff, Int.reduceToNat, Int.reduceEq, Int.reduceLT, Int.reduceLE, Int.reduceAdd, Int.reduceSub, Int.reduceNeg, bI, wrap_i64, Function.comp_def, List.map_map, List.map_append]; done) | (simp (disch := omega) [push_cast, gx_get_low, gx_set_low, un_msl_low, un_mptr_low, un_mmap_low, ite_blk_ne, ite_blk_eq, wrap_i64, Function.comp_def, List.map_map, List.map_append]; done) | fail "simpf")) (.oc (by simp (disch := omega) only [push_cast, Nat.reduceAdd, Nat.reduceBEq, Nat.reduceEqDiff, ↓reduceIte, Nat.reduceLT, Nat.reduceMul, Nat.reduceLeDiff, Int.reduceToNat, Int.reduceEq, Int.reduceLT, Int.reduceLE, Int.reduceAdd, Int.reduceSub, Int.reduceNeg, bI]) (.oc (by simp (disch := omega) only [push_cast, Nat.reduceAdd, Nat.reduceBEq, Nat.reduceEqDiff, ↓reduceIte, Nat.reduceLT, Nat.reduceMul, Nat.reduceLeDiff, Int.reduceToNat, Int.reduceEq, Int.reduceLT, Int.reduceLE, Int.reduceAdd, Int.reduceSub, Int.reduceNeg, bI]) (.oc ?_ (.oc (by (first | (simp (disch := omega) only [push_cast, Nat.reduceAdd, Nat.reduceBEq, Nat.reduceEqDiff, ↓reduceIte, Nat.reduceLT, Nat.reduceMul, Nat.reduceLeDiff, Int.reduceToNat, Int.reduceEq, Int.reduceLT, Int.reduceLE, Int.reduceAdd, Int.reduceSub, Int.reduceNeg, bI, wrap_i64, Function.comp_def, List.map_map, List.map_append, hsu, List.map_set]; done) | (simp (disch := omega) [push_cast, gx_get_low, gx_set_low, un_msl_low, un_mptr_low, un_mmap_low, ite_blk_ne, ite_blk_eq, wrap_i64, Function.comp_def, List.map_map, List.map_append, hsu, List.map_set]; done) | fail "simpf")) (TopOk.fam _ rfl (fun s _ => nB_un s) fun i hi => (by simp (disch := omega) only [push_cast, Nat.reduceAdd, Nat.reduceBEq, Nat.reduceEqDiff, ↓reduceIte, Nat.reduceLT, Nat.reduceMul, Nat.reduceLeDiff, Int.reduceToNat, Int.reduceEq, Int.reduceLT, Int.reduceLE, Int.reduceAdd, Int.reduceSub, Int.reduceNeg, bI, fam_in']))))))⟩
        simp only [push_cast, Nat.reduceAdd, Nat.reduceBEq, Nat.reduceEqDiff, ↓reduceIte, Nat.reduceLT, Nat.reduceMul, Nat.reduceLeDiff, Int.reduceToNat, Int.reduceEq, Int.reduceLT, Int.reduceLE, Int.reduceAdd, Int.reduceSub, Int.reduceNeg, bI]
        rw [pRows_fam4 (Nat.le_refl _)]
      · have hg0 : gg y.next[k] = y.next[k] := by rw [← hgx, if_neg hc]
        have hsm := half_same gg y.next hkl hg0
        refine ⟨k + 1, [.o 0, .o 1, .o 2, .o 3] ++ famO L.length (fun i => i + 4), by dsimp only; omega, by dsimp only; omega, GRen.gx _ rfl .refl (fam_nodup rfl (fun i j _ _ h => by omega) (fun i hi => by simp <;> omega)) (by (first | (simp (disch := omega) only [push_cast, Nat.reduceAdd, Nat.reduceBEq, Nat.reduceEqDiff, ↓reduceIte, Nat.reduceLT, Nat.reduceMul, Nat.reduceLeDiff, Int.reduceToNat, Int.reduceEq, Int.reduceLT, Int.reduceLE, Int.reduceAdd, Int.reduceSub, Int.reduceNeg, bI, wrap_i64, Function.comp_def, List.map_map, List.map_append]; done) | (simp (disch := omega) [push_cast, gx_get_low, gx_set_low, un_msl_low, un_mptr_low, un_mmap_low, ite_blk_ne, ite_blk_eq, wrap_i64, Function.comp_def, List.map_map, List.map_append]; done) | fail "simpf")) (.oc (by simp (disch := omega) only [push_cast, Nat.reduceAdd, Nat.reduceBEq, Nat.reduceEqDiff, ↓reduceIte, Nat.reduceLT, Nat.reduceMul, Nat.reduceLeDiff, Int.reduceToNat, Int.reduceEq, Int.reduceLT, Int.reduceLE, Int.reduceAdd, Int.reduceSub, Int.reduceNeg, bI]) (.oc (by simp (disch := omega) only [push_cast, Nat.reduceAdd, Nat.reduceBEq, Nat.reduceEqDiff, ↓reduceIte, Nat.reduceLT, Nat.reduceMul, Nat.reduceLeDiff, Int.reduceToNat, Int.reduceEq, Int.reduceLT, Int.reduceLE, Int.reduceAdd, Int.reduceSub, Int.reduceNeg, bI]) (.oc ?_ (.oc (by (first | (simp (disch := omega) only [push_cast, Nat.reduceAdd, Nat.reduceBEq, Nat.reduceEqDiff, ↓reduceIte, Nat.reduceLT, Nat.reduceMul, Nat.reduceLeDiff, Int.reduceToNat, Int.reduceEq, Int.reduceLT, Int.reduceLE, Int.reduceAdd, Int.reduceSub, Int.reduceNeg, bI, wrap_i64, Function.comp_def, List.map_map, List.map_append, hsm]; done) | (simp (disch := omega) [push_cast, gx_get_low, gx_set_low, un_msl_low, un_mptr_low, un_mmap_low, ite_blk_ne, ite_blk_eq, wrap_i64, Function.comp_def, List.map_map, List.map_append, hsm]; done) | fail "simpf")) (TopOk.fam _ rfl (fun s _ => nB_un s) fun i hi => (by simp (disch := omega) only [push_cast, Nat.reduceAdd, Nat.reduceBEq, Nat.reduceEqDiff, ↓reduceIte, Nat.reduceLT, Nat.reduceMul, Nat.reduceLeDiff, Int.reduceToNat, Int.reduceEq, Int.reduceLT, Int.reduceLE, Int.reduceAdd, Int.reduceSub, Int.reduceNeg, bI, fam_in']))))))⟩
        simp only [push_cast, Nat.reduceAdd, Nat.reduceBEq, Nat.reduceEqDiff, ↓reduceIte, Nat.reduceLT, Nat.reduceMul, Nat.reduceLeDiff, Int.reduceToNat, Int.reduceEq, Int.reduceLT, Int.reduceLE, Int.reduceAdd, Int.reduceSub, Int.reduceNeg, bI]
        rw [pRows_fam4 (Nat.le_refl _)]
    · have hal := half_all gg y.next (show y.next.length ≤ k by omega)
      have hxl : xs.length < L.length := by omega
      have hLx : L[xs.length] = y := by rw [List.getElem?_eq_getElem hxl] at hgy; exact Option.some.inj hgy
      have hLs : xs ++ [mapNext gg y] ++ ys = L.set xs.length (mapNext gg y) := by rw [← hLd]; simp
      have hnl : (mapNext gg y).next.length = y.next.length := by simp [mapNext]
      repeat' (first | simp (disch := omega) only [push_cast, Nat.reduceAdd, Nat.reduceBEq, Nat.reduceEqDiff, ↓reduceIte, Nat.reduceLT, Nat.reduceMul, Nat.reduceLeDiff, Int.reduceToNat, Int.reduceEq, Int.reduceLT, Int.reduceLE, Int.reduceAdd, Int.reduceSub, Int.reduceNeg, bI, hd_int, hLm] | with_reducible refine gstat_intro (by kernel_rfl) ?_ | ((with_reducible refine gcase_intro (fun hc => ?_) (fun hc => ?_)) <;> (have hr := hc) <;> (try simp only [Bool.and_eq_true, Bool.and_eq_false_iff, Bool.or_eq_true, Bool.or_eq_false_iff, decide_eq_true_eq, decide_eq_false_iff_not, Bool.not_eq_true, Bool.not_eq_false, Bool.not_eq_eq_eq_not, Bool.not_true, Bool.not_false, beq_iff_eq, beq_eq_false_iff_ne, bne_iff_ne, bne_eq_false_iff_eq, Bool.false_eq_true, Bool.true_eq_false, Int.not_lt, Int.not_le, ne_eq, not_true_eq_false, not_false_eq_true] at hc) <;> (try (first | with_reducible exact (bcontra hc (by assumption)).elim | with_reducible exact (bcontra (by assumption) hc).elim | contradiction | (exfalso; omega))) <;> (try simp only [push_cast, Nat.reduceAdd, Nat.reduceBEq, Nat.reduceEqDiff, ↓reduceIte, Nat.reduceLT, Nat.reduceMul, Nat.reduceLeDiff, Int.reduceToNat, Int.reduceEq, Int.reduceLT, Int.reduceLE, Int.reduceAdd, Int.reduceSub, Int.reduceNeg, bI, hLm, hr]) <;> (try clear hr)) | with_reducible refine gassert_intro (by first | omega | (simp; done) | (simp; omega)) ?_ | ((with_reducible refine optq_ints (by simp only [isInts]) (by simp only [List.length_cons, List.length_nil]; omega) (fun v hv => ?_)) <;> (simp only [toInts, List.mem_cons, List.not_mem_nil, or_false] at hv)) | with_reducible refine optq_idx (by omega) ?_)
      refine ⟨(xs ++ [mapNext gg y], ys), [.o 0, .o 1, .o 2] ++ famO L.length (fun j => if j = xs.length then 3 else j + 4), by dsimp only [List.length_cons]; omega, ⟨by rw [hI]; simp, by simp; omega, fun x hx => hb x (by simp [hx])⟩, GRen.gx _ rfl .refl (fam_nodup rfl (fun i j _ _ h => by (repeat' split at h) <;> omega) (fun i hi => by simp; (repeat' split) <;> omega)) (by (first | (simp (disch := omega) only [push_cast, Nat.reduceAdd, Nat.reduceBEq, Nat.reduceEqDiff, ↓reduceIte, Nat.reduceLT, Nat.reduceMul, Nat.reduceLeDiff, Int.reduceToNat, Int.reduceEq, Int.reduceLT, Int.reduceLE, Int.reduceAdd, Int.reduceSub, Int.reduceNeg, bI, wrap_i64, Function.comp_def, List.map_map, List.map_append]; done) | (simp (disch := omega) [push_cast, gx_get_low, gx_set_low, un_msl_low, un_mptr_low, un_mmap_low, ite_blk_ne, ite_blk_eq, wrap_i64, Function.comp_def, List.map_map, List.map_append]; done) | fail "simpf")) ?_⟩
      dsimp only
      rw [hLs]
      refine .oc (by simp (disch := omega) only [push_cast, Nat.reduceAdd, Nat.reduceBEq, Nat.reduceEqDiff, ↓reduceIte, Nat.reduceLT, Nat.reduceMul, Nat.reduceLeDiff, Int.reduceToNat, Int.reduceEq, Int.reduceLT, Int.reduceLE, Int.reduceAdd, Int.reduceSub, Int.reduceNeg, bI]) (.oc (by simp (disch := omega) only [push_cast, Nat.reduceAdd, Nat.reduceBEq, Nat.reduceEqDiff, ↓reduceIte, Nat.reduceLT, Nat.reduceMul, Nat.reduceLeDiff, Int.reduceToNat, Int.reduceEq, Int.reduceLT, Int.reduceLE, Int.reduceAdd, Int.reduceSub, Int.reduceNeg, bI]) (.oc ?_ (TopOk.fam _ (by simp) (fun s _ => nB_un s) fun i hi => ?_)))
      · simp only [push_cast, Nat.reduceAdd, Nat.reduceBEq, Nat.reduceEqDiff, ↓reduceIte, Nat.reduceLT, Nat.reduceMul, Nat.reduceLeDiff, Int.reduceToNat, Int.reduceEq, Int.reduceLT, Int.reduceLE, Int.reduceAdd, Int.reduceSub, Int.reduceNeg, bI]
        rw [pRows_fam3 (by simp)]
        have e1 : [iv L[xs.length].kind, iv L[xs.length].dst, iv L[xs.length].op, iv L[xs.length].a.v, iv L[xs.length].a.n, iv L[xs.length].b.v, iv L[xs.length].b.n, GV.msl (h.next + 3) 1 0 y.next.length] = gSo (h.next + 3) (mapNext gg y) := by simp only [hLx, gSo, hnl]; rfl
        rw [e1, pRows_set hxl]
        rw [pRows_congr fun i hi => ?_]
        split <;> rfl
      · simp only [List.length_set] at hi
        by_cases e : i = xs.length
        · subst e
          simp only [if_true, List.getElem_set_self]
          show some (GBlk.cells 3 1 ((y.next.map gg).map fun n => [iv n])) = _
          exact (by simp (disch := omega) only [push_cast, Nat.reduceAdd, Nat.reduceBEq, Nat.reduceEqDiff, ↓reduceIte, Nat.reduceLT, Nat.reduceMul, Nat.reduceLeDiff, Int.reduceToNat, Int.reduceEq, Int.reduceLT, Int.reduceLE, Int.reduceAdd, Int.reduceSub, Int.reduceNeg, bI, hal])
        · simp only [if_neg e, List.getElem_set_ne (Ne.symm e)]
          exact (by simp (disch := omega) only [push_cast, Nat.reduceAdd, Nat.reduceBEq, Nat.reduceEqDiff, ↓reduceIte, Nat.reduceLT, Nat.reduceMul, Nat.reduceLeDiff, Int.reduceToNat, Int.reduceEq, Int.reduceLT, Int.reduceLE, Int.reduceAdd, Int.reduceSub, Int.reduceNeg, bI, fam_in'])
end Gx
