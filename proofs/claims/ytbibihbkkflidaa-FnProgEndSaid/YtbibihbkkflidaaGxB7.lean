/- A part of the proof: what some of the functions come to. -/
import Derived.Test.YtbibihbkkflidaaGxB4
import Derived.Test.YtbibihbkkflidaaGxB6
set_option linter.unusedSimpArgs false
set_option linter.unusedVariables false
namespace Gx
open Go Go.Proofs

/-! ### programs whose steps' lists are blocks of their own -/
abbrev gSo (id : Nat) (s : Step) : List GV := [iv s.kind, iv s.dst, iv s.op, iv s.a.v, iv s.a.n, iv s.b.v, iv s.b.n, .msl id 1 0 s.next.length]
/-- The steps' rows: the i-th step's list is the block b + i. -/
def pRows (b : Nat → Nat) (p : Prog) : List (List GV) := p.mapIdx fun i s => gSo (b i) s
@[push_cast] theorem pRows_length (b : Nat → Nat) (p : Prog) : (pRows b p).length = p.length := by simp [pRows]
@[push_cast] theorem optq_pRows {b : Nat → Nat} {p : Prog} {i : Nat} {k : List GV → Prop} : optq (pRows b p)[i]? k = optq p[i]? (fun s => k (gSo (b i) s)) := optq_mapIdx
abbrev nB (s : Step) : GBlk := .cells 3 1 (s.next.map fun n => [iv n])
abbrev pFam (p : Prog) : List (Option GBlk) := p.map fun s => some (nB s)
abbrev gPo (n : Nat) (p : Prog) : GV := .agg [.msl n 8 0 p.length]
def gPb (n : Nat) (p : Prog) : List (Option GBlk) := some (.cells 49 8 (pRows (fun i => n + (i + 1)) p)) :: pFam p
@[push_cast] theorem gPb_at {n k : Nat} {p : Prog} : gPb (n + k) p = some (.cells 49 8 (pRows (fun i => n + (i + (k + 1))) p)) :: pFam p := by
  simp only [gPb]
  rw [show (fun i => n + k + (i + 1)) = (fun i => n + (i + (k + 1))) from funext fun i => by omega]
theorem pRows_snoc (b : Nat → Nat) (p : Prog) (s : Step) : pRows b (p ++ [s]) = pRows b p ++ [gSo (b p.length) s] := by
  simp [pRows, List.mapIdx_append]
theorem pRows_congr {b c : Nat → Nat} {p : Prog} (h : ∀ i, i < p.length → b i = c i) : pRows b p = pRows c p :=
  mapIdx_congr fun i hi => by simp only [h i hi]
/-- The rows under new names. -/
theorem pRows_un {n : Nat} {os : List Src} {k : Nat} {b c : Nat → Nat} {p : Prog} (h : ∀ i, i < p.length → ∀ e o l, un n os (k + 1) (.msl (b i) e o l) = .msl (c i) e o l) :
    (pRows b p).map (fun r => r.map (un n os (k + 1))) = pRows c p := by
  rw [pRows, map_mapIdx]
  refine mapIdx_congr fun i hi => ?_
  simp only [List.map_cons, List.map_nil, un_v, h i hi]
theorem nB_un {n : Nat} {os : List Src} {k : Nat} (s : Step) : unB n os (k + 1) (nB s) = nB s := by
  simp [unB_cells, un_v, Function.comp_def]

theorem un_fam {n : Nat} {pre : List Src} {c m : Nat} {q : Nat → Nat} {k i e o l : Nat} (hc : pre.length = c) (hi : i < m) : un n (pre ++ famO m q) (k + 1) (.msl (n + (i + c)) e o l) = .msl (n + q i) e o l := by
  rw [un_msl_at, show i + c = pre.length + i by omega, List.getElem?_append_right (by omega), show pre.length + i - pre.length = i by omega, famO_get hi, unS_o]
theorem pRows_fam1 {n : Nat} {a0 : Src} {m : Nat} {q : Nat → Nat} {k : Nat} {p : Prog} (hm : p.length ≤ m) :
    (pRows (fun i => n + (i + 1)) p).map (fun r => r.map (un n (a0 ::  famO m q) (k + 1))) = pRows (fun i => n + q i) p :=
  pRows_un fun i hi e o l => un_fam (pre := [a0]) rfl (by omega)
theorem pRows_fam2 {n : Nat} {a0 a1 : Src} {m : Nat} {q : Nat → Nat} {k : Nat} {p : Prog} (hm : p.length ≤ m) :
    (pRows (fun i => n + (i + 2)) p).map (fun r => r.map (un n (a0 :: a1 ::  famO m q) (k + 1))) = pRows (fun i => n + q i) p :=
  pRows_un fun i hi e o l => un_fam (pre := [a0, a1]) rfl (by omega)
theorem pRows_fam3 {n : Nat} {a0 a1 a2 : Src} {m : Nat} {q : Nat → Nat} {k : Nat} {p : Prog} (hm : p.length ≤ m) :
    (pRows (fun i => n + (i + 3)) p).map (fun r => r.map (un n (a0 :: a1 :: a2 ::  famO m q) (k + 1))) = pRows (fun i => n + q i) p :=
  pRows_un fun i hi e o l => un_fam (pre := [a0, a1, a2]) rfl (by omega)
theorem pRows_fam4 {n : Nat} {a0 a1 a2 a3 : Src} {m : Nat} {q : Nat → Nat} {k : Nat} {p : Prog} (hm : p.length ≤ m) :
    (pRows (fun i => n + (i + 4)) p).map (fun r => r.map (un n (a0 :: a1 :: a2 :: a3 ::  famO m q) (k + 1))) = pRows (fun i => n + q i) p :=
  pRows_un fun i hi e o l => un_fam (pre := [a0, a1, a2, a3]) rfl (by omega)
theorem pRows_fam5 {n : Nat} {a0 a1 a2 a3 a4 : Src} {m : Nat} {q : Nat → Nat} {k : Nat} {p : Prog} (hm : p.length ≤ m) :
    (pRows (fun i => n + (i + 5)) p).map (fun r => r.map (un n (a0 :: a1 :: a2 :: a3 :: a4 ::  famO m q) (k + 1))) = pRows (fun i => n + q i) p :=
  pRows_un fun i hi e o l => un_fam (pre := [a0, a1, a2, a3, a4]) rfl (by omega)
theorem pRows_fam6 {n : Nat} {a0 a1 a2 a3 a4 a5 : Src} {m : Nat} {q : Nat → Nat} {k : Nat} {p : Prog} (hm : p.length ≤ m) :
    (pRows (fun i => n + (i + 6)) p).map (fun r => r.map (un n (a0 :: a1 :: a2 :: a3 :: a4 :: a5 ::  famO m q) (k + 1))) = pRows (fun i => n + q i) p :=
  pRows_un fun i hi e o l => un_fam (pre := [a0, a1, a2, a3, a4, a5]) rfl (by omega)
theorem pRows_fam7 {n : Nat} {a0 a1 a2 a3 a4 a5 a6 : Src} {m : Nat} {q : Nat → Nat} {k : Nat} {p : Prog} (hm : p.length ≤ m) :
    (pRows (fun i => n + (i + 7)) p).map (fun r => r.map (un n (a0 :: a1 :: a2 :: a3 :: a4 :: a5 :: a6 ::  famO m q) (k + 1))) = pRows (fun i => n + q i) p :=
  pRows_un fun i hi e o l => un_fam (pre := [a0, a1, a2, a3, a4, a5, a6]) rfl (by omega)
theorem pRows_fam8 {n : Nat} {a0 a1 a2 a3 a4 a5 a6 a7 : Src} {m : Nat} {q : Nat → Nat} {k : Nat} {p : Prog} (hm : p.length ≤ m) :
    (pRows (fun i => n + (i + 8)) p).map (fun r => r.map (un n (a0 :: a1 :: a2 :: a3 :: a4 :: a5 :: a6 :: a7 ::  famO m q) (k + 1))) = pRows (fun i => n + q i) p :=
  pRows_un fun i hi e o l => un_fam (pre := [a0, a1, a2, a3, a4, a5, a6, a7]) rfl (by omega)
theorem pRows_fam9 {n : Nat} {a0 a1 a2 a3 a4 a5 a6 a7 a8 : Src} {m : Nat} {q : Nat → Nat} {k : Nat} {p : Prog} (hm : p.length ≤ m) :
    (pRows (fun i => n + (i + 9)) p).map (fun r => r.map (un n (a0 :: a1 :: a2 :: a3 :: a4 :: a5 :: a6 :: a7 :: a8 ::  famO m q) (k + 1))) = pRows (fun i => n + q i) p :=
  pRows_un fun i hi e o l => un_fam (pre := [a0, a1, a2, a3, a4, a5, a6, a7, a8]) rfl (by omega)
theorem fam_nodup {l : List Src} {m : Nat} {q : Nat → Nat} (hl : srcNodup l = true) (hq : ∀ i j, i < m → j < m → q i = q j → i = j) (hd : ∀ i, i < m → Src.o (q i) ∉ l) : srcNodup (l ++ famO m q) = true := srcNodup_fam hl hq hd

set_option maxRecDepth 100000 in
set_option maxHeartbeats 4000000 in
theorem spec_l1Copy (p : Prog) (hp : p.length ≤ 1000) (hs : ∀ s ∈ p, s.next.length ≤ 1000) (h : GH) :
    GCall Pg f_spec_l1Copy [gP p] h fun v h' => v = gPo h.next p ∧ h' = h.add (gPb h.next p) := by
  refine gcall_enterx mixed [] call_spec_l1Copy func_spec_l1Copy rfl nt_spec_l1Copy (by simp) res_spec_l1Copy fun S0 e hG => ?_; have hn := hG.next
  repeat' (first | simp (disch := omega) only [push_cast, Nat.reduceAdd, Nat.reduceBEq, Nat.reduceEqDiff, ↓reduceIte, Nat.reduceLT, Nat.reduceMul, Nat.reduceLeDiff, Int.reduceToNat, Int.reduceEq, Int.reduceLT, Int.reduceLE, Int.reduceAdd, Int.reduceSub, Int.reduceNeg, bI, hd_int] | with_reducible refine gstat_intro (by kernel_rfl) ?_ | ((with_reducible refine gcase_intro (fun hc => ?_) (fun hc => ?_)) <;> (have hr := hc) <;> (try simp only [Bool.and_eq_true, Bool.and_eq_false_iff, Bool.or_eq_true, Bool.or_eq_false_iff, decide_eq_true_eq, decide_eq_false_iff_not, Bool.not_eq_true, Bool.not_eq_false, Bool.not_eq_eq_eq_not, Bool.not_true, Bool.not_false, beq_iff_eq, beq_eq_false_iff_ne, bne_iff_ne, bne_eq_false_iff_eq, Bool.false_eq_true, Bool.true_eq_false, Int.not_lt, Int.not_le, ne_eq, not_true_eq_false, not_false_eq_true] at hc) <;> (try (first | with_reducible exact (bcontra hc (by assumption)).elim | with_reducible exact (bcontra (by assumption) hc).elim | contradiction | (exfalso; omega))) <;> (try simp only [push_cast, Nat.reduceAdd, Nat.reduceBEq, Nat.reduceEqDiff, ↓reduceIte, Nat.reduceLT, Nat.reduceMul, Nat.reduceLeDiff, Int.reduceToNat, Int.reduceEq, Int.reduceLT, Int.reduceLE, Int.reduceAdd, Int.reduceSub, Int.reduceNeg, bI, hr]) <;> (try clear hr)) | with_reducible refine gassert_intro (by first | omega | (simp; done) | (simp; omega)) ?_ | ((with_reducible refine optq_ints (by simp only [isInts]) (by simp only [List.length_cons, List.length_nil]; omega) (fun v hv => ?_)) <;> (simp only [toInts, List.mem_cons, List.not_mem_nil, or_false] at hv)) | with_reducible refine optq_idx (by omega) ?_)
  refine gloop_can (σ := Prog × Prog) (fun x => [(1, .mptr h.next 0 0), (2, .mptr (h.next + 1) 0 0), (3, .mptr (h.next + 2) 0 0), (4, iv x.1.length)])
    (fun x => GX h.next h.get (some (.cells 32 1 [[gSs p]]) :: some (.cells 32 1 [[.esl]]) :: some (.cells 32 1 [[.msl (h.next + 3) 8 0 x.1.length]]) :: some (.cells 49 8 (pRows (fun i => h.next + (i + 4)) x.1)) :: pFam x.1))
    (fun x => p = x.1 ++ x.2) (fun x => x.2.length) ([], p) [.o 0, .o 1, .o 2, .z 8] e hG mixed rfl (GRen.gx [.o 0, .o 1, .o 2, .z 8] rfl (by repeat (first | exact LowOk.refl | exact LowOk.self rfl | exact hlow _ _ | exact LowOk.self (upd_self (by first | assumption | simp only [*])) | refine LowOk.upd ?_ (by (first | (simp (disch := omega) only [push_cast, Nat.reduceAdd, Nat.reduceBEq, Nat.reduceEqDiff, ↓reduceIte, Nat.reduceLT, Nat.reduceMul, Nat.reduceLeDiff, Int.reduceToNat, Int.reduceEq, Int.reduceLT, Int.reduceLE, Int.reduceAdd, Int.reduceSub, Int.reduceNeg, bI, wrap_i64, Function.comp_def, List.map_map, List.map_append]; done) | (simp (disch := omega) [push_cast, gx_get_low, gx_set_low, un_msl_low, un_mptr_low, un_mmap_low, ite_blk_ne, ite_blk_eq, wrap_i64, Function.comp_def, List.map_map, List.map_append]; done) | fail "simpf")))) rfl (by (first | (simp (disch := omega) only [push_cast, Nat.reduceAdd, Nat.reduceBEq, Nat.reduceEqDiff, ↓reduceIte, Nat.reduceLT, Nat.reduceMul, Nat.reduceLeDiff, Int.reduceToNat, Int.reduceEq, Int.reduceLT, Int.reduceLE, Int.reduceAdd, Int.reduceSub, Int.reduceNeg, bI, wrap_i64, Function.comp_def, List.map_map, List.map_append]; done) | (simp (disch := omega) [push_cast, gx_get_low, gx_set_low, un_msl_low, un_mptr_low, un_mmap_low, ite_blk_ne, ite_blk_eq, wrap_i64, Function.comp_def, List.map_map, List.map_append]; done) | fail "simpf")) (by (first | (simp (disch := omega) only [push_cast, Nat.reduceAdd, Nat.reduceBEq, Nat.reduceEqDiff, ↓reduceIte, Nat.reduceLT, Nat.reduceMul, Nat.reduceLeDiff, Int.reduceToNat, Int.reduceEq, Int.reduceLT, Int.reduceLE, Int.reduceAdd, Int.reduceSub, Int.reduceNeg, bI, wrap_i64, Function.comp_def, List.map_map, List.map_append, pRows, List.mapIdx_nil]; done) | (simp (disch := omega) [push_cast, gx_get_low, gx_set_low, un_msl_low, un_mptr_low, un_mmap_low, ite_blk_ne, ite_blk_eq, wrap_i64, Function.comp_def, List.map_map, List.map_append, pRows, List.mapIdx_nil]; done) | fail "simpf"))) ?_
  rintro ⟨xs, ys⟩ hxy
  dsimp only at hxy ⊢
  have hl : p.length = xs.length + ys.length := by rw [hxy]; simp
  have hb : ∀ hi : xs.length < p.length, p[xs.length].next.length ≤ 1000 := fun hi => hs _ (List.getElem_mem hi)
  rcases ys with _ | ⟨y, ys⟩
  · simp only [List.length_nil, Nat.add_zero] at hl
    repeat' (first | simp (disch := omega) only [push_cast, Nat.reduceAdd, Nat.reduceBEq, Nat.reduceEqDiff, ↓reduceIte, Nat.reduceLT, Nat.reduceMul, Nat.reduceLeDiff, Int.reduceToNat, Int.reduceEq, Int.reduceLT, Int.reduceLE, Int.reduceAdd, Int.reduceSub, Int.reduceNeg, bI, hd_int, pRows_length] | with_reducible refine gstat_intro (by kernel_rfl) ?_ | ((with_reducible refine gcase_intro (fun hc => ?_) (fun hc => ?_)) <;> (have hr := hc) <;> (try simp only [Bool.and_eq_true, Bool.and_eq_false_iff, Bool.or_eq_true, Bool.or_eq_false_iff, decide_eq_true_eq, decide_eq_false_iff_not, Bool.not_eq_true, Bool.not_eq_false, Bool.not_eq_eq_eq_not, Bool.not_true, Bool.not_false, beq_iff_eq, beq_eq_false_iff_ne, bne_iff_ne, bne_eq_false_iff_eq, Bool.false_eq_true, Bool.true_eq_false, Int.not_lt, Int.not_le, ne_eq, not_true_eq_false, not_false_eq_true] at hc) <;> (try (first | with_reducible exact (bcontra hc (by assumption)).elim | with_reducible exact (bcontra (by assumption) hc).elim | contradiction | (exfalso; omega))) <;> (try simp only [push_cast, Nat.reduceAdd, Nat.reduceBEq, Nat.reduceEqDiff, ↓reduceIte, Nat.reduceLT, Nat.reduceMul, Nat.reduceLeDiff, Int.reduceToNat, Int.reduceEq, Int.reduceLT, Int.reduceLE, Int.reduceAdd, Int.reduceSub, Int.reduceNeg, bI, pRows_length, hr]) <;> (try clear hr)) | with_reducible refine gassert_intro (by first | omega | (simp; done) | (simp; omega)) ?_ | ((with_reducible refine optq_ints (by simp only [isInts]) (by simp only [List.length_cons, List.length_nil]; omega) (fun v hv => ?_)) <;> (simp only [toInts, List.mem_cons, List.not_mem_nil, or_false] at hv)) | with_reducible refine optq_idx (by omega) ?_)
    rw [List.append_nil] at hxy
    subst hxy
    refine gret_ren ([.o 3] ++ famO p.length fun i => i + 4) ⟨rfl, rfl⟩ .refl (fam_nodup rfl (fun i j _ _ h => by omega) (fun i _ => by simp)) (by (first | (simp (disch := omega) only [push_cast, Nat.reduceAdd, Nat.reduceBEq, Nat.reduceEqDiff, ↓reduceIte, Nat.reduceLT, Nat.reduceMul, Nat.reduceLeDiff, Int.reduceToNat, Int.reduceEq, Int.reduceLT, Int.reduceLE, Int.reduceAdd, Int.reduceSub, Int.reduceNeg, bI, wrap_i64, Function.comp_def, List.map_map, List.map_append]; done) | (simp (disch := omega) [push_cast, gx_get_low, gx_set_low, un_msl_low, un_mptr_low, un_mmap_low, ite_blk_ne, ite_blk_eq, wrap_i64, Function.comp_def, List.map_map, List.map_append]; done) | fail "simpf")) (.oc ?_ (TopOk.fam _ rfl (fun s _ => nB_un s) fun i hi => (by simp (disch := omega) only [push_cast, Nat.reduceAdd, Nat.reduceBEq, Nat.reduceEqDiff, ↓reduceIte, Nat.reduceLT, Nat.reduceMul, Nat.reduceLeDiff, Int.reduceToNat, Int.reduceEq, Int.reduceLT, Int.reduceLE, Int.reduceAdd, Int.reduceSub, Int.reduceNeg, bI, fam_in'])))
    simp only [push_cast, Nat.reduceAdd, Nat.reduceBEq, Nat.reduceEqDiff, ↓reduceIte, Nat.reduceLT, Nat.reduceMul, Nat.reduceLeDiff, Int.reduceToNat, Int.reduceEq, Int.reduceLT, Int.reduceLE, Int.reduceAdd, Int.reduceSub, Int.reduceNeg, bI]
    rw [pRows_fam1 (Nat.le_refl _)]
  · simp only [List.length_cons] at hl
    have hy : p[xs.length]'(by omega) = y := by subst hxy; simp
    have hb := hb (by omega)
    repeat' (first | simp (disch := omega) only [push_cast, Nat.reduceAdd, Nat.reduceBEq, Nat.reduceEqDiff, ↓reduceIte, Nat.reduceLT, Nat.reduceMul, Nat.reduceLeDiff, Int.reduceToNat, Int.reduceEq, Int.reduceLT, Int.reduceLE, Int.reduceAdd, Int.reduceSub, Int.reduceNeg, bI, hd_int, pRows_length] | with_reducible refine gstat_intro (by kernel_rfl) ?_ | ((with_reducible refine gcase_intro (fun hc => ?_) (fun hc => ?_)) <;> (have hr := hc) <;> (try simp only [Bool.and_eq_true, Bool.and_eq_false_iff, Bool.or_eq_true, Bool.or_eq_false_iff, decide_eq_true_eq, decide_eq_false_iff_not, Bool.not_eq_true, Bool.not_eq_false, Bool.not_eq_eq_eq_not, Bool.not_true, Bool.not_false, beq_iff_eq, beq_eq_false_iff_ne, bne_iff_ne, bne_eq_false_iff_eq, Bool.false_eq_true, Bool.true_eq_false, Int.not_lt, Int.not_le, ne_eq, not_true_eq_false, not_false_eq_true] at hc) <;> (try (first | with_reducible exact (bcontra hc (by assumption)).elim | with_reducible exact (bcontra (by assumption) hc).elim | contradiction | (exfalso; omega))) <;> (try simp only [push_cast, Nat.reduceAdd, Nat.reduceBEq, Nat.reduceEqDiff, ↓reduceIte, Nat.reduceLT, Nat.reduceMul, Nat.reduceLeDiff, Int.reduceToNat, Int.reduceEq, Int.reduceLT, Int.reduceLE, Int.reduceAdd, Int.reduceSub, Int.reduceNeg, bI, pRows_length, hr]) <;> (try clear hr)) | with_reducible refine gassert_intro (by first | omega | (simp; done) | (simp; omega)) ?_ | ((with_reducible refine optq_ints (by simp only [isInts]) (by simp only [List.length_cons, List.length_nil]; omega) (fun v hv => ?_)) <;> (simp only [toInts, List.mem_cons, List.not_mem_nil, or_false] at hv)) | with_reducible refine optq_idx (by omega) ?_)
    refine ⟨(xs ++ [y], ys), [.o 0, .o 1, .o 2, .o (xs.length + 7)] ++ famO (xs ++ [y]).length (fun i => if i = xs.length then xs.length + 5 else i + 4), by simp, hxy.trans (by simp), GRen.gx _ rfl .refl (fam_nodup (by simp [srcNodup] <;> omega) (fun i j h1 h2 h => by simp at h1 h2; split at h <;> split at h <;> omega) (fun i hi => ?_)) (by (first | (simp (disch := omega) only [push_cast, Nat.reduceAdd, Nat.reduceBEq, Nat.reduceEqDiff, ↓reduceIte, Nat.reduceLT, Nat.reduceMul, Nat.reduceLeDiff, Int.reduceToNat, Int.reduceEq, Int.reduceLT, Int.reduceLE, Int.reduceAdd, Int.reduceSub, Int.reduceNeg, bI, wrap_i64, Function.comp_def, List.map_map, List.map_append, List.length_append]; done) | (simp (disch := omega) [push_cast, gx_get_low, gx_set_low, un_msl_low, un_mptr_low, un_mmap_low, ite_blk_ne, ite_blk_eq, wrap_i64, Function.comp_def, List.map_map, List.map_append, List.length_append]; done) | fail "simpf")) (.oc (by simp (disch := omega) only [push_cast, Nat.reduceAdd, Nat.reduceBEq, Nat.reduceEqDiff, ↓reduceIte, Nat.reduceLT, Nat.reduceMul, Nat.reduceLeDiff, Int.reduceToNat, Int.reduceEq, Int.reduceLT, Int.reduceLE, Int.reduceAdd, Int.reduceSub, Int.reduceNeg, bI]) (.oc (by simp (disch := omega) only [push_cast, Nat.reduceAdd, Nat.reduceBEq, Nat.reduceEqDiff, ↓reduceIte, Nat.reduceLT, Nat.reduceMul, Nat.reduceLeDiff, Int.reduceToNat, Int.reduceEq, Int.reduceLT, Int.reduceLE, Int.reduceAdd, Int.reduceSub, Int.reduceNeg, bI]) (.oc (by simp (disch := omega) only [push_cast, Nat.reduceAdd, Nat.reduceBEq, Nat.reduceEqDiff, ↓reduceIte, Nat.reduceLT, Nat.reduceMul, Nat.reduceLeDiff, Int.reduceToNat, Int.reduceEq, Int.reduceLT, Int.reduceLE, Int.reduceAdd, Int.reduceSub, Int.reduceNeg, bI, List.length_append]) (.oc ?_ (TopOk.fam _ rfl (fun s _ => nB_un s) fun i hi => ?_)))))⟩
    · simp at hi; simp; split <;> omega
    · simp only [push_cast, Nat.reduceAdd, Nat.reduceBEq, Nat.reduceEqDiff, ↓reduceIte, Nat.reduceLT, Nat.reduceMul, Nat.reduceLeDiff, Int.reduceToNat, Int.reduceEq, Int.reduceLT, Int.reduceLE, Int.reduceAdd, Int.reduceSub, Int.reduceNeg, bI]
      rw [pRows_fam4 (by simp), pRows_snoc]
      simp only [if_true, hy]
      rw [pRows_congr (c := fun i => h.next + (i + 4)) fun i hi => by simp only [if_neg (Nat.ne_of_lt hi)]]
    · simp only [List.length_append, List.length_cons, List.length_nil] at hi
      by_cases e : i = xs.length
      · subst e
        simp only [if_true, List.getElem_concat_length]
        exact (by simp (disch := omega) only [push_cast, Nat.reduceAdd, Nat.reduceBEq, Nat.reduceEqDiff, ↓reduceIte, Nat.reduceLT, Nat.reduceMul, Nat.reduceLeDiff, Int.reduceToNat, Int.reduceEq, Int.reduceLT, Int.reduceLE, Int.reduceAdd, Int.reduceSub, Int.reduceNeg, bI, hy])
      · have hi' : i < xs.length := by omega
        simp only [if_neg e, List.getElem_append_left hi']
        exact (by simp (disch := omega) only [push_cast, Nat.reduceAdd, Nat.reduceBEq, Nat.reduceEqDiff, ↓reduceIte, Nat.reduceLT, Nat.reduceMul, Nat.reduceLeDiff, Int.reduceToNat, Int.reduceEq, Int.reduceLT, Int.reduceLE, Int.reduceAdd, Int.reduceSub, Int.reduceNeg, bI, fam_in])
end Gx
