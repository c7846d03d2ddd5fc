/- The rules by which simp opens a walk: addresses, loads, stores, slices, append, results. -/
import Derived.Test.YtbibihbkkflidaaGxSimp2
set_option linter.unusedSimpArgs false
set_option linter.unusedVariables false
namespace Gx
open Go

section
variable {P : Program} {a a' : GF} {h h' : GH} {k : GV → Prop} {K : GV → GH → Prop} {KH : GH → Prop} {KK : GF → GH → Prop} {x x' y y' z z' : GV} {t : TypeId}

/-! addresses -/
@[push_cast] theorem gfield_iptr {f : Nat} {row : List GV} {off : Nat} : gfield P t f (.iptr row off) k = optq (flq P t f) fun q => k (.iptr row (off + q.1)) := by
  simp only [gfield, optq]; cases flq P t f <;> rfl
@[push_cast] theorem gfield_mptr {f id i off : Nat} : gfield P t f (.mptr id i off) k = optq (flq P t f) fun q => k (.mptr id i (off + q.1)) := by
  simp only [gfield, optq]; cases flq P t f <;> rfl
variable {kx : IntKind} {n : Int}
@[push_cast] theorem gindex_isl {esz : Nat} {rows : List (List GV)} : gindex P t (.isl esz rows) (.v (.int kx n)) k = optq (elq P t) fun q => gassert (esz = q.2 ∧ 0 ≤ n) (optq rows[n.toNat]? fun row => k (.iptr row 0)) := by
  simp only [gindex, optq]; cases elq P t <;> first | rfl | (simp only; cases rows[n.toNat]? <;> rfl)
@[push_cast] theorem gindex_msl {id esz off len : Nat} : gindex P t (.msl id esz off len) (.v (.int kx n)) k = optq (elq P t) fun q => gassert (esz = q.2 ∧ 0 ≤ n ∧ n < len) (k (.mptr id (off + n.toNat) 0)) := by
  simp only [gindex, optq]; cases elq P t <;> rfl
@[push_cast] theorem gindex_iptr {row : List GV} {off : Nat} : gindex P t (.iptr row off) (.v (.int kx n)) k = optq (arq P t) fun q => gassert (1 < q.1 ∧ 0 ≤ n ∧ n < q.1) (k (.iptr row (off + n.toNat * q.2))) := by
  simp only [gindex, optq]; cases arq P t <;> rfl
@[push_cast] theorem gindex_mptr {id r off : Nat} : gindex P t (.mptr id r off) (.v (.int kx n)) k = optq (arq P t) fun q => gassert (1 < q.1 ∧ 0 ≤ n ∧ n < q.1) (k (.mptr id r (off + n.toNat * q.2))) := by
  simp only [gindex, optq]; cases arq P t <;> rfl
@[push_cast] theorem gpart_eq {ls : List GV} {off : Nat} : gpart P t ls off k = optq (tyq P t) fun q => gassert (off + q.size ≤ ls.length ∧ (q.agg = true ∨ q.size = 1)) (k (mk q.agg ((ls.drop off).take q.size))) := by
  simp only [gpart, optq]; cases tyq P t <;> rfl
@[push_cast] theorem gfieldv_agg {f : Nat} {ls : List GV} : gfieldv P t f (.agg ls) k = optq (flq P t f) fun q => gpart P q.2 ls q.1 k := by
  simp only [gfieldv, optq]; cases flq P t f <;> rfl
@[push_cast] theorem gindexv_str {s : ByteArray} : gindexv P t (.v (.string s)) (.v (.int kx n)) k = gassert (P.underlying t = some .string ∧ 0 ≤ n) (optq s.data[n.toNat]? fun b => k (.v (.int .u8 b.toNat))) := by
  simp only [gindexv, optq]; cases s.data[n.toNat]? <;> rfl
@[push_cast] theorem mk_true {ls : List GV} : mk true ls = .agg ls := nd rfl
@[push_cast] theorem mk_false {ls : List GV} : mk false ls = ls.headD .dead := nd rfl
@[push_cast] theorem headD_cons {g d : GV} {r : List GV} : (g :: r).headD d = g := nd rfl
@[push_cast] theorem drop_zero' {α : Type} {l : List α} : l.drop 0 = l := nd rfl
@[push_cast] theorem drop_succ' {α : Type} {b : α} {l : List α} {n : Nat} : (b :: l).drop (n + 1) = l.drop n := nd rfl
@[push_cast] theorem take_zero' {α : Type} {l : List α} : l.take 0 = [] := nd rfl
@[push_cast] theorem take_succ' {α : Type} {b : α} {l : List α} {n : Nat} : (b :: l).take (n + 1) = b :: l.take n := nd rfl
@[push_cast] theorem take_nil' {α : Type} {n : Nat} : ([] : List α).take n = [] := by cases n <;> rfl
@[push_cast] theorem drop_nil' {α : Type} {n : Nat} : ([] : List α).drop n = [] := by cases n <;> rfl
@[push_cast] theorem length_cons' {α : Type} {b : α} {l : List α} : (b :: l).length = l.length + 1 := nd rfl
@[push_cast] theorem length_nil' {α : Type} : ([] : List α).length = 0 := nd rfl
@[push_cast] theorem map_cons' {α β : Type} {f : α → β} {b : α} {l : List α} : (b :: l).map f = f b :: l.map f := nd rfl
@[push_cast] theorem map_nil' {α β : Type} {f : α → β} : ([] : List α).map f = [] := nd rfl
@[push_cast] theorem append_nil' {α : Type} {l : List α} : l ++ [] = l := List.append_nil l
@[push_cast] theorem nil_append' {α : Type} {l : List α} : [] ++ l = l := nd rfl
@[push_cast] theorem cons_append' {α : Type} {b : α} {l m : List α} : (b :: l) ++ m = b :: (l ++ m) := nd rfl
attribute [push_cast] Option.map_none Option.map_some List.all_nil List.all_cons Bool.and_true Bool.and_self Bool.true_and

/-! loads -/
@[push_cast] theorem gloadRow_eq {s : Nat} {ag : Bool} {b : Nat} {zs : List GV} {row : List GV} {off : Nat} : gloadRow ⟨s, ag, b, zs⟩ row off k = gassert ((ag = true ∨ s = 1) ∧ off + s ≤ row.length) (k (mk ag ((row.drop off).take s))) := nd rfl
@[push_cast] theorem gloadI_iptr {row : List GV} {off : Nat} : gloadI P t (.iptr row off) k = optq (tyq P t) fun q => gloadRow q row off k := by
  simp only [gloadI, optq]; cases tyq P t <;> rfl
@[push_cast] theorem gload_iptr {row : List GV} {off : Nat} : gload P t (.iptr row off) h k = optq (tyq P t) fun q => gloadRow q row off k := by
  simp only [gload, optq]; cases tyq P t <;> rfl
@[push_cast] theorem gload_mptr {id i off : Nat} : gload P t (.mptr id i off) h k = optq (tyq P t) fun q => blkq (h.get id) fun rows => optq rows[i]? fun row => gloadRow q row off k := by
  simp only [gload, optq, blkq]
  cases tyq P t <;> first | rfl | skip
  simp only
  rcases h.get id with _ | b <;> first | rfl | skip
  cases b <;> first | rfl | skip
  simp only
  rename_i rows
  cases rows[i]? <;> rfl
attribute [push_cast] List.getElem?_cons_zero List.getElem?_cons_succ

/-! stores -/
@[push_cast] theorem leaves_agg {ls : List GV} : (GV.agg ls).leaves = ls := nd rfl
@[push_cast] theorem leaves_v {w : Value} : (GV.v w).leaves = [.v w] := nd rfl
@[push_cast] theorem leaves_esl : (GV.esl).leaves = [.esl] := nd rfl
@[push_cast] theorem leaves_isl {e : Nat} {r : List (List GV)} : (GV.isl e r).leaves = [.isl e r] := nd rfl
@[push_cast] theorem leaves_msl {i e o l : Nat} : (GV.msl i e o l).leaves = [.msl i e o l] := nd rfl
@[push_cast] theorem leaves_mptr {i e o : Nat} : (GV.mptr i e o).leaves = [.mptr i e o] := nd rfl
@[push_cast] theorem leaves_iptr {r : List GV} {o : Nat} : (GV.iptr r o).leaves = [.iptr r o] := nd rfl
@[push_cast] theorem leaves_mmap {i : Nat} : (GV.mmap i).leaves = [.mmap i] := nd rfl
@[push_cast] theorem leaves_fn {f : Fn} {r s : List GV} : (GV.fn f r s).leaves = [.fn f r s] := nd rfl
@[push_cast] theorem boxed_agg {ls : List GV} : (GV.agg ls).boxed = true := nd rfl
@[push_cast] theorem boxed_v {w : Value} : (GV.v w).boxed = true := nd rfl
@[push_cast] theorem boxed_esl : (GV.esl).boxed = true := nd rfl
@[push_cast] theorem boxed_isl {e : Nat} {r : List (List GV)} : (GV.isl e r).boxed = true := nd rfl
@[push_cast] theorem boxed_msl {i e o l : Nat} : (GV.msl i e o l).boxed = true := nd rfl
@[push_cast] theorem boxed_mptr {i e o : Nat} : (GV.mptr i e o).boxed = true := nd rfl
@[push_cast] theorem boxed_iptr {r : List GV} {o : Nat} : (GV.iptr r o).boxed = true := nd rfl
@[push_cast] theorem boxed_mmap {i : Nat} : (GV.mmap i).boxed = true := nd rfl
@[push_cast] theorem boxed_fn {f : Fn} {r s : List GV} : (GV.fn f r s).boxed = true := nd rfl
@[push_cast] theorem spl_nil {row : List GV} {off : Nat} : spl row off [] = row := nd rfl
@[push_cast] theorem spl_cons {row : List GV} {off : Nat} {l : GV} {ls : List GV} : spl row off (l :: ls) = spl (row.set off l) (off + 1) ls := nd rfl
attribute [push_cast] List.set_cons_zero List.set_cons_succ
def blkq3 (o : Option GBlk) (k : TypeId → Nat → List (List GV) → Prop) (_p : Ph k := ()) : Prop := match o with | some (.cells t e rows) => k t e rows | _ => False
@[push_cast] theorem blkq3_cells {t : TypeId} {e : Nat} {rows : List (List GV)} {k : TypeId → Nat → List (List GV) → Prop} : blkq3 (some (.cells t e rows)) k = k t e rows := nd rfl
@[push_cast] theorem gstore_mptr {id i off : Nat} : gstore P t (.mptr id i off) y h KH = optq (tyq P t) fun q => gassert (y.leaves.length = q.size ∧ y.boxed = true) (blkq3 (h.get id) fun bt esz rows => optq rows[i]? fun row =>
    gassert (off + y.leaves.length ≤ row.length) (KH (h.set id (.cells bt esz (rows.set i (spl row off y.leaves)))))) := by
  delta gstore optq blkq3; dsimp only
  cases tyq P t <;> first | rfl | skip
  dsimp only
  cases h.get id with
  | none => rfl
  | some b =>
    cases b with
    | mp => rfl
    | cells bt esz rows => dsimp only; cases rows[i]? <;> rfl

/-! new variables -/
@[push_cast] theorem galloc_eq : galloc P t h K = optq (tyq P t) fun q => K (.mptr h.next 0 0) (h.new (.cells t q.size [q.zero])) := by
  simp only [galloc, optq]; cases tyq P t <;> rfl
@[push_cast] theorem gbox_agg {ls : List GV} : gbox P t (.agg ls) h K = K (.mptr h.next 0 0) (h.new (.cells t ls.length [ls])) := by simp [gbox, gassert, GV.boxed, GV.leaves]
@[push_cast] theorem gbox_v {w : Value} : gbox P t (.v w) h K = K (.mptr h.next 0 0) (h.new (.cells t 1 [[.v w]])) := by simp [gbox, gassert, GV.boxed, GV.leaves, GV.leaf]
@[push_cast] theorem gbox_esl : gbox P t .esl h K = K (.mptr h.next 0 0) (h.new (.cells t 1 [[.esl]])) := by simp [gbox, gassert, GV.boxed, GV.leaves, GV.leaf]
@[push_cast] theorem gbox_isl {e : Nat} {r : List (List GV)} : gbox P t (.isl e r) h K = K (.mptr h.next 0 0) (h.new (.cells t 1 [[.isl e r]])) := by simp [gbox, gassert, GV.boxed, GV.leaves, GV.leaf]
@[push_cast] theorem gbox_msl {i e o l : Nat} : gbox P t (.msl i e o l) h K = K (.mptr h.next 0 0) (h.new (.cells t 1 [[.msl i e o l]])) := by simp [gbox, gassert, GV.boxed, GV.leaves, GV.leaf]
@[push_cast] theorem gbox_mptr {i e o : Nat} : gbox P t (.mptr i e o) h K = K (.mptr h.next 0 0) (h.new (.cells t 1 [[.mptr i e o]])) := by simp [gbox, gassert, GV.boxed, GV.leaves, GV.leaf]
@[push_cast] theorem gbox_iptr {r : List GV} {o : Nat} : gbox P t (.iptr r o) h K = K (.mptr h.next 0 0) (h.new (.cells t 1 [[.iptr r o]])) := by simp [gbox, gassert, GV.boxed, GV.leaves, GV.leaf]
@[push_cast] theorem gbox_fn {f : Fn} {r s : List GV} : gbox P t (.fn f r s) h K = K (.mptr h.next 0 0) (h.new (.cells t 1 [[.fn f r s]])) := by simp [gbox, gassert, GV.boxed, GV.leaves, GV.leaf]

/-! slicing -/
@[push_cast] theorem loq_none : loq none = some 0 := nd rfl
@[push_cast] theorem loq_some : loq (some (.v (.int kx n))) = some n := nd rfl
@[push_cast] theorem hiq_none {l : Int} : hiq l none = some l := nd rfl
@[push_cast] theorem hiq_some {l : Int} : hiq l (some (.v (.int kx n))) = some n := nd rfl
@[push_cast] theorem gslice_str {s : ByteArray} {lo hi : Option GV} : gslice P t (.v (.string s)) lo hi none k = optq (loq lo) fun l => optq (hiq s.size hi) fun n => gassert (P.underlying t = some .string ∧ 0 ≤ l ∧ l ≤ n ∧ n ≤ s.size) (k (.v (.string (s.extract l.toNat n.toNat)))) := by
  delta gslice optq; dsimp only; cases loq lo <;> cases hiq s.size hi <;> rfl
@[push_cast] theorem gslice_isl {esz : Nat} {rows : List (List GV)} {lo hi : Option GV} : gslice P t (.isl esz rows) lo hi none k = optq (elq P t) fun q => optq (loq lo) fun l => optq (hiq rows.length hi) fun n =>
    gassert (q.2 = esz ∧ 0 ≤ l ∧ l ≤ n ∧ n ≤ rows.length) (k (.isl esz ((rows.take n.toNat).drop l.toNat))) := by
  delta gslice optq; dsimp only; cases elq P t <;> cases loq lo <;> cases hiq rows.length hi <;> rfl
@[push_cast] theorem gslice_msl {id esz off len : Nat} {lo hi : Option GV} : gslice P t (.msl id esz off len) lo hi none k = optq (elq P t) fun q => optq (loq lo) fun l => optq (hiq len hi) fun n =>
    gassert (q.2 = esz ∧ 0 ≤ l ∧ l ≤ n ∧ n ≤ len) (k (.msl id esz (off + l.toNat) (n.toNat - l.toNat))) := by
  delta gslice optq; dsimp only; cases elq P t <;> cases loq lo <;> cases hiq len hi <;> rfl
@[push_cast] theorem gslice_esl {lo hi : Option GV} : gslice P t .esl lo hi none k = optq (elq P t) fun q => optq (loq lo) fun l => optq (hiq 0 hi) fun n => gassert (l = 0 ∧ n = 0) (k .esl) := by
  delta gslice optq; dsimp only; cases elq P t <;> cases loq lo <;> cases hiq 0 hi <;> rfl
@[push_cast] theorem gslice3_isl {k1 k2 : IntKind} {esz : Nat} {rows : List (List GV)} : gslice P t (.isl esz rows) none (some (.v (.int k1 0))) (some (.v (.int k2 0))) k = optq (elq P t) fun _ => k .esl := by
  delta gslice optq; dsimp only; cases elq P t <;> simp [gassert]
@[push_cast] theorem gslice3_msl {k1 k2 : IntKind} {id esz off len : Nat} : gslice P t (.msl id esz off len) none (some (.v (.int k1 0))) (some (.v (.int k2 0))) k = optq (elq P t) fun _ => k .esl := by
  delta gslice optq; dsimp only; cases elq P t <;> simp [gassert]
@[push_cast] theorem gslice3_esl {k1 k2 : IntKind} : gslice P t .esl none (some (.v (.int k1 0))) (some (.v (.int k2 0))) k = optq (elq P t) fun _ => k .esl := by
  delta gslice optq; dsimp only; cases elq P t <;> simp [gassert]

/-! literals -/
@[push_cast] theorem gbuild_eq {ps : List (Nat × GV)} : gbuild P t ps k = optq (tyq P t) fun q => optq (plq P t) fun pl => optq (gfill pl q.zero ps) fun ls => k (.agg ls) := by
  simp only [gbuild, optq]; cases tyq P t <;> cases plq P t <;> first | rfl | skip
  simp only; split <;> rename_i h <;> rw [h]
@[push_cast] theorem gfill_nil {pl : List (Nat × Nat)} {ls : List GV} : gfill pl ls [] = some ls := nd rfl
@[push_cast] theorem gfill_cons {pl : List (Nat × Nat)} {ls : List GV} {i : Nat} {g : GV} {r : List (Nat × GV)} : gfill pl ls ((i, g) :: r) =
    (pl[i]?).bind fun p => if g.boxed = true ∧ g.leaves.length = p.2 ∧ p.1 + p.2 ≤ ls.length then gfill pl (spl ls p.1 g.leaves) r else none := by
  simp only [gfill]; cases pl[i]? <;> rfl
attribute [push_cast] Option.bind_some Option.bind_none
@[push_cast] theorem glit_eq {n : Nat} {ps : List (Nat × GV)} {kk : TypeId → TyQ → List (List GV) → Prop} : glit P t n ps kk = optq (elq P t) fun e => optq (tyq P e.1) fun q => optq (gparts e.2 0 ps) fun rows =>
    gassert (rows.length = n ∧ n * e.2 ≤ 16777216) (kk e.1 q rows) := by
  simp only [glit, optq]; cases elq P t <;> first | rfl | skip
  simp only; split <;> rename_i h <;> rw [h] <;> first | rfl | skip
  simp only; split <;> rename_i h <;> rw [h]
@[push_cast] theorem gparts_nil {sz n : Nat} : gparts sz n [] = some [] := nd rfl
@[push_cast] theorem gparts_cons {sz n i : Nat} {g : GV} {r : List (Nat × GV)} : gparts sz n ((i, g) :: r) = if i = n ∧ g.boxed = true ∧ g.leaves.length = sz then (gparts sz (n + 1) r).map (g.leaves :: ·) else none := nd rfl
@[push_cast] theorem glitNew_eq {n : Nat} {ps : List (Nat × GV)} : glitNew P t n ps h K = glit P t n ps fun e q rows => if n = 0 then K .esl h else K (.msl h.next q.size 0 n) (h.new (.cells e q.size rows)) := nd rfl
@[push_cast] theorem glitVal_eq {n : Nat} {ps : List (Nat × GV)} : glitVal P t n ps k = glit P t n ps fun _ q rows => gassert (rows.all (fun r => r.all GV.idl) = true) (k (.isl q.size rows)) := nd rfl
@[push_cast] theorem idl_v {w : Value} : (GV.v w).idl = true := nd rfl
@[push_cast] theorem idl_esl : (GV.esl).idl = true := nd rfl
@[push_cast] theorem idl_isl {e : Nat} {r : List (List GV)} : (GV.isl e r).idl = true := nd rfl

/-! make, append, len -/
@[push_cast] theorem gmake_int {k1 k2 : IntKind} {m n : Int} : gmake P t (.v (.int k1 n)) (.v (.int k2 m)) h K = optq (elq P t) fun e => optq (tyq P e.1) fun q =>
    gassert (0 ≤ n ∧ n ≤ m ∧ (q.bytes : Int) * m ≤ 281474976710656 ∧ m ≤ 9223372036854775807 ∧ 0 < q.size) (K (.msl h.next q.size 0 n.toNat) (h.new (.cells e.1 q.size (List.replicate n.toNat q.zero)))) := by
  simp only [gmake, optq]; cases elq P t <;> first | rfl | skip
  simp only; split <;> rename_i h <;> rw [h]
@[push_cast] theorem gbuiltin_len : gbuiltin P .len [t] [x] h K = glen P t x fun v => K v h := nd rfl
@[push_cast] theorem gbuiltin_append {t' : TypeId} : gbuiltin P .append [t, t'] [x, y] h K = gassert (t = t') (gapp P t x y h K) := nd rfl
@[push_cast] theorem gbuiltin_max {ts : List TypeId} {k1 : IntKind} {m n : Int} : gbuiltin P .max ts [.v (.int k1 m), .v (.int k1 n)] h K = K (.v (.int k1 (max m n))) h := by
  simp [gbuiltin, gmaxmin]
def lenk (d : Option TypeDesc) (T X : Prop) (A : Nat → Prop) (_p : Ph T := ()) (_q : Ph X := ()) (_r : Ph A := ()) : Prop := match d with | some .string => T | some (.slice _) => X | some (.array n _) => A n | _ => False
@[push_cast] theorem lenk_slice {e : TypeId} {T X : Prop} {A : Nat → Prop} : lenk (some (.slice e)) T X A = X := nd rfl
@[push_cast] theorem lenk_string {T X : Prop} {A : Nat → Prop} : lenk (some .string) T X A = T := nd rfl
@[push_cast] theorem lenk_array {n : Nat} {e : TypeId} {T X : Prop} {A : Nat → Prop} : lenk (some (.array n e)) T X A = A n := nd rfl
@[push_cast] theorem glen_esl : glen P t .esl k = lenk (P.underlying t) False (k (.v (.int .i64 0))) fun n => k (.v (.int .i64 n)) := by
  unfold glen lenk; cases P.underlying t <;> first | rfl | skip
  rename_i d; cases d <;> rfl
@[push_cast] theorem glen_isl {e : Nat} {rows : List (List GV)} : glen P t (.isl e rows) k = lenk (P.underlying t) False (k (.v (.int .i64 rows.length))) fun n => k (.v (.int .i64 n)) := by
  unfold glen lenk; cases P.underlying t <;> first | rfl | skip
  rename_i d; cases d <;> rfl
@[push_cast] theorem glen_msl {id e off len : Nat} : glen P t (.msl id e off len) k = lenk (P.underlying t) False (k (.v (.int .i64 len))) fun n => k (.v (.int .i64 n)) := by
  unfold glen lenk; cases P.underlying t <;> first | rfl | skip
  rename_i d; cases d <;> rfl
@[push_cast] theorem glen_str {s : ByteArray} : glen P t (.v (.string s)) k = lenk (P.underlying t) (k (.v (.int .i64 s.size))) False fun n => k (.v (.int .i64 n)) := by
  unfold glen lenk; cases P.underlying t <;> first | rfl | skip
  rename_i d; cases d <;> rfl
@[push_cast] theorem rowsOf_esl {e : Nat} {kk : List (List GV) → Prop} : rowsOf h e .esl kk = kk [] := nd rfl
@[push_cast] theorem rowsOf_isl {e e' : Nat} {rows : List (List GV)} {kk : List (List GV) → Prop} : rowsOf h e (.isl e' rows) kk = gassert (e' = e) (kk rows) := nd rfl
@[push_cast] theorem rowsOf_msl {e id e1 off len : Nat} {kk : List (List GV) → Prop} : rowsOf h e (.msl id e1 off len) kk = blkq3 (h.get id) fun _ e' rows => gassert (e1 = e ∧ e' = e ∧ off + len ≤ rows.length) (kk ((rows.drop off).take len)) := by
  simp only [rowsOf, blkq3]; rcases h.get id with _ | b <;> first | rfl | (cases b <;> rfl)
@[push_cast] theorem gapp_esl : gapp P t .esl y h K = optq (elq P t) fun e => optq (tyq P e.1) fun q => gassert (0 < q.size) (rowsOf h e.2 y fun news =>
    gassert (news.length * q.bytes ≤ 140737488355328 ∧ news.length ≤ 9223372036854775807) (K (.msl h.next e.2 0 news.length) (h.new (.cells e.1 e.2 news)))) := by
  simp only [gapp, optq]; cases elq P t <;> first | rfl | skip
  simp only; split <;> rename_i h <;> rw [h]
@[push_cast] theorem gapp_msl {id e1 off len : Nat} : gapp P t (.msl id e1 off len) y h K = optq (elq P t) fun e => optq (tyq P e.1) fun q => gassert (0 < q.size) (rowsOf h e.2 y fun news => blkq3 (h.get id) fun e' e2 rows =>
    gassert (e1 = e.2 ∧ e2 = e.2 ∧ e' = e.1 ∧ off + len = rows.length ∧ (len + news.length) * q.bytes ≤ 140737488355328 ∧ len + news.length ≤ 9223372036854775807)
      (K (.msl h.next e.2 0 (len + news.length)) ((h.del id).new (.cells e.1 e.2 (rows.drop off ++ news))))) := by
  simp only [gapp, optq]; cases elq P t <;> first | rfl | skip
  simp only; split <;> rename_i h <;> rw [h] <;> first | rfl | skip

/-! results -/
@[push_cast] theorem gres_nil {kk : List GV → Prop} : gres P [] a h kk = kk [] := nd rfl
@[push_cast] theorem gres_tmp {d : Nat} {r : List ResultVar} {kk : List GV → Prop} : gres P (.tmp d :: r) a h kk = gres P r a h fun gs => kk (a.get d :: gs) := nd rfl
@[push_cast] theorem gres_cell {d : Nat} {t : TypeId} {r : List ResultVar} {kk : List GV → Prop} : gres P (.cell d t :: r) a h kk = gload P t (a.get d) h fun g => gres P r a h fun gs => kk (g :: gs) := nd rfl
@[push_cast] theorem gtup_one {g : GV} : gtup [g] = g := nd rfl
@[push_cast] theorem gtup_two {g g' : GV} {r : List GV} : gtup (g :: g' :: r) = .tup (g :: g' :: r) := nd rfl
@[push_cast] theorem gtup_nil : gtup [] = .tup [] := nd rfl
@[push_cast] theorem GPost_normal {rs : List ResultVar} {h0 : GH} {R : GV → GH → Prop} : GPost P rs h0 R .normal a h = gres P rs a h fun gs => GRet h0 R (gtup gs) h := nd rfl
@[push_cast] theorem GPost_ret {rs : List ResultVar} {h0 : GH} {R : GV → GH → Prop} : GPost P rs h0 R .ret a h = gres P rs a h fun gs => GRet h0 R (gtup gs) h := nd rfl
end
end Gx
