/- What each operation does to ghost values: addresses, parts, slices, calls of len; the operations that leave the world alone. -/
import Derived.Test.YtbibihbkkflidaaGxOps
set_option linter.unusedSimpArgs false
set_option linter.unusedVariables false
namespace Gx
open Go

/-- A run that leaves the world alone and comes to v. -/
def Runs (P : Program) (S : Sh) (s : Sem Value) (v : GV) : Prop := ∃ r, s.run P S.w = .ok r S.w ∧ VRel S v r

def gun (op : UnOp) (x : GV) (k : GV → Prop) (_p : Ph k := ()) : Prop :=
  match op, x with
  | .neg, .v (.int kx n) => k (.v (.int kx (kx.wrap (0 - n))))
  | .not, .v (.bool b) => k (.v (.bool !b))
  | _, _ => False

theorem gun_sound {P : Program} {op : UnOp} {x : GV} {k : GV → Prop} (hk : gun op x k) :
    ∃ v, k v ∧ ∀ (S : Sh) (xv : Value), VRel S x xv → Runs P S (Op.unary op xv) v := by
  unfold gun at hk
  split at hk
  · exact ⟨_, hk, fun S xv hx => by rw [hx.v_inv]; exact ⟨_, by simp [Op.unary, Op.intArith], .v rfl⟩⟩
  · exact ⟨_, hk, fun S xv hx => by rw [hx.v_inv]; exact ⟨_, by simp [Op.unary], .v rfl⟩⟩
  · exact hk.elim

def bytesOf : List (List GV) → Option (List UInt8)
  | [] => some []
  | [.v (.int .u8 n)] :: r => (bytesOf r).map (UInt8.ofNat n.toNat :: ·)
  | _ => none

def gconv (P : Program) (src dst : TypeId) (x : GV) (k : GV → Prop) (_p : Ph k := ()) : Prop :=
  match x with
  | .v (.int _ n) => match P.underlying src, P.underlying dst with
    | some _, some (.int kd) => k (.v (.int kd (kd.wrap n)))
    | _, _ => False
  | .v (.string s) => match P.underlying src, P.underlying dst with
    | some .string, some .string => k (.v (.string s))
    | _, _ => False
  | _ => False

theorem gconv_sound {P : Program} {src dst : TypeId} {x : GV} {k : GV → Prop} (hk : gconv P src dst x k) :
    ∃ v, k v ∧ ∀ (S : Sh) (xv : Value), VRel S x xv → Runs P S (convert src dst xv) v := by
  unfold gconv at hk
  split at hk
  · split at hk
    · rename_i h1 h2
      exact ⟨_, hk, fun S xv hx => by
        rw [hx.v_inv]; exact ⟨_, by simp [convert, run_underlying h1, run_underlying h2, Conv.intToInt], .v rfl⟩⟩
    · exact hk.elim
  · split at hk
    · rename_i h1 h2
      exact ⟨_, hk, fun S xv hx => by
        rw [hx.v_inv]; exact ⟨_, by simp [convert, run_underlying h1, run_underlying h2], .v rfl⟩⟩
    · exact hk.elim
  · exact hk.elim

/-- The address of a field. -/
def gfield (P : Program) (s : TypeId) (f : Nat) (x : GV) (k : GV → Prop) (_p : Ph k := ()) : Prop :=
  match flq P s f with
  | some (o, _) => match x with
    | .iptr row off => k (.iptr row (off + o))
    | .mptr id i off => k (.mptr id i (off + o))
    | _ => False
  | none => False

theorem run_typeInfo {P : Program} {t : TypeId} {i : TypeInfo} (h : P.info? t = some i) (w : World) : (typeInfo t).run P w = .ok i w := by
  simp [typeInfo, run_prog, h]
theorem run_sizeOf' {P : Program} {t : TypeId} {i : TypeInfo} (h : P.info? t = some i) (w : World) : (Go.sizeOf t).run P w = .ok i.size w := by
  simp [Go.sizeOf, run_typeInfo h]

theorem flq_run {P : Program} {s : TypeId} {f o : Nat} {t : TypeId} (h : flq P s f = some (o, t)) (w : World) (b p : Nat) :
    (Instr.fieldAt s (.pointer (some ⟨b, p, none⟩)) f).run P w = .ok (.pointer (some ⟨b, p + o, none⟩)) w := by
  unfold flq at h
  split at h
  · rename_i fs hs
    split at h
    · rename_i fd hf
      split at h
      · rename_i i hi
        split at h
        · cases h
        · rename_i hz
          simp only [Option.some.injEq, Prod.mk.injEq] at h
          obtain ⟨rfl, rfl⟩ := h
          simp only [Instr.fieldAt, Sem.run_bind, run_underlying hs, Result.andThen]
          simp only [hf, Instr.sureAddr]
          simp [fieldPlace, run_sizeOf' hi, hz, Addr.add]
      · cases h
    · cases h
  · cases h

theorem gfield_sound {P : Program} {s : TypeId} {f : Nat} {x : GV} {k : GV → Prop} (hk : gfield P s f x k) :
    ∃ v, k v ∧ ∀ (S : Sh) (xv : Value), VRel S x xv → Runs P S (Instr.fieldAt s xv f) v := by
  unfold gfield at hk
  split at hk
  · rename_i o t hf
    split at hk
    · refine ⟨_, hk, fun S xv hx => ?_⟩
      cases hx with
      | iptr u hb ho hc h1 hf' hv => exact ⟨_, flq_run hf _ _ _, by rw [Nat.add_assoc]; exact .iptr u hb ho hc h1 hf' hv⟩
    · refine ⟨_, hk, fun S xv hx => ?_⟩
      cases hx with
      | mptr hg hi hm => exact ⟨_, flq_run hf _ _ _, by rw [Nat.add_assoc, Nat.add_assoc]; exact .mptr hg hi hm⟩
      | mptrOld hg hn => exact ⟨_, flq_run hf _ _ _, .mptrOld hg hn⟩
    · exact hk.elim
  · exact hk.elim

/-- The address of an element. -/
def gindex (P : Program) (t : TypeId) (x i : GV) (k : GV → Prop) (_p : Ph k := ()) : Prop :=
  match i with
  | .v (.int _ n) => match x with
    | .isl esz rows => match elq P t with
      | some (_, e) => gassert (esz = e ∧ 0 ≤ n) (match rows[n.toNat]? with
        | some row => k (.iptr row 0)
        | none => False)
      | none => False
    | .msl id esz off len => match elq P t with
      | some (_, e) => gassert (esz = e ∧ 0 ≤ n ∧ n < len) (k (.mptr id (off + n.toNat) 0))
      | none => False
    | .iptr row off => match arq P t with
      | some (m, e) => gassert (1 < m ∧ 0 ≤ n ∧ n < m) (k (.iptr row (off + n.toNat * e)))
      | none => False
    | .mptr id r off => match arq P t with
      | some (m, e) => gassert (1 < m ∧ 0 ≤ n ∧ n < m) (k (.mptr id r (off + n.toNat * e)))
      | none => False
    | _ => False
  | _ => False

theorem addr_add (b o n : Nat) : (⟨b, o, none⟩ : Addr).add n = ⟨b, o + n, none⟩ := by
  unfold Addr.add
  split
  · rename_i h; simp [h]
  · rfl

theorem elq_run {P : Program} {t e : TypeId} {sz : Nat} (h : elq P t = some (e, sz)) (w : World) (b o len cap : Nat) (kd : IntKind) (n : Int) (h0 : 0 ≤ n) (h1 : n < len) :
    (Instr.indexAt t (.slice (some ⟨b, o, none⟩) len cap) (.int kd n)).run P w = .ok (.pointer (some ⟨b, o + n.toNat * sz, none⟩)) w := by
  unfold elq at h
  split at h
  · rename_i e' hs
    obtain ⟨i, hi, he⟩ := Option.map_eq_some_iff.1 h
    simp only [Prod.mk.injEq] at he
    obtain ⟨rfl, rfl⟩ := he
    simp [Instr.indexAt, asIntOf, run_underlying hs, h0, h1, run_sizeOf' hi, addr_add]
  · cases h

theorem arq_run {P : Program} {t : TypeId} {m sz : Nat} (h : arq P t = some (m, sz)) (w : World) (b o : Nat) (kd : IntKind) (n : Int) (h0 : 0 ≤ n) (h1 : n < m) :
    (Instr.indexAt t (.pointer (some ⟨b, o, none⟩)) (.int kd n)).run P w = .ok (.pointer (some ⟨b, o + n.toNat * sz, none⟩)) w := by
  unfold arq at h
  split at h
  · rename_i n' e' hs
    obtain ⟨i, hi, he⟩ := Option.map_eq_some_iff.1 h
    simp only [Prod.mk.injEq] at he
    obtain ⟨rfl, rfl⟩ := he
    simp [Instr.indexAt, asIntOf, run_underlying hs, h0, h1, run_sizeOf' hi, addr_add, Instr.sureAddr]
  · cases h

theorem gindex_sound {P : Program} {t : TypeId} {x i : GV} {k : GV → Prop} (hk : gindex P t x i k) :
    ∃ v, k v ∧ ∀ (S : Sh) (xv iv : Value), VRel S x xv → VRel S i iv → Runs P S (Instr.indexAt t xv iv) v := by
  unfold gindex at hk
  split at hk
  · rename_i kd n
    split at hk
    · rename_i esz rows
      split at hk
      · rename_i e sz he
        obtain ⟨⟨rfl, h0⟩, hk⟩ := hk
        split at hk
        · rename_i row hrow
          refine ⟨_, hk, fun S xv iv hx hi => ?_⟩
          rw [hi.v_inv]
          have hlt := (List.getElem?_eq_some_iff.1 hrow).1
          cases hx with
          | isl0 => simp at hrow
          | @isl _ _ b o len cap u hl hb ho hcap hsz hc h1 hf hv =>
            have hr : row ∈ rows := List.mem_of_getElem? hrow
            refine ⟨_, elq_run he _ _ _ _ _ _ _ h0 (by omega), ?_⟩
            have := VRel.iptr (S := S) (row := row) (off := 0) (b := b) (o := o + n.toNat * esz) (fun j => u n.toNat j) hb ho
              (fun j hj => by rw [Nat.add_assoc]; exact hc n.toNat j hlt (by rw [← hsz row hr]; exact hj))
              (fun j hj => h1 n.toNat j hlt (by rw [← hsz row hr]; exact hj)) (hf row hr) (fun j g hg => hv n.toNat j row g hrow hg)
            simpa using this
        · exact hk.elim
      · exact hk.elim
    · rename_i id esz off len
      split at hk
      · rename_i e sz he
        obtain ⟨⟨rfl, h0, h1⟩, hk⟩ := hk
        refine ⟨_, hk, fun S xv iv hx hi => ?_⟩
        rw [hi.v_inv]
        cases hx with
        | @msl _ _ _ _ t' rows a cap hg hl hr =>
          rcases hr with ⟨hr, _⟩ | ⟨hle, rb, base, c, fr, hm, ha, hc, hs⟩
          · omega
          · subst ha
            refine ⟨_, elq_run he _ _ _ _ _ _ _ h0 h1, ?_⟩
            have := VRel.mptr (S := S) (i := off + n.toNat) (off := 0) hg (by omega) hm
            rw [Nat.add_mul] at this
            simpa [Nat.add_assoc] using this
        | mslOld hg hn ha hcap =>
          rcases ha with ha | ⟨b, o, rfl⟩
          · omega
          · exact ⟨_, elq_run he _ _ _ _ _ _ _ h0 h1, .mptrOld hg hn⟩
      · exact hk.elim
    · rename_i row off
      split at hk
      · rename_i m e ha
        obtain ⟨⟨hm, h0, h1⟩, hk⟩ := hk
        refine ⟨_, hk, fun S xv iv hx hi => ?_⟩
        rw [hi.v_inv]
        cases hx with
        | iptr u hb ho hc h1' hf' hv => exact ⟨_, arq_run ha _ _ _ _ _ h0 h1, by rw [Nat.add_assoc]; exact .iptr u hb ho hc h1' hf' hv⟩
      · exact hk.elim
    · rename_i id r off
      split at hk
      · rename_i m e ha
        obtain ⟨⟨hm, h0, h1⟩, hk⟩ := hk
        refine ⟨_, hk, fun S xv iv hx hi => ?_⟩
        rw [hi.v_inv]
        cases hx with
        | mptr hg hi hm => exact ⟨_, arq_run ha _ _ _ _ _ h0 h1, by rw [Nat.add_assoc, Nat.add_assoc]; exact .mptr hg hi hm⟩
        | mptrOld hg hn => exact ⟨_, arq_run ha _ _ _ _ _ h0 h1, .mptrOld hg hn⟩
      · exact hk.elim
    · exact hk.elim
  · exact hk.elim

/-- A pointer that is none, or one. -/
def gnilCheck (x : GV) (k : GV → Prop) (_p : Ph k := ()) : Prop :=
  match x with
  | .iptr row off => k (.iptr row off)
  | .mptr id i off => k (.mptr id i off)
  | .fn (.func f) first caps => k (.fn (.func f) first caps)
  | _ => False

theorem gnilCheck_sound {P : Program} {o : Oper} {y : Operand} (hop : o.op = .nilCheck y) {x : GV} {k : GV → Prop} (hk : gnilCheck x k) :
    ∃ v, k v ∧ ∀ (S : Sh) (act : Act), VRel S x (act.eval y) → ∃ r, (execOp act.eval o).run P S.w = .ok (.value r) S.w ∧ VRel S v r := by
  unfold gnilCheck at hk
  split at hk
  · refine ⟨_, hk, fun S act hx => ⟨act.eval y, ?_, hx⟩⟩
    generalize he : act.eval y = yv at hx
    cases hx with
    | iptr u hb ho hc h1 hf hv => simp [execOp, hop, he]
  · refine ⟨_, hk, fun S act hx => ⟨act.eval y, ?_, hx⟩⟩
    generalize he : act.eval y = yv at hx
    cases hx with
    | mptr hg hi hm => simp [execOp, hop, he]
    | mptrOld hg hn => simp [execOp, hop, he]
  · refine ⟨_, hk, fun S act hx => ⟨act.eval y, ?_, hx⟩⟩
    generalize he : act.eval y = yv at hx
    cases hx with
    | fn => simp [execOp, hop, he]
  · exact hk.elim

def gextract (x : GV) (i : Nat) (k : GV → Prop) (_p : Ph k := ()) : Prop :=
  match x with
  | .tup vs => match vs[i]? with
    | some g => k g
    | none => False
  | _ => False

theorem gextract_sound {P : Program} {x : GV} {i : Nat} {k : GV → Prop} (hk : gextract x i k) :
    ∃ v, k v ∧ ∀ (S : Sh) (xv : Value), VRel S x xv → Runs P S (Instr.extract xv i) v := by
  unfold gextract at hk
  split at hk
  · split at hk
    · rename_i vs g hg
      refine ⟨_, hk, fun S xv hx => ?_⟩
      cases hx with
      | @tup _ cs h1 h2 =>
        have hi : i < cs.size := by have := (List.getElem?_eq_some_iff.1 hg).1; omega
        refine ⟨cs[i], ?_, h2 i g cs[i] hg (Array.getElem?_eq_getElem hi)⟩
        simp [Instr.extract, Array.getElem?_eq_getElem hi]
    · exact hk.elim
  · exact hk.elim

/-- A part of a struct or an array by value. -/
def gpart (P : Program) (t : TypeId) (ls : List GV) (off : Nat) (k : GV → Prop) (_p : Ph k := ()) : Prop :=
  match tyq P t with
  | some q => gassert (off + q.size ≤ ls.length ∧ (q.agg = true ∨ q.size = 1)) (k (mk q.agg ((ls.drop off).take q.size)))
  | none => False

theorem tyq_some {P : Program} {t : TypeId} {q : TyQ} (h : tyq P t = some q) :
    ∃ i d z, P.info? t = some i ∧ P.underlying t = some d ∧ i.zero = some z ∧ z.cells.size = i.size ∧ (∀ x ∈ z.cells, one x = true) ∧
      q = ⟨i.size, (match d with | .struct _ | .array _ _ => true | _ => false), i.bytes, z.cells.toList.map leafOf⟩ := by
  unfold tyq at h
  split at h
  · rename_i i d hi hd
    split at h
    · rename_i z hz
      split at h
      · rename_i hc
        simp only [Option.some.injEq] at h
        exact ⟨i, d, z, hi, hd, hz, hc.1, Array.all_eq_true_iff_forall_mem.1 hc.2, h.symm⟩
      · cases h
    · cases h
  · cases h

theorem tyq_isAgg {P : Program} {t : TypeId} {q : TyQ} (h : tyq P t = some q) (w : World) : (isAgg t).run P w = .ok q.agg w := by
  obtain ⟨i, d, z, hi, hd, hz, hs, h1, rfl⟩ := tyq_some h
  simp only [isAgg, Sem.run_bind, run_underlying hd, Result.andThen]
  cases d <;> rfl

theorem tyq_size {P : Program} {t : TypeId} {q : TyQ} (h : tyq P t = some q) (w : World) : (Go.sizeOf t).run P w = .ok q.size w := by
  obtain ⟨i, d, z, hi, hd, hz, hs, h1, rfl⟩ := tyq_some h
  exact run_sizeOf' hi w

theorem gpart_sound {P : Program} {t : TypeId} {ls : List GV} {off : Nat} {k : GV → Prop} (hk : gpart P t ls off k) :
    ∃ v, k v ∧ ∀ (S : Sh) (cs : Array Value), VRel S (.agg ls) (.agg cs) → Runs P S (part t cs off) v := by
  unfold gpart at hk
  split at hk
  · rename_i q hq
    obtain ⟨⟨hl, h1⟩, hk⟩ := hk
    refine ⟨_, hk, fun S cs hx => ?_⟩
    cases hx with
    | agg hs h2 h3 =>
      simp only [Runs, part, Sem.run_bind, tyq_isAgg hq, Result.andThen]
      by_cases ha : q.agg = true
      · simp only [ha, if_true, Sem.run_bind, tyq_size hq, Result.andThen, Sem.run_pure, mk]
        refine ⟨_, rfl, .agg (by simp; omega) (fun i g x hg hx => ?_) (fun i x hx => ?_)⟩
        · rw [Array.getElem?_extract] at hx
          rw [List.getElem?_take] at hg
          split at hg
          · rename_i hi
            rw [List.getElem?_drop] at hg
            split at hx
            · exact h2 (off + i) g x hg hx
            · cases hx
          · cases hg
        · rw [Array.getElem?_extract] at hx
          split at hx
          · exact h3 _ x hx
          · cases hx
      · have h1' : q.size = 1 := h1.resolve_left ha
        simp only [ha, if_false, Bool.false_eq_true, mk]
        have hoff : off < cs.size := by omega
        rw [Array.getElem?_eq_getElem hoff]
        have hlo : ls[off]? = some (ls[off]'(by omega)) := List.getElem?_eq_getElem (by omega)
        refine ⟨cs[off], rfl, ?_⟩
        have hd : (ls.drop off).take q.size = [ls[off]'(by omega)] := by
          rw [h1', List.drop_eq_getElem_cons (by omega)]; rfl
        rw [hd]
        exact h2 off _ _ hlo (Array.getElem?_eq_getElem hoff)
  · exact hk.elim

/-- A field of a struct by value. -/
def gfieldv (P : Program) (s : TypeId) (f : Nat) (x : GV) (k : GV → Prop) (_p : Ph k := ()) : Prop :=
  match x with
  | .agg ls => match flq P s f with
    | some (o, t) => gpart P t ls o k
    | none => False
  | _ => False

theorem gfieldv_sound {P : Program} {s : TypeId} {f : Nat} {x : GV} {k : GV → Prop} (hk : gfieldv P s f x k) :
    ∃ v, k v ∧ ∀ (S : Sh) (xv : Value), VRel S x xv → Runs P S (Instr.field s xv f) v := by
  unfold gfieldv at hk
  split at hk
  · rename_i ls
    split at hk
    · rename_i o t hf
      obtain ⟨v, hv, hr⟩ := gpart_sound hk
      refine ⟨v, hv, fun S xv hx => ?_⟩
      cases hx with
      | @agg _ cs h1 h2 h3 =>
        obtain ⟨r, hrun, hrel⟩ := hr S cs (.agg h1 h2 h3)
        refine ⟨r, ?_, hrel⟩
        unfold flq at hf
        split at hf
        · rename_i fs hs
          split at hf
          · rename_i fd hfd
            split at hf
            · split at hf
              · cases hf
              · simp only [Option.some.injEq, Prod.mk.injEq] at hf
                obtain ⟨rfl, rfl⟩ := hf
                simp [Instr.field, run_underlying hs, hfd, asAgg, hrun]
            · cases hf
          · cases hf
        · cases hf
    · exact hk.elim
  · exact hk.elim

/-- A byte of a string; an element of an array by value. -/
def gindexv (P : Program) (t : TypeId) (x i : GV) (k : GV → Prop) (_p : Ph k := ()) : Prop :=
  match i with
  | .v (.int _ n) => match x with
    | .v (.string s) => gassert (P.underlying t = some .string ∧ 0 ≤ n) (match s.data[n.toNat]? with
      | some b => k (.v (.int .u8 b.toNat))
      | none => False)
    | .agg ls => match P.underlying t, arq P t with
      | some (.array _ el), some (m, e) => gassert (0 ≤ n ∧ n < m) (gpart P el ls (n.toNat * e) k)
      | _, _ => False
    | _ => False
  | _ => False

theorem gindexv_sound {P : Program} {t : TypeId} {x i : GV} {k : GV → Prop} (hk : gindexv P t x i k) :
    ∃ v, k v ∧ ∀ (S : Sh) (xv iv : Value), VRel S x xv → VRel S i iv → Runs P S (Instr.index t xv iv) v := by
  unfold gindexv at hk
  split at hk
  · rename_i kd n
    split at hk
    · rename_i s
      obtain ⟨⟨ht, h0⟩, hk⟩ := hk
      split at hk
      · rename_i b hb
        refine ⟨_, hk, fun S xv iv hx hi => ?_⟩
        rw [hx.v_inv, hi.v_inv]
        refine ⟨.int .u8 b.toNat, ?_, .v rfl⟩
        have hlt : n.toNat < s.size := (Array.getElem?_eq_some_iff.1 hb).1
        have hb' : s[n.toNat]? = some b := by
          have := (Array.getElem?_eq_some_iff.1 hb).2
          rw [getElem?_pos s n.toNat hlt]
          exact congrArg some this
        simp [Instr.index, asIntOf, run_underlying ht, h0, hb']
      · exact hk.elim
    · rename_i ls
      split at hk
      · rename_i m' el m e hu ha
        obtain ⟨⟨h0, h1⟩, hk⟩ := hk
        obtain ⟨v, hv, hr⟩ := gpart_sound hk
        refine ⟨v, hv, fun S xv iv hx hi => ?_⟩
        rw [hi.v_inv]
        unfold arq at ha
        rw [hu] at ha
        obtain ⟨inf, hinf, he⟩ := Option.map_eq_some_iff.1 ha
        simp only [Prod.mk.injEq] at he
        obtain ⟨rfl, rfl⟩ := he
        cases hx with
        | @agg _ cs h1' h2 h3 =>
          obtain ⟨r, hrun, hrel⟩ := hr S cs (.agg h1' h2 h3)
          exact ⟨r, by simp [Instr.index, asIntOf, run_underlying hu, h0, h1, run_sizeOf' hinf, hrun], hrel⟩
      · exact hk.elim
    · exact hk.elim
  · exact hk.elim

/-- len. -/
def glen (P : Program) (t : TypeId) (x : GV) (k : GV → Prop) (_p : Ph k := ()) : Prop :=
  match P.underlying t, x with
  | some .string, .v (.string s) => k (.v (.int .i64 s.size))
  | some (.slice _), .esl => k (.v (.int .i64 0))
  | some (.slice _), .isl _ rows => k (.v (.int .i64 rows.length))
  | some (.slice _), .msl _ _ _ len => k (.v (.int .i64 len))
  | some (.array n _), _ => k (.v (.int .i64 n))
  | _, _ => False

theorem glen_sound {P : Program} {t ty : TypeId} {x : GV} {k : GV → Prop} (hk : glen P t x k) :
    ∃ v, k v ∧ ∀ (S : Sh) (xv : Value), VRel S x xv → Runs P S (Builtin.len_ #[t] ty #[xv]) v := by
  unfold glen at hk
  split at hk
  all_goals first
    | exact hk.elim
    | (rename_i ht
       refine ⟨_, hk, fun S xv hx => ?_⟩
       cases hx <;> first
         | (refine ⟨_, ?_, .v rfl⟩; simp [Builtin.len_, run_underlying ht, goInt]; done)
         | (refine ⟨_, ?_, .v rfl⟩; subst_vars; simp [Builtin.len_, run_underlying ht, goInt]; done))
end Gx
