/- Regions that draw their order. -/
import Derived.Test.YtbibihbkkflidaaGxRegion
set_option linter.unusedSimpArgs false
set_option linter.unusedVariables false
namespace Gx
open Go

variable {P : Program} {ops : Array Oper} {eff : Nat → Bool} {prot : List (Nat × Nat)} {K : GF → GH → Prop}

theorem GF.like.refl (a : GF) : a.like a := ⟨rfl, fun _ => rfl⟩
theorem GF.like.trans {a b c : GF} (h : a.like b) (k : b.like c) : a.like c := ⟨h.1.trans k.1, fun t => (h.2 t).trans (k.2 t)⟩
theorem gwant_like {a b : GF} (h : a.like b) (o : Oper) : gwant ops o a = gwant ops o b := by
  unfold gwant
  split
  · rfl
  · split
    · rw [h.2]
    · rfl

def KLike (K : GF → GH → Prop) (a : GF) (h : GH) : Prop := ∃ a', a'.like a ∧ K a' h

theorem GStep.mono {o : Oper} {a : GF} {h : GH} {R R' : GV → GH → Prop} (hr : ∀ v h', R v h' → R' v h') (hs : GStep P ops o a h R) : GStep P ops o a h R' :=
  hs.imp (fun ⟨x, y⟩ => ⟨x, y.mono hr⟩) (fun ⟨x, y⟩ => ⟨x, hr _ _ y⟩)
theorem GStep.of_like {a b : GF} (hl : a.like b) {o : Oper} {h : GH} {R : GV → GH → Prop} (hs : GStep P ops o a h R) : GStep P ops o b h R :=
  hs.imp (fun ⟨x, y⟩ => ⟨by rw [← gwant_like hl]; exact x, hl.opR y⟩) (fun ⟨x, y⟩ => ⟨by rw [← gwant_like hl]; exact x, y⟩)

theorem gga_like : ∀ (fuel : Nat) (listed : Array Bool) (a b : GF) (h : GH), a.like b → GGA P ops eff prot (KLike K) fuel listed a h → GGA P ops eff prot (KLike K) fuel listed b h
  | 0, _, a, b, h, hl, hk => ⟨hk.1, by obtain ⟨a', h1, h2⟩ := hk.2; exact ⟨a', h1.trans hl, h2⟩⟩
  | fuel + 1, listed, a, b, h, hl, hk => by
    refine ⟨fun hr => by obtain ⟨a', h1, h2⟩ := hk.1 hr; exact ⟨a', h1.trans hl, h2⟩, fun j hj => ?_⟩
    obtain ⟨o, ho, hs⟩ := hk.2 j hj
    exact ⟨o, ho, (hs.of_like hl).mono fun v h' ⟨e, k⟩ => ⟨e, gga_like fuel _ _ _ _ (hl.put o.dst v) k⟩⟩

theorem put_get_ne {a : GF} {dst : Option Nat} {v : GV} {t : Nat} (h : ∀ d, dst = some d → d ≠ t) : (a.put dst v).get t = a.get t := by
  cases dst with
  | none => rfl
  | some d =>
    simp only [GF.put]
    split
    · simp only [GF.get, GF.look]; rw [if_neg (h d rfl)]
    · rfl
theorem put_ev {a : GF} {dst : Option Nat} {v : GV} {x : Operand} (h : ∀ d, dst = some d → x ≠ .tmp d) : (a.put dst v).ev x = a.ev x := by
  cases x with
  | tmp t => exact put_get_ne fun d hd e => h d hd (by rw [e])
  | _ => rfl

theorem put_size (a : GF) (dst : Option Nat) (v : GV) : (a.put dst v).n = a.n := by
  cases dst with
  | none => rfl
  | some d => simp only [GF.put]; split <;> rfl

theorem put_get_same {a : GF} {d : Nat} {v : GV} (h : d < a.n) : (a.put (some d) v).get d = v := by
  simp only [GF.put, if_pos h, GF.get, GF.look, if_true]

theorem put_comm_like (a : GF) {x y : Option Nat} (v u : GV) (h : ∀ d, x = some d → y ≠ some d) : ((a.put x v).put y u).like ((a.put y u).put x v) := by
  refine ⟨by simp only [put_size], fun t => ?_⟩
  cases x with
  | none => rfl
  | some d =>
    cases y with
    | none => rfl
    | some e =>
      have hne : d ≠ e := fun he => h d rfl (by rw [he])
      by_cases hd : d < a.n
      · by_cases he : e < a.n
        · simp only [GF.put, if_pos hd, if_pos he, GF.get, GF.look]
          by_cases h1 : e = t
          · rw [if_pos h1, if_neg (fun h2 => hne (h2.trans h1.symm)), if_pos h1]
          · rw [if_neg h1]
            by_cases h2 : d = t
            · rw [if_pos h2, if_pos h2]
            · rw [if_neg h2, if_neg h2, if_neg h1]
        · simp only [GF.put, if_pos hd, if_neg he]
      · by_cases he : e < a.n
        · simp only [GF.put, if_neg hd, if_pos he]
        · simp only [GF.put, if_neg hd, if_neg he]

/-- A step does not see what another one, apart from it, left. -/
theorem opR_put {oi oj : Oper} {a : GF} {v : GV} (h : ∀ d, oi.dst = some d → d ∉ oj.looksAt ops) {hp : GH} {R : GV → GH → Prop} (ho : OpR P oj (a.put oi.dst v) hp R) : OpR P oj a hp R :=
  fun w μ act hs hops => ho w μ act hs fun x hx => by
    rw [put_ev fun d hd hxd => h d hd (by
      subst hxd
      exact List.mem_append_left _ (List.mem_filterMap.2 ⟨.tmp d, by simpa using hx, rfl⟩))]
    exact hops x hx
theorem opR_put' {oi oj : Oper} {a : GF} {v : GV} (h : ∀ d, oi.dst = some d → d ∉ oj.looksAt ops) {hp : GH} {R : GV → GH → Prop} (ho : OpR P oj a hp R) : OpR P oj (a.put oi.dst v) hp R :=
  fun w μ act hs hops => ho w μ act hs fun x hx => by
    have := hops x hx
    rw [put_ev fun d hd hxd => h d hd (by
      subst hxd
      exact List.mem_append_left _ (List.mem_filterMap.2 ⟨.tmp d, by simpa using hx, rfl⟩))] at this
    exact this
theorem gwant_put {oi oj : Oper} {a : GF} {v : GV} (h : ∀ d, oi.dst = some d → d ∉ oj.looksAt ops) : gwant ops oj (a.put oi.dst v) = gwant ops oj a := by
  unfold gwant
  split
  · rfl
  · rename_i j want hg
    split
    · rename_i d hd
      rw [put_get_ne fun e he hed => h e he (by
        subst hed
        refine List.mem_append_right _ ?_
        rw [hg]
        simp [hd])]
    · rfl

/-- What an operation yields, and leaves the heap as it is: at this heap, or at any. -/
def Yld (P : Program) (ops : Array Oper) (o : Oper) (a : GF) (h : GH) (v : GV) : Prop := GStep P ops o a h fun v' h' => v' = v ∧ h' = h

theorem yld_put {oi oj : Oper} {a : GF} {v u : GV} {h : GH} (hap : ∀ d, oj.dst = some d → d ∉ oi.looksAt ops) (hy : Yld P ops oi a h v) : Yld P ops oi (a.put oj.dst u) h v :=
  hy.imp (fun ⟨x, y⟩ => ⟨by rw [gwant_put hap]; exact x, opR_put' hap y⟩) (fun ⟨x, y⟩ => ⟨by rw [gwant_put hap]; exact x, y⟩)

def DownClosed (ops : Array Oper) (listed : Array Bool) : Prop :=
  ∀ (j : Nat) (o : Oper), ops[j]? = some o → listed.getD j false = true → ∀ e ∈ o.after, Region.binds .any e = true → listed.getD e.on false = true

theorem DownClosed.set {listed : Array Bool} (hd : DownClosed ops listed) {j : Nat} (hj : j ∈ Region.ready .any ops listed) : DownClosed ops (listed.setIfInBounds j true) := by
  obtain ⟨_, oj, hoj, hall⟩ := mem_ready.1 hj
  intro k o ho hk e he hb
  by_cases hkj : k = j
  · subst hkj
    rw [hoj] at ho
    cases ho
    exact getD_set_true (hall e he hb)
  · rw [getD_set_ne false (Ne.symm hkj)] at hk
    exact getD_set_true (hd k o ho hk e he hb)

/-- An operation that yields the same at whatever heap comes up ahead of it may be taken first. -/
theorem gga_first {i : Nat} {oi : Oper} {v : GV} (hi : ops[i]? = some oi) (G : GH → Prop) (l0 : Array Bool)
    (hkeep : ∀ (listed : Array Bool) (j : Nat), DownClosed ops listed → (∀ j, l0.getD j true = true → listed.getD j true = true) → listed.getD i false = false → j ∈ Region.ready .any ops listed → j ≠ i → ∀ h h', ((eff j = false → h' = h) ∧ ∀ p ∈ prot, ((Region.before ops).getD j 0).testBit p.1 = false → h'.get p.2 = h.get p.2) → G h → G h') (hei : eff i = false) :
    ∀ (fuel : Nat) (listed : Array Bool) (a : GF) (h : GH),
      (∀ j oj, ops[j]? = some oj → j ≠ i → listed.getD j true = false → (∀ e ∈ oj.after, Region.binds .any e = true → e.on ≠ i) → oi.apart ops oj = true) →
      i ∈ Region.ready .any ops listed → DownClosed ops listed → (∀ j, l0.getD j true = true → listed.getD j true = true) → (∀ h, G h → Yld P ops oi a h v) → G h →
      GGA P ops eff prot (KLike K) fuel (listed.setIfInBounds i true) (a.put oi.dst v) h → GGA P ops eff prot (KLike K) (fuel + 1) listed a h := by
  intro fuel
  induction fuel with
  | zero =>
    intro listed a h _ hr hd hl0 hy hG H
    refine ⟨fun h0 => (by rw [h0] at hr; cases hr), fun j hj => ?_⟩
    by_cases hji : j = i
    · subst hji
      exact ⟨oi, hi, (hy h hG).mono fun v' h' ⟨e1, e2⟩ => ⟨⟨fun _ => e2, fun _ _ _ => by rw [e2]⟩, by rw [e1, e2]; exact H⟩⟩
    · have := ready_mono hj hji
      rw [H.1] at this
      cases this
  | succ fuel ih =>
    intro listed a h hfree hr hd hl0 hy hG H
    refine ⟨fun h0 => (by rw [h0] at hr; cases hr), fun j hj => ?_⟩
    by_cases hji : j = i
    · subst hji
      exact ⟨oi, hi, (hy h hG).mono fun v' h' ⟨e1, e2⟩ => ⟨⟨fun _ => e2, fun _ _ _ => by rw [e2]⟩, by rw [e1, e2]; exact H⟩⟩
    · obtain ⟨oj, hoj, hst⟩ := H.2 j (ready_mono hj hji)
      obtain ⟨hjun, oj', hoj', hall⟩ := mem_ready.1 hj
      rw [hoj] at hoj'
      cases hoj'
      have hiun : listed.getD i true = false := (mem_ready.1 hr).1
      have hiun' : listed.getD i false = false := by
        rcases Nat.lt_or_ge i listed.size with h' | h'
        · simp [h'] at hiun ⊢; exact hiun
        · simp [Array.getElem?_eq_none h']
      have hnot : ∀ e ∈ oj.after, Region.binds .any e = true → e.on ≠ i := fun e he hb heq => by
        have h1 := hall e he hb
        rw [heq, hiun'] at h1
        cases h1
      have hap := hfree j oj hoj hji hjun hnot
      obtain ⟨h1, h2, h3⟩ := Oper.apart_spec hap
      have hst' : GStep P ops oj a h fun v' h' => ((eff j = false → h' = h) ∧ ∀ p ∈ prot, ((Region.before ops).getD j 0).testBit p.1 = false → h'.get p.2 = h.get p.2) ∧ GGA P ops eff prot (KLike K) fuel ((listed.setIfInBounds i true).setIfInBounds j true) ((a.put oi.dst v).put oj.dst v') h' :=
        hst.imp (fun ⟨x, y⟩ => ⟨by rw [← gwant_put h1]; exact x, opR_put h1 y⟩) (fun ⟨x, y⟩ => ⟨by rw [← gwant_put h1]; exact x, y⟩)
      refine ⟨oj, hoj, hst'.mono fun v' h' ⟨e, k⟩ => ⟨e, ?_⟩⟩
      have hfree' : ∀ k ok, ops[k]? = some ok → k ≠ i → (listed.setIfInBounds j true).getD k true = false →
          (∀ e ∈ ok.after, Region.binds .any e = true → e.on ≠ i) → oi.apart ops ok = true := fun k ok hk hki hun hno => by
        refine hfree k ok hk hki ?_ hno
        by_cases hjk : j = k
        · subst hjk; exact hjun
        · rw [getD_set_ne true hjk] at hun; exact hun
      refine ih (listed.setIfInBounds j true) (a.put oj.dst v') h' hfree' (ready_mono hr (Ne.symm hji)) (hd.set hj) (fun k hk => ?_) (fun h hG => yld_put h3 (hy h hG)) (hkeep listed j hd hl0 hiun' hj hji h h' e hG) ?_
      · by_cases hjk : j = k
        · subst hjk
          rw [hl0 j hk] at hjun; cases hjun
        · rw [getD_set_ne true hjk]; exact hl0 k hk
      · rw [Array.setIfInBounds_comm _ _ hji]
        exact gga_like _ _ _ _ _ (put_comm_like a v v' (fun d hd => h2 d hd)) k

/-! ### who comes ahead of whom -/
theorem or_testBit {a b k : Nat} (h : (a ||| b).testBit k = true) : a.testBit k = true ∨ b.testBit k = true := by
  rw [Nat.testBit_or] at h
  simpa using h

theorem before_spec (ops : Array Oper) : (Region.before ops).size = ops.size ∧ ∀ (j k : Nat), ((Region.before ops).getD j 0).testBit k = true →
    ∃ o, ops[j]? = some o ∧ ∃ e ∈ o.after, Region.binds .any e = true ∧ (e.on = k ∨ (e.on < j ∧ ((Region.before ops).getD e.on 0).testBit k = true)) := by
  unfold Region.before
  refine Array.foldl_induction (as := ops) (motive := fun n (acc : Array Nat) => acc.size = n ∧ ∀ (j k : Nat), (acc.getD j 0).testBit k = true →
    ∃ o, ops[j]? = some o ∧ ∃ e ∈ o.after, Region.binds .any e = true ∧ (e.on = k ∨ (e.on < j ∧ (acc.getD e.on 0).testBit k = true))) ⟨rfl, fun j k h => by simp at h⟩ ?_
  rintro ⟨n, hn⟩ acc ⟨hsz, hacc⟩
  refine ⟨by simp [hsz], fun j k hjk => ?_⟩
  have old : ∀ m, m < acc.size → ∀ x, (acc.push x).getD m 0 = acc.getD m 0 := fun m hm x => by simp [Array.getElem?_push, Nat.ne_of_lt hm]
  by_cases hj : j < acc.size
  · rw [old j hj] at hjk
    obtain ⟨o, ho, e, he, hb, hc⟩ := hacc j k hjk
    refine ⟨o, ho, e, he, hb, hc.imp id fun ⟨h1, h2⟩ => ⟨h1, by rw [old _ (by omega)]; exact h2⟩⟩
  · by_cases hj2 : j = acc.size
    · subst hj2
      have ho : ops[acc.size]? = some ops[n] := by rw [hsz]; exact Array.getElem?_eq_getElem hn
      refine ⟨_, ho, ?_⟩
      have hval : ∀ x, (acc.push x).getD acc.size 0 = x := fun x => by simp
      rw [hval] at hjk
      have key : ∀ (l : List Edge) (s0 : Nat), (l.foldl (fun s (e : Edge) => if Region.binds .any e then s ||| 2 ^ e.on ||| acc.getD e.on 0 else s) s0).testBit k = true →
          s0.testBit k = true ∨ ∃ e ∈ l, Region.binds .any e = true ∧ (e.on = k ∨ (e.on < acc.size ∧ (acc.getD e.on 0).testBit k = true)) := by
        intro l
        induction l with
        | nil => intro s0 h; exact .inl h
        | cons e l ih =>
          intro s0 h
          simp only [List.foldl_cons] at h
          rcases ih _ h with h | ⟨e', he', hb, hc⟩
          · split at h
            · rename_i hb
              rcases or_testBit h with h | h
              · rcases or_testBit h with h | h
                · exact .inl h
                · refine .inr ⟨e, by simp, hb, .inl ?_⟩
                  rw [Nat.testBit_two_pow] at h
                  simpa using h
              · refine .inr ⟨e, by simp, hb, .inr ⟨?_, h⟩⟩
                rcases Nat.lt_or_ge e.on acc.size with h' | h'
                · exact h'
                · simp [Array.getElem?_eq_none h'] at h
            · exact .inl h
          · exact .inr ⟨e', by simp [he'], hb, hc⟩
      rw [← Array.foldl_toList] at hjk
      rcases key _ 0 hjk with h | ⟨e, he, hb, hc⟩
      · simp at h
      · exact ⟨e, by simpa using he, hb, hc.imp id fun ⟨h1, h2⟩ => ⟨h1, by rw [old _ h1]; exact h2⟩⟩
    · have : ∀ x, (acc.push x).getD j 0 = 0 := fun x => by
        rw [Array.getD_eq_getD_getElem?, Array.getElem?_eq_none (by simp; omega)]; rfl
      rw [this] at hjk
      simp at hjk

theorem before_listed {listed : Array Bool} (hd : DownClosed ops listed) : ∀ (n j k : Nat), j < n → ((Region.before ops).getD j 0).testBit k = true →
    (∀ o, ops[j]? = some o → ∀ e ∈ o.after, Region.binds .any e = true → listed.getD e.on false = true) → listed.getD k false = true
  | 0, _, _, h, _, _ => by omega
  | n + 1, j, k, hjn, hb, hj => by
    obtain ⟨o, ho, e, he, hbind, hc⟩ := (before_spec ops).2 j k hb
    have hl := hj o ho e he hbind
    rcases hc with hc | ⟨hlt, hc⟩
    · rw [← hc]; exact hl
    · exact before_listed hd n e.on k (by omega) hc fun o' ho' e' he' hb' => hd e.on o' ho' hl e' he' hb'

/-! ### the walk of a region that draws -/
/-- A call that comes to a value whatever the heap, and leaves it. -/
abbrev GPure (P : Program) (f : FuncId) (args : List GV) (v : GV) : Prop := ∀ h, GCall P f args h fun v' h' => v' = v ∧ h' = h
def GPureK (P : Program) (f : FuncId) (args : List GV) (k : GV → Prop) (_p : Ph k := ()) : Prop := ∃ v, GPure P f args v ∧ k v
/-- A call that comes to a value at this heap, and leaves it. -/
def GHeldK (P : Program) (f : FuncId) (args : List GV) (h : GH) (k : GV → Prop) (_p : Ph k := ()) : Prop := ∃ v, GCall P f args h (fun v' h' => v' = v ∧ h' = h) ∧ k v

def gins (P : Program) (o : Op) (a : GF) (k : GV → Prop) (_p : Ph k := ()) : Prop :=
  match o with
  | .call { callee := .value f, args, .. } => match a.ev f with
    | .fn (.func f) first caps => GPureK P f (first ++ args.toList.map a.ev ++ caps) k
    | _ => False
  | o => gpu P o a k

def ghold (P : Program) (o : Op) (a : GF) (h : GH) (k : GV → Prop) (_p : Ph k := ()) : Prop :=
  match o with
  | .call { callee := .value f, args, .. } => match a.ev f with
    | .fn (.func f) first caps => GHeldK P f (first ++ args.toList.map a.ev ++ caps) h k
    | _ => False
  | .load t x => gload P t (a.ev x) h k
  | _ => False

theorem gins_sound {o : Oper} {a : GF} {k : GV → Prop} (hk : gins P o.op a k) : ∃ v, k v ∧ OpIns P o a v := by
  obtain ⟨dst, op, type, pos, after, guard⟩ := o
  simp only at hk
  unfold gins at hk
  split at hk
  · split at hk
    · rename_i fid first caps hf
      obtain ⟨v, hp, hv⟩ := hk
      exact ⟨v, hv, fun h => gcallv_sound rfl (by unfold gcallv; rw [hf]; exact hp h)⟩
    · exact hk.elim
  · exact gpu_sound (o := ⟨dst, _, type, pos, after, guard⟩) hk

theorem ghold_sound {o : Oper} {a : GF} {h : GH} {k : GV → Prop} (hk : ghold P o.op a h k) : ∃ v, k v ∧ OpR P o a h fun v' h' => v' = v ∧ h' = h := by
  obtain ⟨dst, op, type, pos, after, guard⟩ := o
  simp only at hk
  unfold ghold at hk
  split at hk
  · split at hk
    · rename_i fid first caps hf
      obtain ⟨v, hp, hv⟩ := hk
      exact ⟨v, hv, gcallv_sound rfl (by unfold gcallv; rw [hf]; exact hp)⟩
    · exact hk.elim
  · rename_i t x
    obtain ⟨v, hv, hr⟩ := gload_sound hk
    refine ⟨v, hv, OpR.of_runsTo (h' := h) (fun ρ => Instr.loadAt t (ρ x)) (fun ρ => rfl) fun w μ act hs ho => ?_⟩
    obtain ⟨r, hrun, hrel⟩ := hr w μ _ hs (ho x (by simp [Op.operands]))
    exact ⟨r, w, μ, hrun, hs, Evolve.refl _, hrel⟩
  · exact hk.elim

/-- What must stay as it is. -/
def gprot : List Nat → GH → GH → (X : Prop) → (_p : Ph X := ()) → Prop
  | [], _, _, X, _ => X
  | id :: r, h, h', X, _ => gassert (h'.get id = h.get id) (gprot r h h' X)
theorem gprot_or : ∀ {prot : List Nat} {h h' : GH} {X : Prop}, gprot prot h h' X → (∀ id ∈ prot, h'.get id = h.get id) ∧ X
  | [], _, _, _, hx => ⟨fun _ h => (by cases h), hx⟩
  | i :: r, h, h', X, hx => by
    obtain ⟨h1, h2⟩ := hx
    obtain ⟨h3, h4⟩ := gprot_or h2
    refine ⟨fun id hid => ?_, h4⟩
    rcases List.mem_cons.1 hid with rfl | hid
    · exact h1
    · exact h3 id hid
/-- A load from a block that nothing in the region turns. -/
def gkeep (P : Program) (o : Op) (a : GF) (h : GH) (k : Nat → GV → Prop) (_p : Ph k := ()) : Prop :=
  match o with
  | .load t x => match a.ev x with
    | .mptr id i off => gload P t (.mptr id i off) h (k id)
    | _ => False
  | _ => False
/-- The operations in an order of the prover's: (number, 0: comes to the same at any heap | 1: reads the heap | 3: reads a block that stays | else: may change it). -/
def gdr (P : Program) (ops : Array Oper) : List Nat → List (Nat × Nat) → (K : GF → GH → Prop) → GF → GH → (_p : Ph K := ()) → (_q : Ph ops := ()) → Prop
  | _, [], K, a, h, _, _ => K a h
  | prot, (i, tag) :: r, K, a, h, _, _ => match ops[i]? with
    | some o => gguard ops o.guard a
      (fun a' => match tag with
        | 0 => gins P o.op a' fun v => gdr P ops prot r K (a'.put o.dst v) h
        | 1 => ghold P o.op a' h fun v => gdr P ops prot r K (a'.put o.dst v) h
        | 3 => gkeep P o.op a' h fun id v => gdr P ops (id :: prot) r K (a'.put o.dst v) h
        | 4 => gdo P o.op a' h fun v h' => gprot prot h h' (gdr P ops prot r K (a'.put o.dst v) h')
        | _ => gdo P o.op a' h fun v h' => gdr P ops prot r K (a'.put o.dst v) h')
      (fun a' => gdr P ops prot r K (a'.put o.dst (.tup [])) h)
    | none => False

theorem gloadRow_det {q : TyQ} {row : List GV} {off : Nat} {k : GV → Prop} (h : gloadRow q row off k) : ∃ v, k v ∧ gloadRow q row off fun v' => v' = v := ⟨_, h.2, h.1, rfl⟩
theorem gload_det {t : TypeId} {id i off : Nat} {h : GH} {k : GV → Prop} (hk : gload P t (.mptr id i off) h k) : ∃ v, k v ∧ ∀ h', h'.get id = h.get id → gload P t (.mptr id i off) h' fun v' => v' = v := by
  unfold gload at hk
  split at hk
  · rename_i q hq
    simp only at hk
    split at hk
    · rename_i t2 e rows hg
      split at hk
      · rename_i row hr
        obtain ⟨v, hv, hd⟩ := gloadRow_det hk
        refine ⟨v, hv, fun h' hh => ?_⟩
        unfold gload
        rw [hq]; simp only [hh, hg, hr]
        exact hd
      · exact hk.elim
    · exact hk.elim
  · exact hk.elim
theorem gkeep_sound {o : Oper} {a : GF} {h : GH} {k : Nat → GV → Prop} (hk : gkeep P o.op a h k) : ∃ id v, k id v ∧ ∀ h', h'.get id = h.get id → OpR P o a h' fun v' h2 => v' = v ∧ h2 = h' := by
  obtain ⟨dst, op, type, pos, after, guard⟩ := o
  simp only at hk
  unfold gkeep at hk
  split at hk
  · rename_i t x
    split at hk
    · rename_i id i off hx
      obtain ⟨v, hv, hd⟩ := gload_det hk
      refine ⟨id, v, hv, fun h' hh => ?_⟩
      obtain ⟨v2, e, hr⟩ := gload_sound (hd h' hh)
      subst e
      refine OpR.of_runsTo (h' := h') (fun ρ => Instr.loadAt t (ρ x)) (fun ρ => rfl) fun w μ act hs ho => ?_
      obtain ⟨r, hrun, hrel⟩ := hr w μ _ hs (by have := ho x (by simp [Op.operands]); rw [hx] at this; exact this)
      exact ⟨r, w, μ, hrun, hs, Evolve.refl _, hrel⟩
    · exact hk.elim
  · exact hk.elim
theorem gga_prot {prot' : List (Nat × Nat)} (hp : ∀ id ∈ prot, id ∈ prot') : ∀ (fuel : Nat) (listed : Array Bool) (a : GF) (h : GH), GGA P ops eff prot' K fuel listed a h → GGA P ops eff prot K fuel listed a h
  | 0, _, _, _, hk => hk
  | fuel + 1, listed, a, h, hk => ⟨hk.1, fun j hj => by
    obtain ⟨o, ho, hs⟩ := hk.2 j hj
    exact ⟨o, ho, hs.mono fun v h' ⟨⟨e1, e2⟩, k⟩ => ⟨⟨e1, fun id hid => e2 id (hp id hid)⟩, gga_prot hp fuel _ _ _ k⟩⟩⟩

def effOf (order : List (Nat × Nat)) (j : Nat) : Bool := order.any fun p => p.1 == j && 2 ≤ p.2

def dstat (ops : Array Oper) (before : Array Nat) (effs : List Nat) : List Nat → List (Nat × Nat) → Array Bool → Bool
  | _, [], listed => (Region.ready .any ops listed).isEmpty
  | kept, (i, tag) :: r, listed =>
    (match tag with
      | 0 => (Region.ready .any ops listed).contains i && Region.free .any ops listed i && !effs.contains i
      | 1 => (Region.ready .any ops listed).contains i && Region.free .any ops listed i && !effs.contains i && effs.all fun j => listed.getD j true || (before.getD j 0).testBit i
      | 3 => (Region.ready .any ops listed).contains i && Region.free .any ops listed i && !effs.contains i
      | 4 => Region.ready .any ops listed == [i] && effs.contains i
      | _ => Region.ready .any ops listed == [i] && effs.contains i && kept.all fun k => (before.getD i 0).testBit k) && dstat ops before effs (if tag = 3 then i :: kept else kept) r (listed.setIfInBounds i true)

theorem gdr_gga {effs : List Nat} : ∀ (order : List (Nat × Nat)) (kept : List Nat) (prot : List (Nat × Nat)) (listed : Array Bool) (a : GF) (h : GH), (∀ p ∈ prot, p.1 ∈ kept) → DownClosed ops listed → dstat ops (Region.before ops) effs kept order listed = true →
    gdr P ops (prot.map (·.2)) order K a h → GGA P ops (effs.contains ·) prot (KLike K) order.length listed a h
  | [], kept, prot, listed, a, h, hkp, hd, hs, hk => by
    simp only [dstat, List.isEmpty_iff] at hs
    exact ⟨hs, a, GF.like.refl a, hk⟩
  | (i, tag) :: r, kept, prot, listed, a, h, hkp, hd, hs, hk => by
    simp only [gdr] at hk
    split at hk
    · rename_i o ho
      obtain ⟨a', hl, hyn⟩ := gguard_or hk
      simp only [dstat, Bool.and_eq_true] at hs
      obtain ⟨hs, hrest⟩ := hs
      have hkp' : ∀ p ∈ prot, p.1 ∈ (if tag = 3 then i :: kept else kept) := fun p hp => by
        split
        · exact List.mem_cons_of_mem _ (hkp p hp)
        · exact hkp p hp
      have insens : ∀ (v : GV), (∀ h, Yld P ops o a h v) → i ∈ Region.ready .any ops listed → Region.free .any ops listed i = true → effs.contains i = false →
          gdr P ops (prot.map (·.2)) r K (a'.put o.dst v) h → GGA P ops (effs.contains ·) prot (KLike K) ((i, tag) :: r).length listed a h := fun v hy hr hf he hg =>
        gga_first (eff := (effs.contains ·)) ho (fun _ => True) listed (fun _ _ _ _ _ _ _ _ _ _ _ => trivial) he r.length listed a h (Region.free_spec ho hf) hr hd (fun _ h => h) (fun h _ => hy h) trivial
          (gga_like _ _ _ _ _ (hl.put o.dst v) (gdr_gga r _ prot _ _ _ hkp' (hd.set hr) hrest hg))
      have sens : ∀ (v : GV), Yld P ops o a h v → i ∈ Region.ready .any ops listed → Region.free .any ops listed i = true → effs.contains i = false →
          (∀ j, effs.contains j = true → listed.getD j true = true ∨ ((Region.before ops).getD j 0).testBit i = true) →
          gdr P ops (prot.map (·.2)) r K (a'.put o.dst v) h → GGA P ops (effs.contains ·) prot (KLike K) ((i, tag) :: r).length listed a h := fun v hy hr hf he hall hg => by
        refine gga_first (eff := (effs.contains ·)) ho (fun h' => h' = h) listed (fun l2 j hd2 hsup hi2 hj2 hji h1 h2 hkp e1 => ?_) he r.length listed a h (Region.free_spec ho hf) hr hd (fun _ h => h) (fun h1 e1 => by rw [e1]; exact hy) rfl
          (gga_like _ _ _ _ _ (hl.put o.dst v) (gdr_gga r _ prot _ _ _ hkp' (hd.set hr) hrest hg))
        obtain ⟨hjun, oj, hoj, hallj⟩ := mem_ready.1 hj2
        cases hej : effs.contains j with
        | false => rw [hkp.1 hej]; exact e1
        | true =>
          rcases hall j hej with h3 | h3
          · rw [hsup j h3] at hjun; cases hjun
          · have := before_listed hd2 (j + 1) j i (by omega) h3 fun o' ho' e he hb => by
              rw [hoj] at ho'; cases ho'; exact hallj e he hb
            rw [hi2] at this; cases this
      have eff2 : Region.ready .any ops listed = [i] → effs.contains i = true → ((gwant ops o a = some true ∧ OpR P o a h fun v h' => (∀ p ∈ prot, ((Region.before ops).getD i 0).testBit p.1 = false → h'.get p.2 = h.get p.2) ∧ gdr P ops (prot.map (·.2)) r K (a'.put o.dst v) h') ∨
          (gwant ops o a = some false ∧ gdr P ops (prot.map (·.2)) r K (a'.put o.dst (.tup [])) h)) → GGA P ops (effs.contains ·) prot (KLike K) ((i, tag) :: r).length listed a h := fun hs hei hh => by
        refine ⟨fun h0 => (by rw [h0] at hs; cases hs), fun j hj => ?_⟩
        rw [hs] at hj
        simp only [List.mem_singleton] at hj
        subst hj
        refine ⟨o, ho, ?_⟩
        have hr : j ∈ Region.ready .any ops listed := by rw [hs]; simp
        have fin : ∀ (v : GV) (h' : GH), gdr P ops (prot.map (·.2)) r K (a'.put o.dst v) h' → GGA P ops (effs.contains ·) prot (KLike K) r.length (listed.setIfInBounds j true) (a.put o.dst v) h' := fun v h' hg =>
          gga_like _ _ _ _ _ (hl.put o.dst v) (gdr_gga r _ prot _ _ _ hkp' (hd.set hr) hrest hg)
        rcases hh with ⟨hw, hop⟩ | ⟨hw, hno⟩
        · exact .inl ⟨hw, hop.mono fun v h' ⟨h1, h2⟩ => ⟨⟨fun e => (by simp only at e; rw [hei] at e; cases e), h1⟩, fin v h' h2⟩⟩
        · exact .inr ⟨hw, ⟨fun _ => rfl, fun _ _ _ => rfl⟩, fin _ _ hno⟩
      split at hs
      · simp only [Bool.and_eq_true, List.contains_iff_mem, Bool.not_eq_true'] at hs
        obtain ⟨⟨hr, hf⟩, he⟩ := hs
        rcases hyn with ⟨hw, hy⟩ | ⟨hw, hno⟩
        · obtain ⟨v, hv, hins⟩ := gins_sound hy
          exact insens v (fun h => .inl ⟨hw, (hl.opR (hins h))⟩) hr hf (by simpa using he) hv
        · exact insens (.tup []) (fun h => .inr ⟨hw, rfl, rfl⟩) hr hf (by simpa using he) hno
      · simp only [Bool.and_eq_true, List.contains_iff_mem, Bool.not_eq_true'] at hs
        obtain ⟨⟨⟨hr, hf⟩, he⟩, hall⟩ := hs
        have hall' : ∀ j, effs.contains j = true → listed.getD j true = true ∨ ((Region.before ops).getD j 0).testBit i = true := fun j hj => by
          simp only [List.all_eq_true, Bool.or_eq_true] at hall
          exact hall j (by simpa using hj)
        rcases hyn with ⟨hw, hy⟩ | ⟨hw, hno⟩
        · obtain ⟨v, hv, hop⟩ := ghold_sound hy
          exact sens v (.inl ⟨hw, hl.opR hop⟩) hr hf (by simpa using he) hall' hv
        · exact insens (.tup []) (fun h => .inr ⟨hw, rfl, rfl⟩) hr hf (by simpa using he) hno
      · simp only [Bool.and_eq_true, List.contains_iff_mem, Bool.not_eq_true'] at hs
        obtain ⟨⟨hr, hf⟩, he⟩ := hs
        rcases hyn with ⟨hw, hy⟩ | ⟨hw, hno⟩
        · obtain ⟨id, v, hv, hop⟩ := gkeep_sound hy
          refine gga_prot (prot' := (i, id) :: prot) (fun x hx => List.mem_cons_of_mem _ hx) _ _ _ _ ?_
          refine gga_first (eff := (effs.contains ·)) (prot := (i, id) :: prot) ho (fun h' => h'.get id = h.get id) listed (fun l2 j hd2 hsup hi2 hj2 hji h1 h2 hkp e1 => ?_) (by simpa using he) r.length listed a h (Region.free_spec ho hf) hr hd (fun _ h => h)
            (fun h' e1 => .inl ⟨hw, hl.opR (hop h' e1)⟩) rfl (gga_like _ _ _ _ _ (hl.put o.dst v) (gdr_gga r _ ((i, id) :: prot) _ _ _ (fun p hp => by
              rcases List.mem_cons.1 hp with rfl | hp
              · simp
              · exact hkp' p hp) (hd.set hr) hrest (by simpa using hv)))
          refine (hkp.2 (i, id) (by simp) ?_).trans e1
          obtain ⟨hjun, oj, hoj, hallj⟩ := mem_ready.1 hj2
          cases hb : ((Region.before ops).getD j 0).testBit i with
          | false => rfl
          | true =>
            have := before_listed hd2 (j + 1) j i (by omega) hb fun o' ho' e he hb' => by
              rw [hoj] at ho'; cases ho'; exact hallj e he hb'
            rw [hi2] at this; cases this
        · exact insens (.tup []) (fun h => .inr ⟨hw, rfl, rfl⟩) hr hf (by simpa using he) hno
      · simp only [Bool.and_eq_true, beq_iff_eq] at hs
        refine eff2 hs.1 hs.2 ?_
        rcases hyn with ⟨hw, hy⟩ | ⟨hw, hno⟩
        · exact .inl ⟨hw, (hl.opR (gdo_sound hy)).mono fun v h' hp => ⟨fun p hp' _ => (gprot_or hp).1 p.2 (List.mem_map.2 ⟨p, hp', rfl⟩), (gprot_or hp).2⟩⟩
        · exact .inr ⟨hw, hno⟩
      · rename_i n0 n1 n3 n4
        simp only [Bool.and_eq_true, beq_iff_eq, List.all_eq_true] at hs
        refine eff2 hs.1.1 hs.1.2 ?_
        rcases hyn with ⟨hw, hy⟩ | ⟨hw, hno⟩
        · have hy2 : gdo P o.op a' h fun v h' => gdr P ops (prot.map (·.2)) r K (a'.put o.dst v) h' := by
            split at hy
            · exact absurd rfl n0
            · exact absurd rfl n1
            · exact absurd rfl n3
            · exact absurd rfl n4
            · exact hy
          exact .inl ⟨hw, (hl.opR (gdo_sound hy2)).mono fun v h' hp => ⟨fun p hp' hb => (by rw [hs.2 p.1 (hkp p hp')] at hb; cases hb), hp⟩⟩
        · exact .inr ⟨hw, hno⟩
    · exact hk.elim

theorem GWp.draw {S0 : Sh} {Q : Exit → GF → GH → Prop} {a : GF} {h : GH} (hn : ∀ id, S0.h.get id ≠ none → id < S0.h.next) (hm : P.follows .mixedOrders = true) {id : Nat} (order : List (Nat × Nat)) (effs : List Nat)
    (hst : dstat ops (Region.before ops) effs [] order (Array.replicate ops.size false) = true) (hl : order.length = ops.size)
    (hk : gdr P ops [] order (Q .normal) a h) : GWp P S0 (.region id ops true) Q a h := fun w μ act hs he => by
  have hd : DownClosed ops (Array.replicate ops.size false) := fun j o ho hj => by
    rw [Array.getD_eq_getD_getElem?, Array.getElem?_replicate] at hj
    split at hj <;> simp at hj
  have hg := gdr_gga (effs := effs) order [] [] _ a h (fun p hp => by cases hp) hd hst hk
  rw [hl] at hg
  have hs1 : St ⟨{ w with drawn := w.drawn + 1 }, h, μ⟩ a act := ⟨sim_drew hs.1, hs.2.mono hs.1.next (evolve_drew ⟨w, h, μ⟩)⟩
  have hw := gga_sound hn _ _ a h hg _ μ act hs1 (he.trans hn (evolve_drew ⟨w, h, μ⟩))
  refine wp_mono (wp_region_any hm hw) fun e act' w' he' => ?_
  cases e <;> first | exact he'.elim | skip
  obtain ⟨a2, h2, μ2, hs2, he2, a3, hl3, k⟩ := he'
  exact ⟨a3, h2, μ2, ⟨hs2.1, hl3.symm.frel hs2.2⟩, he2, k⟩
end Gx
