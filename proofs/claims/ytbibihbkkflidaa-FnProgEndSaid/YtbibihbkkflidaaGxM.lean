/- Plain models of the data and of runs. -/
import Derived.Test.YtbibihbkkflidaaGxFam
set_option linter.unusedSimpArgs false
set_option linter.unusedVariables false
namespace Gx
open Go

structure Opnd where
  v : Int
  n : Int
deriving DecidableEq
structure Step where
  kind : Int
  dst : Int
  op : Int
  a : Opnd
  b : Opnd
  next : List Int
deriving DecidableEq
abbrev Prog := List Step
structure Res where
  code : Int
  outs : List Int
  path : List Int
deriving DecidableEq

abbrev iv (n : Int) : GV := .v (.int .i64 n)
abbrev bv (b : Bool) : GV := .v (.bool b)
abbrev gI (l : List Int) : GV := .isl 1 (l.map fun n => [iv n])
abbrev gSr (s : Step) : List GV := [iv s.kind, iv s.dst, iv s.op, iv s.a.v, iv s.a.n, iv s.b.v, iv s.b.n, gI s.next]
abbrev gO (o : Opnd) : GV := .agg [iv o.v, iv o.n]
abbrev gS (s : Step) : GV := .agg (gSr s)
abbrev gSs (p : Prog) : GV := .isl 8 (p.map gSr)
abbrev gP (p : Prog) : GV := .agg [gSs p]
abbrev gR (r : Res) : GV := .agg [iv r.code, gI r.outs, gI r.path]

/-- A list that stands written out: its numbers. -/
def toInts : List (List GV) → List Int
  | [.v (.int _ n)] :: r => n :: toInts r
  | _ => []
def isInts : List (List GV) → Bool
  | [] => true
  | [.v (.int .i64 _)] :: r => isInts r
  | _ => false
theorem optq_ints {l : List (List GV)} {i : Nat} {k : List GV → Prop} (hl : isInts l = true) (hi : i < l.length) (hk : ∀ v ∈ toInts l, k [iv v]) : optq l[i]? k := by
  have key : ∀ (l : List (List GV)), isInts l = true → ∀ x ∈ l, ∃ v ∈ toInts l, x = [iv v] := fun l => by
    induction l with
    | nil => intro _ x hx; cases hx
    | cons a r ih =>
      intro h x hx
      match a, h with
      | [.v (.int .i64 n)], h =>
        rcases List.mem_cons.1 hx with rfl | hx
        · exact ⟨n, by simp [toInts], rfl⟩
        · obtain ⟨v, h1, h2⟩ := ih h x hx
          exact ⟨v, by simp [toInts, h1], h2⟩
  rw [List.getElem?_eq_getElem hi]
  obtain ⟨v, h1, h2⟩ := key l hl l[i] (List.getElem_mem hi)
  show k l[i]
  rw [h2]; exact hk v h1
/-- An int of the machine. -/
def I64 (n : Int) : Prop := -9223372036854775808 ≤ n ∧ n < 9223372036854775808

def inB (n lo hi : Int) : Bool := decide (lo ≤ n) && decide (n ≤ hi)
def isVar (n : Int) : Bool := inB n 0 11
def isNum (n : Int) : Bool := inB n 0 65535
def isOp (n : Int) : Bool := inB n 1 4
def Opnd.ok (o : Opnd) : Bool := isVar o.v && o.n == 0 || o.v == -1 && isNum o.n
def changes (s : Step) : Bool := inB s.kind 1 3
def usesA (s : Step) : Bool := s.kind == 1 || s.kind == 2 || s.kind == 4 || s.kind == 5
def nexts (k : Int) : Int := if k = 5 then 2 else if k = 7 then 0 else 1
def Opnd.zero (o : Opnd) : Bool := o.v == 0 && o.n == 0
def Step.ok (s : Step) (n : Int) : Bool :=
  inB s.kind 1 7 && (s.next.length : Int) == nexts s.kind && !(s.next.any fun x => !inB x 0 (n - 1)) &&
  (if changes s then isVar s.dst else s.dst == 0) && (if usesA s then s.a.ok else s.a.zero) &&
  (if s.kind = 1 then isOp s.op && s.b.ok else s.op == 0 && s.b.zero)
def progOk (p : Prog) : Bool := inB p.length 1 60 && !(p.any fun s => !s.ok p.length)
def runOp (op a b : Int) : Int :=
  if isNum a && isNum b then
    if op = 1 then (a + b) % 65536 else if op = 2 then (a - b + 65536) % 65536 else if op = 3 then a * b % 65536 else if op = 4 then (if a < b then 1 else 0) else 0
  else 0

def rdv (vars : List Int) (o : Opnd) : Int := if 0 ≤ o.v then vars.getD o.v.toNat 0 else o.n
def opOf (s : Step) (second : Bool) : Opnd := if second then s.b else s.a
def step0 : Step := ⟨0, 0, 0, ⟨0, 0⟩, ⟨0, 0⟩, []⟩
def nx (s : Step) (i : Nat) : Int := s.next.getD i 0
/-- What a machine is, to whoever steps through a program. -/
structure Mk (τ : Type) where
  ent : τ → Nat → Int → τ
  rd : τ → Nat → Bool → Int
  wr : τ → Nat → Int → τ
/-- A run: what is left of it, the machine's state, what is to be read, what has been written, the way, the place, the one before. -/
def runG {τ : Type} (p : Prog) (M : Mk τ) : Nat → τ → List Int → List Int → List Int → Nat → Int → Res × τ
  | 0, st, _, outs, path, _, _ => (⟨1, outs, path⟩, st)
  | k + 1, st, inp, outs, path, at_, fr =>
    let s := p.getD at_ step0
    let path' := path ++ [(at_ : Int)]
    let st := M.ent st at_ fr
    if s.kind = 1 then runG p M k (M.wr st at_ (runOp s.op (M.rd st at_ false) (M.rd st at_ true))) inp outs path' (nx s 0).toNat at_
    else if s.kind = 2 then runG p M k (M.wr st at_ (M.rd st at_ false)) inp outs path' (nx s 0).toNat at_
    else if s.kind = 3 then match inp with
      | [] => (⟨2, outs, path'⟩, st)
      | x :: r => runG p M k (M.wr st at_ x) r outs path' (nx s 0).toNat at_
    else if s.kind = 4 then runG p M k st inp (outs ++ [M.rd st at_ false]) path' (nx s 0).toNat at_
    else if s.kind = 5 then runG p M k st inp outs path' (nx s (if M.rd st at_ false = 0 then 1 else 0)).toNat at_
    else if s.kind = 7 then (⟨0, outs, path'⟩, st)
    else runG p M k st inp outs path' (nx s 0).toNat at_
/-- The machine of variables. -/
def varM (p : Prog) : Mk (List Int) where
  ent := fun v _ _ => v
  rd := fun v at_ second => rdv v (opOf (p.getD at_ step0) second)
  wr := fun v at_ x => v.set (p.getD at_ step0).dst.toNat x
def vars0 : List Int := List.replicate 12 0
def runV (p : Prog) (inp : List Int) (most : Nat) : Res := (runG p (varM p) most vars0 inp [] [] 0 (-1)).1
end Gx
