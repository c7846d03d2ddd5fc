/-
  No cell of these rows narrows 'for every input' (looked for: loops, veiled, ifaces, maps, wideKeys, modest, calm, conditions, laid).
  DERIVED. THE GIVEN ROWS OF THIS SEAT. 5 by the template 'for every input the law returns true; each argument reads behind the call as it read before'; 0 by the template 'total and deterministic' (their statements: YtbibihbkkflidaaTotals.lean).
  GIVEN WITH THE SEED: the statements are not yours to turn. If you find one false, say at which input.
  Laid BY PROGRAM, IN A SANDBOX (cutbox-rows.mjs): the forced cells as the released guide's own fill.sh prints them over the translation 931103144713878c… (all of the seat's roots in one cut). By AI agents, Wed Nov 11 2026. No macro, syntax, notation, axiom, sorry.
-/
import Derived.Test.YtbibihbkkflidaaChecked
import GoSem.Claim
import GoSem.ClaimJoined
import GoSem.ClaimMapViews
import Derived.JoinedTies
import Derived.KernelRfl
namespace Go.Proofs.Ytbibihbkkflidaa
/- THE CELL 'sum', in the pinned program and in every row, IS THE sha256 OF THE DUMP (.gsa) THAT YtbibihbkkflidaaProg.lean LOADS. Nothing in Lean hashes anything: it is a label: what it is worth is what the hold of that sum in a sandbox is worth. -/
noncomputable def Try.pinned : Pinned := { name := "ytbibihbkkflidaa", sum := "931103144713878c405cbdae87d7d97ac448d285716348356834b63d3765eb9b", checked := Try.checked }
namespace Rows
def none {H : Type} : Left H := { results := [], args := [] }

/-- 'laws.FnExactRunOf': WHATEVER THE INPUT: true; the input reads as it did. -/
def fnExactRunOfSpec : ChangeSpec := { name := "fnExactRunOf", fn := fun _ => fun
  | [d1, d2, d3] => { results := [.lit (.bool true)], args := [d1, d2, d3] }
  | _ => none }
def fnExactRunOfRow : OpenClaim := { program := "ytbibihbkkflidaa", sum := "931103144713878c405cbdae87d7d97ac448d285716348356834b63d3765eb9b", func := "loop.example/causey/laws.FnExactRunOf", spec := "fnExactRunOf", unfollowed := true, recurses := true, apart := false }
def FnExactRunOfSaid : Prop := fnExactRunOfRow.holds Try.pinned (OpenSpec.ofChange fnExactRunOfSpec)

/-- ITS FALSE NEIGHBOUR: 'it returns false'. Refute it at one input. -/
def fnExactRunOfWrong : ChangeSpec := { name := "fnExactRunOf", fn := fun _ => fun
  | [d1, d2, d3] => { results := [.lit (.bool false)], args := [d1, d2, d3] }
  | _ => none }
def FnExactRunOfWrongFalsely : Prop := fnExactRunOfRow.holds Try.pinned (OpenSpec.ofChange fnExactRunOfWrong)

/-- 'laws.FnProgEnd': WHATEVER THE INPUT: true; the input reads as it did. -/
def fnProgEndSpec : ChangeSpec := { name := "fnProgEnd", fn := fun _ => fun
  | [d] => { results := [.lit (.bool true)], args := [d] }
  | _ => none }
def fnProgEndRow : OpenClaim := { program := "ytbibihbkkflidaa", sum := "931103144713878c405cbdae87d7d97ac448d285716348356834b63d3765eb9b", func := "loop.example/causey/laws.FnProgEnd", spec := "fnProgEnd", unfollowed := true, recurses := true, apart := false }
def FnProgEndSaid : Prop := fnProgEndRow.holds Try.pinned (OpenSpec.ofChange fnProgEndSpec)

/-- ITS FALSE NEIGHBOUR: 'it returns false'. Refute it at one input. -/
def fnProgEndWrong : ChangeSpec := { name := "fnProgEnd", fn := fun _ => fun
  | [d] => { results := [.lit (.bool false)], args := [d] }
  | _ => none }
def FnProgEndWrongFalsely : Prop := fnProgEndRow.holds Try.pinned (OpenSpec.ofChange fnProgEndWrong)

/-- 'laws.FnRunIn': WHATEVER THE INPUT: true; the input reads as it did. -/
def fnRunInSpec : ChangeSpec := { name := "fnRunIn", fn := fun _ => fun
  | [d1, d2] => { results := [.lit (.bool true)], args := [d1, d2] }
  | _ => none }
def fnRunInRow : OpenClaim := { program := "ytbibihbkkflidaa", sum := "931103144713878c405cbdae87d7d97ac448d285716348356834b63d3765eb9b", func := "loop.example/causey/laws.FnRunIn", spec := "fnRunIn", unfollowed := true, recurses := true, apart := false }
def FnRunInSaid : Prop := fnRunInRow.holds Try.pinned (OpenSpec.ofChange fnRunInSpec)

/-- ITS FALSE NEIGHBOUR: 'it returns false'. Refute it at one input. -/
def fnRunInWrong : ChangeSpec := { name := "fnRunIn", fn := fun _ => fun
  | [d1, d2] => { results := [.lit (.bool false)], args := [d1, d2] }
  | _ => none }
def FnRunInWrongFalsely : Prop := fnRunInRow.holds Try.pinned (OpenSpec.ofChange fnRunInWrong)

/-- 'laws.FnRunNull': WHATEVER THE INPUT: true; the input reads as it did. -/
def fnRunNullSpec : ChangeSpec := { name := "fnRunNull", fn := fun _ => fun
  | [d] => { results := [.lit (.bool true)], args := [d] }
  | _ => none }
def fnRunNullRow : OpenClaim := { program := "ytbibihbkkflidaa", sum := "931103144713878c405cbdae87d7d97ac448d285716348356834b63d3765eb9b", func := "loop.example/causey/laws.FnRunNull", spec := "fnRunNull", unfollowed := true, recurses := true, apart := false }
def FnRunNullSaid : Prop := fnRunNullRow.holds Try.pinned (OpenSpec.ofChange fnRunNullSpec)

/-- ITS FALSE NEIGHBOUR: 'it returns false'. Refute it at one input. -/
def fnRunNullWrong : ChangeSpec := { name := "fnRunNull", fn := fun _ => fun
  | [d] => { results := [.lit (.bool false)], args := [d] }
  | _ => none }
def FnRunNullWrongFalsely : Prop := fnRunNullRow.holds Try.pinned (OpenSpec.ofChange fnRunNullWrong)

/-- 'laws.FnRunOuts': WHATEVER THE INPUT: true; the input reads as it did. -/
def fnRunOutsSpec : ChangeSpec := { name := "fnRunOuts", fn := fun _ => fun
  | [d] => { results := [.lit (.bool true)], args := [d] }
  | _ => none }
def fnRunOutsRow : OpenClaim := { program := "ytbibihbkkflidaa", sum := "931103144713878c405cbdae87d7d97ac448d285716348356834b63d3765eb9b", func := "loop.example/causey/laws.FnRunOuts", spec := "fnRunOuts", unfollowed := true, recurses := true, apart := false }
def FnRunOutsSaid : Prop := fnRunOutsRow.holds Try.pinned (OpenSpec.ofChange fnRunOutsSpec)

/-- ITS FALSE NEIGHBOUR: 'it returns false'. Refute it at one input. -/
def fnRunOutsWrong : ChangeSpec := { name := "fnRunOuts", fn := fun _ => fun
  | [d] => { results := [.lit (.bool false)], args := [d] }
  | _ => none }
def FnRunOutsWrongFalsely : Prop := fnRunOutsRow.holds Try.pinned (OpenSpec.ofChange fnRunOutsWrong)

/- THE SECOND FORM. 'bulk': how many values and letters a reading holds, each counted each time it is reached (what is shared counts as often as it is met; a slice's spare places count too). A statement '..UptoSaid' is the law's where the arguments, and the package variables that the reading takes, are together of bulk at most 1048576: NARROWER than '..Said'. Prove '..Said' where nothing that the law and all that it calls make is longer than what came in: it says more and counts as full. Else prove '..UptoSaid'. A law counts once. -/
mutual
def uptoBulk {H : Type} : DataW H → Nat
  | .lit (.string bytes) => bytes.length + 1
  | .lit _ => 1
  | .nil => 1
  | .ptr d => uptoBulk d + 1
  | .slice elems spare => uptoBulkAll elems + uptoBulkAll spare + 1
  | .agg parts => uptoBulkAll parts + 1
  | .iface _ d => uptoBulk d + 1
  | .map entries => uptoBulkEntries entries + 1
  | .held _ => 1
def uptoBulkAll {H : Type} : List (DataW H) → Nat
  | [] => 0
  | d :: r => uptoBulk d + uptoBulkAll r
def uptoBulkEntries {H : Type} : List (Lit × DataW H) → Nat
  | [] => 0
  | x :: r => uptoBulkEntry x + uptoBulkEntries r
def uptoBulkEntry {H : Type} : Lit × DataW H → Nat
  | (.string bytes, d) => bytes.length + uptoBulk d + 1
  | (_, d) => uptoBulk d + 1
 end
def uptoSmall : (H : Type) → List (DataW H) → Bool := fun _ ds => decide (uptoBulkAll ds ≤ 1048576)
def OpenSpec.upto (s : _root_.Go.ChangeSpec) : _root_.Go.OpenSpec := { _root_.Go.OpenSpec.ofChange s with cond := some uptoSmall }

/-- 'laws.FnExactRunOf', WHERE WHAT IT READS IS OF BULK AT MOST 1048576: true; the input reads as it did. -/
def fnExactRunOfUptoRow : OpenClaim := { program := "ytbibihbkkflidaa", sum := "931103144713878c405cbdae87d7d97ac448d285716348356834b63d3765eb9b", func := "loop.example/causey/laws.FnExactRunOf", spec := "fnExactRunOf", unfollowed := true, recurses := true, apart := false, narrowed := true }
def FnExactRunOfUptoSaid : Prop := fnExactRunOfUptoRow.holds Try.pinned (OpenSpec.upto fnExactRunOfSpec)

/-- 'laws.FnProgEnd', WHERE WHAT IT READS IS OF BULK AT MOST 1048576: true; the input reads as it did. -/
def fnProgEndUptoRow : OpenClaim := { program := "ytbibihbkkflidaa", sum := "931103144713878c405cbdae87d7d97ac448d285716348356834b63d3765eb9b", func := "loop.example/causey/laws.FnProgEnd", spec := "fnProgEnd", unfollowed := true, recurses := true, apart := false, narrowed := true }
def FnProgEndUptoSaid : Prop := fnProgEndUptoRow.holds Try.pinned (OpenSpec.upto fnProgEndSpec)

/-- 'laws.FnRunIn', WHERE WHAT IT READS IS OF BULK AT MOST 1048576: true; the input reads as it did. -/
def fnRunInUptoRow : OpenClaim := { program := "ytbibihbkkflidaa", sum := "931103144713878c405cbdae87d7d97ac448d285716348356834b63d3765eb9b", func := "loop.example/causey/laws.FnRunIn", spec := "fnRunIn", unfollowed := true, recurses := true, apart := false, narrowed := true }
def FnRunInUptoSaid : Prop := fnRunInUptoRow.holds Try.pinned (OpenSpec.upto fnRunInSpec)

/-- 'laws.FnRunNull', WHERE WHAT IT READS IS OF BULK AT MOST 1048576: true; the input reads as it did. -/
def fnRunNullUptoRow : OpenClaim := { program := "ytbibihbkkflidaa", sum := "931103144713878c405cbdae87d7d97ac448d285716348356834b63d3765eb9b", func := "loop.example/causey/laws.FnRunNull", spec := "fnRunNull", unfollowed := true, recurses := true, apart := false, narrowed := true }
def FnRunNullUptoSaid : Prop := fnRunNullUptoRow.holds Try.pinned (OpenSpec.upto fnRunNullSpec)

/-- 'laws.FnRunOuts', WHERE WHAT IT READS IS OF BULK AT MOST 1048576: true; the input reads as it did. -/
def fnRunOutsUptoRow : OpenClaim := { program := "ytbibihbkkflidaa", sum := "931103144713878c405cbdae87d7d97ac448d285716348356834b63d3765eb9b", func := "loop.example/causey/laws.FnRunOuts", spec := "fnRunOuts", unfollowed := true, recurses := true, apart := false, narrowed := true }
def FnRunOutsUptoSaid : Prop := fnRunOutsUptoRow.holds Try.pinned (OpenSpec.upto fnRunOutsSpec)

end Rows
end Go.Proofs.Ytbibihbkkflidaa
