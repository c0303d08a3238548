/-
  No cell of these rows narrows 'for every input' (looked for: loops, veiled, ifaces, maps, wideKeys, modest, calm, conditions, laid).
  DERIVED. THE GIVEN ROWS OF THIS SEAT. 5 by the template 'for every input the law returns true; each argument reads behind the call as it read before'; 0 by the template 'total and deterministic' (their statements: YthlomdacheeinaaTotals.lean).
  GIVEN WITH THE SEED: the statements are not yours to turn. If you find one false, say at which input.
  Laid BY PROGRAM, IN A SANDBOX (cutbox-rows.mjs): the forced cells as the released guide's own fill.sh prints them over the translation 60665da07bb5afb0… (all of the seat's roots in one cut). By AI agents, Wed Nov 11 2026. No macro, syntax, notation, axiom, sorry.
-/
import Derived.Test.YthlomdacheeinaaChecked
import GoSem.Claim
import GoSem.ClaimJoined
import GoSem.ClaimMapViews
import Derived.JoinedTies
import Derived.KernelRfl
namespace Go.Proofs.Ythlomdacheeinaa
/- THE CELL 'sum', in the pinned program and in every row, IS THE sha256 OF THE DUMP (.gsa) THAT YthlomdacheeinaaProg.lean LOADS. Nothing in Lean hashes anything: it is a label: what it is worth is what the hold of that sum in a sandbox is worth. -/
noncomputable def Try.pinned : Pinned := { name := "ythlomdacheeinaa", sum := "60665da07bb5afb0e52de5ec83ffc8803c6e34dd6c88c1493e182b73d14ed596", checked := Try.checked }
namespace Rows
def none {H : Type} : Left H := { results := [], args := [] }

/-- 'perigeelaw6.FactsMatchSpec': WHATEVER THE INPUT: true; the input reads as it did. -/
def factsMatchSpecSpec : ChangeSpec := { name := "factsMatchSpec", fn := fun _ => fun
  | [d1, d2, d3, d4] => { results := [.lit (.bool true)], args := [d1, d2, d3, d4] }
  | _ => none }
def factsMatchSpecRow : OpenClaim := { program := "ythlomdacheeinaa", sum := "60665da07bb5afb0e52de5ec83ffc8803c6e34dd6c88c1493e182b73d14ed596", func := "perigee/perigeelaw6.FactsMatchSpec", spec := "factsMatchSpec", apart := false }
def FactsMatchSpecSaid : Prop := factsMatchSpecRow.holds Try.pinned (OpenSpec.ofChange factsMatchSpecSpec)

/-- ITS FALSE NEIGHBOUR: 'it returns false'. Refute it at one input. -/
def factsMatchSpecWrong : ChangeSpec := { name := "factsMatchSpec", fn := fun _ => fun
  | [d1, d2, d3, d4] => { results := [.lit (.bool false)], args := [d1, d2, d3, d4] }
  | _ => none }
def FactsMatchSpecWrongFalsely : Prop := factsMatchSpecRow.holds Try.pinned (OpenSpec.ofChange factsMatchSpecWrong)

/-- 'perigeelaw6.ProcsMatchSpec': WHATEVER THE INPUT: true; the input reads as it did. -/
def procsMatchSpecSpec : ChangeSpec := { name := "procsMatchSpec", fn := fun _ => fun
  | [d1, d2, d3] => { results := [.lit (.bool true)], args := [d1, d2, d3] }
  | _ => none }
def procsMatchSpecRow : OpenClaim := { program := "ythlomdacheeinaa", sum := "60665da07bb5afb0e52de5ec83ffc8803c6e34dd6c88c1493e182b73d14ed596", func := "perigee/perigeelaw6.ProcsMatchSpec", spec := "procsMatchSpec", unfollowed := true, recurses := true, apart := false }
def ProcsMatchSpecSaid : Prop := procsMatchSpecRow.holds Try.pinned (OpenSpec.ofChange procsMatchSpecSpec)

/-- ITS FALSE NEIGHBOUR: 'it returns false'. Refute it at one input. -/
def procsMatchSpecWrong : ChangeSpec := { name := "procsMatchSpec", fn := fun _ => fun
  | [d1, d2, d3] => { results := [.lit (.bool false)], args := [d1, d2, d3] }
  | _ => none }
def ProcsMatchSpecWrongFalsely : Prop := procsMatchSpecRow.holds Try.pinned (OpenSpec.ofChange procsMatchSpecWrong)

/-- 'perigeelaw6.ProcsPlacesAreRight': WHATEVER THE INPUT: true; the input reads as it did. -/
def procsPlacesAreRightSpec : ChangeSpec := { name := "procsPlacesAreRight", fn := fun _ => fun
  | [d1, d2, d3, d4, d5] => { results := [.lit (.bool true)], args := [d1, d2, d3, d4, d5] }
  | _ => none }
def procsPlacesAreRightRow : OpenClaim := { program := "ythlomdacheeinaa", sum := "60665da07bb5afb0e52de5ec83ffc8803c6e34dd6c88c1493e182b73d14ed596", func := "perigee/perigeelaw6.ProcsPlacesAreRight", spec := "procsPlacesAreRight", unfollowed := true, recurses := true, apart := false }
def ProcsPlacesAreRightSaid : Prop := procsPlacesAreRightRow.holds Try.pinned (OpenSpec.ofChange procsPlacesAreRightSpec)

/-- ITS FALSE NEIGHBOUR: 'it returns false'. Refute it at one input. -/
def procsPlacesAreRightWrong : ChangeSpec := { name := "procsPlacesAreRight", fn := fun _ => fun
  | [d1, d2, d3, d4, d5] => { results := [.lit (.bool false)], args := [d1, d2, d3, d4, d5] }
  | _ => none }
def ProcsPlacesAreRightWrongFalsely : Prop := procsPlacesAreRightRow.holds Try.pinned (OpenSpec.ofChange procsPlacesAreRightWrong)

/-- 'perigeelaw6.ProcsGoMatchSpec': WHATEVER THE INPUT: true; the input reads as it did. -/
def procsGoMatchSpecSpec : ChangeSpec := { name := "procsGoMatchSpec", fn := fun _ => fun
  | [d1, d2, d3, d4, d5] => { results := [.lit (.bool true)], args := [d1, d2, d3, d4, d5] }
  | _ => none }
def procsGoMatchSpecRow : OpenClaim := { program := "ythlomdacheeinaa", sum := "60665da07bb5afb0e52de5ec83ffc8803c6e34dd6c88c1493e182b73d14ed596", func := "perigee/perigeelaw6.ProcsGoMatchSpec", spec := "procsGoMatchSpec", unfollowed := true, recurses := true, apart := false }
def ProcsGoMatchSpecSaid : Prop := procsGoMatchSpecRow.holds Try.pinned (OpenSpec.ofChange procsGoMatchSpecSpec)

/-- ITS FALSE NEIGHBOUR: 'it returns false'. Refute it at one input. -/
def procsGoMatchSpecWrong : ChangeSpec := { name := "procsGoMatchSpec", fn := fun _ => fun
  | [d1, d2, d3, d4, d5] => { results := [.lit (.bool false)], args := [d1, d2, d3, d4, d5] }
  | _ => none }
def ProcsGoMatchSpecWrongFalsely : Prop := procsGoMatchSpecRow.holds Try.pinned (OpenSpec.ofChange procsGoMatchSpecWrong)

/-- 'perigeelaw6.ProcsGoOn': WHATEVER THE INPUT: true; the input reads as it did. -/
def procsGoOnSpec : ChangeSpec := { name := "procsGoOn", fn := fun _ => fun
  | [d1, d2, d3, d4, d5, d6] => { results := [.lit (.bool true)], args := [d1, d2, d3, d4, d5, d6] }
  | _ => none }
def procsGoOnRow : OpenClaim := { program := "ythlomdacheeinaa", sum := "60665da07bb5afb0e52de5ec83ffc8803c6e34dd6c88c1493e182b73d14ed596", func := "perigee/perigeelaw6.ProcsGoOn", spec := "procsGoOn", unfollowed := true, recurses := true, apart := false }
def ProcsGoOnSaid : Prop := procsGoOnRow.holds Try.pinned (OpenSpec.ofChange procsGoOnSpec)

/-- ITS FALSE NEIGHBOUR: 'it returns false'. Refute it at one input. -/
def procsGoOnWrong : ChangeSpec := { name := "procsGoOn", fn := fun _ => fun
  | [d1, d2, d3, d4, d5, d6] => { results := [.lit (.bool false)], args := [d1, d2, d3, d4, d5, d6] }
  | _ => none }
def ProcsGoOnWrongFalsely : Prop := procsGoOnRow.holds Try.pinned (OpenSpec.ofChange procsGoOnWrong)

/- THE SECOND FORM. 'bulk': how many values and letters a reading holds, each counted each time it is reached (what is shared counts as often as it is met; a slice's spare places count too). A statement '..UptoSaid' is the law's where the arguments, and the package variables that the reading takes, are together of bulk at most 1048576: NARROWER than '..Said'. Prove '..Said' where nothing that the law and all that it calls make is longer than what came in: it says more and counts as full. Else prove '..UptoSaid'. A law counts once. -/
mutual
def uptoBulk {H : Type} : DataW H → Nat
  | .lit (.string bytes) => bytes.length + 1
  | .lit _ => 1
  | .nil => 1
  | .ptr d => uptoBulk d + 1
  | .slice elems spare => uptoBulkAll elems + uptoBulkAll spare + 1
  | .agg parts => uptoBulkAll parts + 1
  | .iface _ d => uptoBulk d + 1
  | .map entries => uptoBulkEntries entries + 1
  | .held _ => 1
def uptoBulkAll {H : Type} : List (DataW H) → Nat
  | [] => 0
  | d :: r => uptoBulk d + uptoBulkAll r
def uptoBulkEntries {H : Type} : List (Lit × DataW H) → Nat
  | [] => 0
  | x :: r => uptoBulkEntry x + uptoBulkEntries r
def uptoBulkEntry {H : Type} : Lit × DataW H → Nat
  | (.string bytes, d) => bytes.length + uptoBulk d + 1
  | (_, d) => uptoBulk d + 1
 end
def uptoSmall : (H : Type) → List (DataW H) → Bool := fun _ ds => decide (uptoBulkAll ds ≤ 1048576)
def OpenSpec.upto (s : _root_.Go.ChangeSpec) : _root_.Go.OpenSpec := { _root_.Go.OpenSpec.ofChange s with cond := some uptoSmall }

/-- 'perigeelaw6.FactsMatchSpec', WHERE WHAT IT READS IS OF BULK AT MOST 1048576: true; the input reads as it did. -/
def factsMatchSpecUptoRow : OpenClaim := { program := "ythlomdacheeinaa", sum := "60665da07bb5afb0e52de5ec83ffc8803c6e34dd6c88c1493e182b73d14ed596", func := "perigee/perigeelaw6.FactsMatchSpec", spec := "factsMatchSpec", apart := false, narrowed := true }
def FactsMatchSpecUptoSaid : Prop := factsMatchSpecUptoRow.holds Try.pinned (OpenSpec.upto factsMatchSpecSpec)

/-- 'perigeelaw6.ProcsMatchSpec', WHERE WHAT IT READS IS OF BULK AT MOST 1048576: true; the input reads as it did. -/
def procsMatchSpecUptoRow : OpenClaim := { program := "ythlomdacheeinaa", sum := "60665da07bb5afb0e52de5ec83ffc8803c6e34dd6c88c1493e182b73d14ed596", func := "perigee/perigeelaw6.ProcsMatchSpec", spec := "procsMatchSpec", unfollowed := true, recurses := true, apart := false, narrowed := true }
def ProcsMatchSpecUptoSaid : Prop := procsMatchSpecUptoRow.holds Try.pinned (OpenSpec.upto procsMatchSpecSpec)

/-- 'perigeelaw6.ProcsPlacesAreRight', WHERE WHAT IT READS IS OF BULK AT MOST 1048576: true; the input reads as it did. -/
def procsPlacesAreRightUptoRow : OpenClaim := { program := "ythlomdacheeinaa", sum := "60665da07bb5afb0e52de5ec83ffc8803c6e34dd6c88c1493e182b73d14ed596", func := "perigee/perigeelaw6.ProcsPlacesAreRight", spec := "procsPlacesAreRight", unfollowed := true, recurses := true, apart := false, narrowed := true }
def ProcsPlacesAreRightUptoSaid : Prop := procsPlacesAreRightUptoRow.holds Try.pinned (OpenSpec.upto procsPlacesAreRightSpec)

/-- 'perigeelaw6.ProcsGoMatchSpec', WHERE WHAT IT READS IS OF BULK AT MOST 1048576: true; the input reads as it did. -/
def procsGoMatchSpecUptoRow : OpenClaim := { program := "ythlomdacheeinaa", sum := "60665da07bb5afb0e52de5ec83ffc8803c6e34dd6c88c1493e182b73d14ed596", func := "perigee/perigeelaw6.ProcsGoMatchSpec", spec := "procsGoMatchSpec", unfollowed := true, recurses := true, apart := false, narrowed := true }
def ProcsGoMatchSpecUptoSaid : Prop := procsGoMatchSpecUptoRow.holds Try.pinned (OpenSpec.upto procsGoMatchSpecSpec)

/-- 'perigeelaw6.ProcsGoOn', WHERE WHAT IT READS IS OF BULK AT MOST 1048576: true; the input reads as it did. -/
def procsGoOnUptoRow : OpenClaim := { program := "ythlomdacheeinaa", sum := "60665da07bb5afb0e52de5ec83ffc8803c6e34dd6c88c1493e182b73d14ed596", func := "perigee/perigeelaw6.ProcsGoOn", spec := "procsGoOn", unfollowed := true, recurses := true, apart := false, narrowed := true }
def ProcsGoOnUptoSaid : Prop := procsGoOnUptoRow.holds Try.pinned (OpenSpec.upto procsGoOnSpec)

end Rows
end Go.Proofs.Ythlomdacheeinaa
