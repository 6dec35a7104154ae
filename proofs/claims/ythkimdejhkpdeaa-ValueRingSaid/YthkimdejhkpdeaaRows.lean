/-
  NARROWER THAN 'FOR EVERY INPUT', by the rows' own cells (each row's printed sentence says how): KindBack: loops · KindMakes: loops · KindChecks: loops · CoderGets: loops.
  DERIVED. THE GIVEN ROWS OF THIS SEAT. 8 by the template 'for every input the law returns true; each argument reads behind the call as it read before'; 0 by the template 'total and deterministic' (their statements: YthkimdejhkpdeaaTotals.lean).
  GIVEN WITH THE SEED: the statements are not yours to turn. If you find one false, say at which input.
  Laid BY PROGRAM, IN A SANDBOX (cutbox-rows.mjs): the forced cells as the released guide's own fill.sh prints them over the translation 35659e439965baed… (all of the seat's roots in one cut). By AI agents, Wed Nov 11 2026. No macro, syntax, notation, axiom, sorry.
-/
import Derived.Test.YthkimdejhkpdeaaChecked
import GoSem.Claim
import GoSem.ClaimJoined
import GoSem.ClaimMapViews
import Derived.JoinedTies
import Derived.KernelRfl
namespace Go.Proofs.Ythkimdejhkpdeaa
/- THE CELL 'sum', in the pinned program and in every row, IS THE sha256 OF THE DUMP (.gsa) THAT YthkimdejhkpdeaaProg.lean LOADS. Nothing in Lean hashes anything: it is a label: what it is worth is what the hold of that sum in a sandbox is worth. -/
noncomputable def Try.pinned : Pinned := { name := "ythkimdejhkpdeaa", sum := "35659e439965baeddcc86859573aa545261da82714968430af30bf1ca084c561", checked := Try.checked }
namespace Rows
def none {H : Type} : Left H := { results := [], args := [] }

/-- 'watershedlaw02.KindParses': WHATEVER THE INPUT: true; the input reads as it did. -/
def kindParsesSpec : ChangeSpec := { name := "kindParses", fn := fun _ => fun
  | [d] => { results := [.lit (.bool true)], args := [d] }
  | _ => none }
def kindParsesRow : OpenClaim := { program := "ythkimdejhkpdeaa", sum := "35659e439965baeddcc86859573aa545261da82714968430af30bf1ca084c561", func := "watershed/watershedlaw02.KindParses", spec := "kindParses", inPlace := ["internal/abi.NoEscape"], unfollowed := true, recurses := true, apart := false }
def KindParsesSaid : Prop := kindParsesRow.holds Try.pinned (OpenSpec.ofChange kindParsesSpec)

/-- ITS FALSE NEIGHBOUR: 'it returns false'. Refute it at one input. -/
def kindParsesWrong : ChangeSpec := { name := "kindParses", fn := fun _ => fun
  | [d] => { results := [.lit (.bool false)], args := [d] }
  | _ => none }
def KindParsesWrongFalsely : Prop := kindParsesRow.holds Try.pinned (OpenSpec.ofChange kindParsesWrong)

/-- 'watershedlaw02.KindPrefix': WHATEVER THE INPUT: true; the input reads as it did. -/
def kindPrefixSpec : ChangeSpec := { name := "kindPrefix", fn := fun _ => fun
  | [d1, d2] => { results := [.lit (.bool true)], args := [d1, d2] }
  | _ => none }
def kindPrefixRow : OpenClaim := { program := "ythkimdejhkpdeaa", sum := "35659e439965baeddcc86859573aa545261da82714968430af30bf1ca084c561", func := "watershed/watershedlaw02.KindPrefix", spec := "kindPrefix", inPlace := ["internal/abi.NoEscape"], unfollowed := true, recurses := true, apart := false }
def KindPrefixSaid : Prop := kindPrefixRow.holds Try.pinned (OpenSpec.ofChange kindPrefixSpec)

/-- ITS FALSE NEIGHBOUR: 'it returns false'. Refute it at one input. -/
def kindPrefixWrong : ChangeSpec := { name := "kindPrefix", fn := fun _ => fun
  | [d1, d2] => { results := [.lit (.bool false)], args := [d1, d2] }
  | _ => none }
def KindPrefixWrongFalsely : Prop := kindPrefixRow.holds Try.pinned (OpenSpec.ofChange kindPrefixWrong)

/-- 'watershedlaw02.KindBack': WHATEVER THE INPUT: true; the input reads as it did. -/
def kindBackSpec : ChangeSpec := { name := "kindBack", fn := fun _ => fun
  | [d1, d2] => { results := [.lit (.bool true)], args := [d1, d2] }
  | _ => none }
def kindBackRow : OpenClaim := { program := "ythkimdejhkpdeaa", sum := "35659e439965baeddcc86859573aa545261da82714968430af30bf1ca084c561", func := "watershed/watershedlaw02.KindBack", spec := "kindBack", inPlace := ["internal/abi.NoEscape"], unfollowed := true, recurses := true, loops := true, apart := false }
def KindBackSaid : Prop := kindBackRow.holds Try.pinned (OpenSpec.ofChange kindBackSpec)

/-- ITS FALSE NEIGHBOUR: 'it returns false'. Refute it at one input. -/
def kindBackWrong : ChangeSpec := { name := "kindBack", fn := fun _ => fun
  | [d1, d2] => { results := [.lit (.bool false)], args := [d1, d2] }
  | _ => none }
def KindBackWrongFalsely : Prop := kindBackRow.holds Try.pinned (OpenSpec.ofChange kindBackWrong)

/-- 'watershedlaw02.KindMakes': WHATEVER THE INPUT: true; the input reads as it did. -/
def kindMakesSpec : ChangeSpec := { name := "kindMakes", fn := fun _ => fun
  | [d1, d2] => { results := [.lit (.bool true)], args := [d1, d2] }
  | _ => none }
def kindMakesRow : OpenClaim := { program := "ythkimdejhkpdeaa", sum := "35659e439965baeddcc86859573aa545261da82714968430af30bf1ca084c561", func := "watershed/watershedlaw02.KindMakes", spec := "kindMakes", inPlace := ["internal/abi.NoEscape"], unfollowed := true, recurses := true, loops := true, apart := false }
def KindMakesSaid : Prop := kindMakesRow.holds Try.pinned (OpenSpec.ofChange kindMakesSpec)

/-- ITS FALSE NEIGHBOUR: 'it returns false'. Refute it at one input. -/
def kindMakesWrong : ChangeSpec := { name := "kindMakes", fn := fun _ => fun
  | [d1, d2] => { results := [.lit (.bool false)], args := [d1, d2] }
  | _ => none }
def KindMakesWrongFalsely : Prop := kindMakesRow.holds Try.pinned (OpenSpec.ofChange kindMakesWrong)

/-- 'watershedlaw01.ValueTurns': WHATEVER THE INPUT: true; the input reads as it did. -/
def valueTurnsSpec : ChangeSpec := { name := "valueTurns", fn := fun _ => fun
  | [d1, d2, d3] => { results := [.lit (.bool true)], args := [d1, d2, d3] }
  | _ => none }
def valueTurnsRow : OpenClaim := { program := "ythkimdejhkpdeaa", sum := "35659e439965baeddcc86859573aa545261da82714968430af30bf1ca084c561", func := "watershed/watershedlaw01.ValueTurns", spec := "valueTurns", inPlace := ["internal/bytealg.abigen_runtime_cmpstring"], unfollowed := true, recurses := true, apart := false }
def ValueTurnsSaid : Prop := valueTurnsRow.holds Try.pinned (OpenSpec.ofChange valueTurnsSpec)

/-- ITS FALSE NEIGHBOUR: 'it returns false'. Refute it at one input. -/
def valueTurnsWrong : ChangeSpec := { name := "valueTurns", fn := fun _ => fun
  | [d1, d2, d3] => { results := [.lit (.bool false)], args := [d1, d2, d3] }
  | _ => none }
def ValueTurnsWrongFalsely : Prop := valueTurnsRow.holds Try.pinned (OpenSpec.ofChange valueTurnsWrong)

/-- 'watershedlaw01.ValueRing': WHATEVER THE INPUT: true; the input reads as it did. -/
def valueRingSpec : ChangeSpec := { name := "valueRing", fn := fun _ => fun
  | [d1, d2, d3] => { results := [.lit (.bool true)], args := [d1, d2, d3] }
  | _ => none }
def valueRingRow : OpenClaim := { program := "ythkimdejhkpdeaa", sum := "35659e439965baeddcc86859573aa545261da82714968430af30bf1ca084c561", func := "watershed/watershedlaw01.ValueRing", spec := "valueRing", inPlace := ["internal/bytealg.abigen_runtime_cmpstring"], unfollowed := true, recurses := true, apart := false }
def ValueRingSaid : Prop := valueRingRow.holds Try.pinned (OpenSpec.ofChange valueRingSpec)

/-- ITS FALSE NEIGHBOUR: 'it returns false'. Refute it at one input. -/
def valueRingWrong : ChangeSpec := { name := "valueRing", fn := fun _ => fun
  | [d1, d2, d3] => { results := [.lit (.bool false)], args := [d1, d2, d3] }
  | _ => none }
def ValueRingWrongFalsely : Prop := valueRingRow.holds Try.pinned (OpenSpec.ofChange valueRingWrong)

/-- 'watershedlaw02.KindChecks': WHATEVER THE INPUT: true; the input reads as it did. -/
def kindChecksSpec : ChangeSpec := { name := "kindChecks", fn := fun _ => fun
  | [d1, d2] => { results := [.lit (.bool true)], args := [d1, d2] }
  | _ => none }
def kindChecksRow : OpenClaim := { program := "ythkimdejhkpdeaa", sum := "35659e439965baeddcc86859573aa545261da82714968430af30bf1ca084c561", func := "watershed/watershedlaw02.KindChecks", spec := "kindChecks", inPlace := ["internal/abi.NoEscape"], unfollowed := true, recurses := true, loops := true, apart := false }
def KindChecksSaid : Prop := kindChecksRow.holds Try.pinned (OpenSpec.ofChange kindChecksSpec)

/-- ITS FALSE NEIGHBOUR: 'it returns false'. Refute it at one input. -/
def kindChecksWrong : ChangeSpec := { name := "kindChecks", fn := fun _ => fun
  | [d1, d2] => { results := [.lit (.bool false)], args := [d1, d2] }
  | _ => none }
def KindChecksWrongFalsely : Prop := kindChecksRow.holds Try.pinned (OpenSpec.ofChange kindChecksWrong)

/-- 'watershedlaw03.CoderGets': WHATEVER THE INPUT: true; the input reads as it did. -/
def coderGetsSpec : ChangeSpec := { name := "coderGets", fn := fun _ => fun
  | [d1, d2] => { results := [.lit (.bool true)], args := [d1, d2] }
  | _ => none }
def coderGetsRow : OpenClaim := { program := "ythkimdejhkpdeaa", sum := "35659e439965baeddcc86859573aa545261da82714968430af30bf1ca084c561", func := "watershed/watershedlaw03.CoderGets", spec := "coderGets", unfollowed := true, recurses := true, loops := true, apart := false }
def CoderGetsSaid : Prop := coderGetsRow.holds Try.pinned (OpenSpec.ofChange coderGetsSpec)

/-- ITS FALSE NEIGHBOUR: 'it returns false'. Refute it at one input. -/
def coderGetsWrong : ChangeSpec := { name := "coderGets", fn := fun _ => fun
  | [d1, d2] => { results := [.lit (.bool false)], args := [d1, d2] }
  | _ => none }
def CoderGetsWrongFalsely : Prop := coderGetsRow.holds Try.pinned (OpenSpec.ofChange coderGetsWrong)

/- THE SECOND FORM. 'bulk': how many values and letters a reading holds, each counted each time it is reached (what is shared counts as often as it is met; a slice's spare places count too). A statement '..UptoSaid' is the law's where the arguments, and the package variables that the reading takes, are together of bulk at most 1048576: NARROWER than '..Said'. Prove '..Said' where nothing that the law and all that it calls make is longer than what came in: it says more and counts as full. Else prove '..UptoSaid'. A law counts once. -/
mutual
def uptoBulk {H : Type} : DataW H → Nat
  | .lit (.string bytes) => bytes.length + 1
  | .lit _ => 1
  | .nil => 1
  | .ptr d => uptoBulk d + 1
  | .slice elems spare => uptoBulkAll elems + uptoBulkAll spare + 1
  | .agg parts => uptoBulkAll parts + 1
  | .iface _ d => uptoBulk d + 1
  | .map entries => uptoBulkEntries entries + 1
  | .held _ => 1
def uptoBulkAll {H : Type} : List (DataW H) → Nat
  | [] => 0
  | d :: r => uptoBulk d + uptoBulkAll r
def uptoBulkEntries {H : Type} : List (Lit × DataW H) → Nat
  | [] => 0
  | x :: r => uptoBulkEntry x + uptoBulkEntries r
def uptoBulkEntry {H : Type} : Lit × DataW H → Nat
  | (.string bytes, d) => bytes.length + uptoBulk d + 1
  | (_, d) => uptoBulk d + 1
 end
def uptoSmall : (H : Type) → List (DataW H) → Bool := fun _ ds => decide (uptoBulkAll ds ≤ 1048576)
def OpenSpec.upto (s : _root_.Go.ChangeSpec) : _root_.Go.OpenSpec := { _root_.Go.OpenSpec.ofChange s with cond := some uptoSmall }

/-- 'watershedlaw02.KindParses', WHERE WHAT IT READS IS OF BULK AT MOST 1048576: true; the input reads as it did. -/
def kindParsesUptoRow : OpenClaim := { program := "ythkimdejhkpdeaa", sum := "35659e439965baeddcc86859573aa545261da82714968430af30bf1ca084c561", func := "watershed/watershedlaw02.KindParses", spec := "kindParses", inPlace := ["internal/abi.NoEscape"], unfollowed := true, recurses := true, apart := false, narrowed := true }
def KindParsesUptoSaid : Prop := kindParsesUptoRow.holds Try.pinned (OpenSpec.upto kindParsesSpec)

/-- 'watershedlaw02.KindPrefix', WHERE WHAT IT READS IS OF BULK AT MOST 1048576: true; the input reads as it did. -/
def kindPrefixUptoRow : OpenClaim := { program := "ythkimdejhkpdeaa", sum := "35659e439965baeddcc86859573aa545261da82714968430af30bf1ca084c561", func := "watershed/watershedlaw02.KindPrefix", spec := "kindPrefix", inPlace := ["internal/abi.NoEscape"], unfollowed := true, recurses := true, apart := false, narrowed := true }
def KindPrefixUptoSaid : Prop := kindPrefixUptoRow.holds Try.pinned (OpenSpec.upto kindPrefixSpec)

/-- 'watershedlaw02.KindBack', WHERE WHAT IT READS IS OF BULK AT MOST 1048576: true; the input reads as it did. -/
def kindBackUptoRow : OpenClaim := { program := "ythkimdejhkpdeaa", sum := "35659e439965baeddcc86859573aa545261da82714968430af30bf1ca084c561", func := "watershed/watershedlaw02.KindBack", spec := "kindBack", inPlace := ["internal/abi.NoEscape"], unfollowed := true, recurses := true, loops := true, apart := false, narrowed := true }
def KindBackUptoSaid : Prop := kindBackUptoRow.holds Try.pinned (OpenSpec.upto kindBackSpec)

/-- 'watershedlaw02.KindMakes', WHERE WHAT IT READS IS OF BULK AT MOST 1048576: true; the input reads as it did. -/
def kindMakesUptoRow : OpenClaim := { program := "ythkimdejhkpdeaa", sum := "35659e439965baeddcc86859573aa545261da82714968430af30bf1ca084c561", func := "watershed/watershedlaw02.KindMakes", spec := "kindMakes", inPlace := ["internal/abi.NoEscape"], unfollowed := true, recurses := true, loops := true, apart := false, narrowed := true }
def KindMakesUptoSaid : Prop := kindMakesUptoRow.holds Try.pinned (OpenSpec.upto kindMakesSpec)

/-- 'watershedlaw01.ValueTurns', WHERE WHAT IT READS IS OF BULK AT MOST 1048576: true; the input reads as it did. -/
def valueTurnsUptoRow : OpenClaim := { program := "ythkimdejhkpdeaa", sum := "35659e439965baeddcc86859573aa545261da82714968430af30bf1ca084c561", func := "watershed/watershedlaw01.ValueTurns", spec := "valueTurns", inPlace := ["internal/bytealg.abigen_runtime_cmpstring"], unfollowed := true, recurses := true, apart := false, narrowed := true }
def ValueTurnsUptoSaid : Prop := valueTurnsUptoRow.holds Try.pinned (OpenSpec.upto valueTurnsSpec)

/-- 'watershedlaw01.ValueRing', WHERE WHAT IT READS IS OF BULK AT MOST 1048576: true; the input reads as it did. -/
def valueRingUptoRow : OpenClaim := { program := "ythkimdejhkpdeaa", sum := "35659e439965baeddcc86859573aa545261da82714968430af30bf1ca084c561", func := "watershed/watershedlaw01.ValueRing", spec := "valueRing", inPlace := ["internal/bytealg.abigen_runtime_cmpstring"], unfollowed := true, recurses := true, apart := false, narrowed := true }
def ValueRingUptoSaid : Prop := valueRingUptoRow.holds Try.pinned (OpenSpec.upto valueRingSpec)

/-- 'watershedlaw02.KindChecks', WHERE WHAT IT READS IS OF BULK AT MOST 1048576: true; the input reads as it did. -/
def kindChecksUptoRow : OpenClaim := { program := "ythkimdejhkpdeaa", sum := "35659e439965baeddcc86859573aa545261da82714968430af30bf1ca084c561", func := "watershed/watershedlaw02.KindChecks", spec := "kindChecks", inPlace := ["internal/abi.NoEscape"], unfollowed := true, recurses := true, loops := true, apart := false, narrowed := true }
def KindChecksUptoSaid : Prop := kindChecksUptoRow.holds Try.pinned (OpenSpec.upto kindChecksSpec)

/-- 'watershedlaw03.CoderGets', WHERE WHAT IT READS IS OF BULK AT MOST 1048576: true; the input reads as it did. -/
def coderGetsUptoRow : OpenClaim := { program := "ythkimdejhkpdeaa", sum := "35659e439965baeddcc86859573aa545261da82714968430af30bf1ca084c561", func := "watershed/watershedlaw03.CoderGets", spec := "coderGets", unfollowed := true, recurses := true, loops := true, apart := false, narrowed := true }
def CoderGetsUptoSaid : Prop := coderGetsUptoRow.holds Try.pinned (OpenSpec.upto coderGetsSpec)

end Rows
end Go.Proofs.Ythkimdejhkpdeaa
