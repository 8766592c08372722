/-
  No cell of these rows narrows 'for every input' (looked for: loops, veiled, ifaces, maps, wideKeys, modest, calm, conditions, laid).
  DERIVED. THE GIVEN ROWS OF THIS SEAT. 8 by the template 'for every input the law returns true; each argument reads behind the call as it read before'; 0 by the template 'total and deterministic' (their statements: YtdackakjcnnofaaGreatTotals.lean).
  GIVEN WITH THE SEED: the statements are not yours to turn. If you find one false, say at which input.
  Laid BY PROGRAM, IN A SANDBOX (cutbox-rows.mjs): the forced cells as the released guide's own fill.sh prints them over the translation 3c2b5c100943c39e… (all of the seat's roots in one cut). By AI agents, Wed Nov 11 2026. No macro, syntax, notation, axiom, sorry.
-/
import Derived.Test.YtdackakjcnnofaaGreatChecked
import GoSem.Claim
import GoSem.ClaimJoined
import GoSem.ClaimMapViews
import Derived.JoinedTies
import Derived.KernelRfl
namespace Go.Proofs.YtdackakjcnnofaaGreat
/- THE CELL 'sum', in the pinned program and in every row, IS THE sha256 OF THE DUMP (.gsa) THAT YtdackakjcnnofaaGreatProg.lean LOADS. Nothing in Lean hashes anything: it is a label: what it is worth is what the hold of that sum in a sandbox is worth. -/
noncomputable def Tryz.pinned : Pinned := { name := "ytdackakjcnnofaagreat", sum := "3c2b5c100943c39ebc2d2c91bf167ce478d2db1338beab2e79c553f871465638", checked := Tryz.checked }
namespace Rows
def none {H : Type} : Left H := { results := [], args := [] }

/-- 'corsagelaw07.TracesTables': WHATEVER THE INPUT: true; the input reads as it did. -/
def tracesTablesSpec : ChangeSpec := { name := "tracesTables", fn := fun _ => fun
  | [d] => { results := [.lit (.bool true)], args := [d] }
  | _ => none }
def tracesTablesRow : OpenClaim := { program := "ytdackakjcnnofaagreat", sum := "3c2b5c100943c39ebc2d2c91bf167ce478d2db1338beab2e79c553f871465638", func := "corsage/corsagelaw07.TracesTables", spec := "tracesTables", unfollowed := true, recurses := true, plainKeys := false, apart := false }
def TracesTablesSaid : Prop := tracesTablesRow.holds Tryz.pinned (OpenSpec.ofChange tracesTablesSpec)

/-- ITS FALSE NEIGHBOUR: 'it returns false'. Refute it at one input. -/
def tracesTablesWrong : ChangeSpec := { name := "tracesTables", fn := fun _ => fun
  | [d] => { results := [.lit (.bool false)], args := [d] }
  | _ => none }
def TracesTablesWrongFalsely : Prop := tracesTablesRow.holds Tryz.pinned (OpenSpec.ofChange tracesTablesWrong)

/-- 'corsagelaw07.TracesGroups': WHATEVER THE INPUT: true; the input reads as it did. -/
def tracesGroupsSpec : ChangeSpec := { name := "tracesGroups", fn := fun _ => fun
  | [d] => { results := [.lit (.bool true)], args := [d] }
  | _ => none }
def tracesGroupsRow : OpenClaim := { program := "ytdackakjcnnofaagreat", sum := "3c2b5c100943c39ebc2d2c91bf167ce478d2db1338beab2e79c553f871465638", func := "corsage/corsagelaw07.TracesGroups", spec := "tracesGroups", unfollowed := true, recurses := true, plainKeys := false, apart := false }
def TracesGroupsSaid : Prop := tracesGroupsRow.holds Tryz.pinned (OpenSpec.ofChange tracesGroupsSpec)

/-- ITS FALSE NEIGHBOUR: 'it returns false'. Refute it at one input. -/
def tracesGroupsWrong : ChangeSpec := { name := "tracesGroups", fn := fun _ => fun
  | [d] => { results := [.lit (.bool false)], args := [d] }
  | _ => none }
def TracesGroupsWrongFalsely : Prop := tracesGroupsRow.holds Tryz.pinned (OpenSpec.ofChange tracesGroupsWrong)

/-- 'corsagelaw07.TracesBouquets': WHATEVER THE INPUT: true; the input reads as it did. -/
def tracesBouquetsSpec : ChangeSpec := { name := "tracesBouquets", fn := fun _ => fun
  | [d1, d2] => { results := [.lit (.bool true)], args := [d1, d2] }
  | _ => none }
def tracesBouquetsRow : OpenClaim := { program := "ytdackakjcnnofaagreat", sum := "3c2b5c100943c39ebc2d2c91bf167ce478d2db1338beab2e79c553f871465638", func := "corsage/corsagelaw07.TracesBouquets", spec := "tracesBouquets", unfollowed := true, recurses := true, plainKeys := false, apart := false }
def TracesBouquetsSaid : Prop := tracesBouquetsRow.holds Tryz.pinned (OpenSpec.ofChange tracesBouquetsSpec)

/-- ITS FALSE NEIGHBOUR: 'it returns false'. Refute it at one input. -/
def tracesBouquetsWrong : ChangeSpec := { name := "tracesBouquets", fn := fun _ => fun
  | [d1, d2] => { results := [.lit (.bool false)], args := [d1, d2] }
  | _ => none }
def TracesBouquetsWrongFalsely : Prop := tracesBouquetsRow.holds Tryz.pinned (OpenSpec.ofChange tracesBouquetsWrong)

/-- 'corsagelaw07.TracesNormal': WHATEVER THE INPUT: true; the input reads as it did. -/
def tracesNormalSpec : ChangeSpec := { name := "tracesNormal", fn := fun _ => fun
  | [d1, d2] => { results := [.lit (.bool true)], args := [d1, d2] }
  | _ => none }
def tracesNormalRow : OpenClaim := { program := "ytdackakjcnnofaagreat", sum := "3c2b5c100943c39ebc2d2c91bf167ce478d2db1338beab2e79c553f871465638", func := "corsage/corsagelaw07.TracesNormal", spec := "tracesNormal", unfollowed := true, recurses := true, plainKeys := false, apart := false }
def TracesNormalSaid : Prop := tracesNormalRow.holds Tryz.pinned (OpenSpec.ofChange tracesNormalSpec)

/-- ITS FALSE NEIGHBOUR: 'it returns false'. Refute it at one input. -/
def tracesNormalWrong : ChangeSpec := { name := "tracesNormal", fn := fun _ => fun
  | [d1, d2] => { results := [.lit (.bool false)], args := [d1, d2] }
  | _ => none }
def TracesNormalWrongFalsely : Prop := tracesNormalRow.holds Tryz.pinned (OpenSpec.ofChange tracesNormalWrong)

/-- 'corsagelaw07.TracesProducts': WHATEVER THE INPUT: true; the input reads as it did. -/
def tracesProductsSpec : ChangeSpec := { name := "tracesProducts", fn := fun _ => fun
  | [d1, d2, d3] => { results := [.lit (.bool true)], args := [d1, d2, d3] }
  | _ => none }
def tracesProductsRow : OpenClaim := { program := "ytdackakjcnnofaagreat", sum := "3c2b5c100943c39ebc2d2c91bf167ce478d2db1338beab2e79c553f871465638", func := "corsage/corsagelaw07.TracesProducts", spec := "tracesProducts", unfollowed := true, recurses := true, plainKeys := false, apart := false }
def TracesProductsSaid : Prop := tracesProductsRow.holds Tryz.pinned (OpenSpec.ofChange tracesProductsSpec)

/-- ITS FALSE NEIGHBOUR: 'it returns false'. Refute it at one input. -/
def tracesProductsWrong : ChangeSpec := { name := "tracesProducts", fn := fun _ => fun
  | [d1, d2, d3] => { results := [.lit (.bool false)], args := [d1, d2, d3] }
  | _ => none }
def TracesProductsWrongFalsely : Prop := tracesProductsRow.holds Tryz.pinned (OpenSpec.ofChange tracesProductsWrong)

/-- 'corsagelaw07.TracesFixed': WHATEVER THE INPUT: true; the input reads as it did. -/
def tracesFixedSpec : ChangeSpec := { name := "tracesFixed", fn := fun _ => fun
  | [d] => { results := [.lit (.bool true)], args := [d] }
  | _ => none }
def tracesFixedRow : OpenClaim := { program := "ytdackakjcnnofaagreat", sum := "3c2b5c100943c39ebc2d2c91bf167ce478d2db1338beab2e79c553f871465638", func := "corsage/corsagelaw07.TracesFixed", spec := "tracesFixed", unfollowed := true, recurses := true, plainKeys := false, apart := false }
def TracesFixedSaid : Prop := tracesFixedRow.holds Tryz.pinned (OpenSpec.ofChange tracesFixedSpec)

/-- ITS FALSE NEIGHBOUR: 'it returns false'. Refute it at one input. -/
def tracesFixedWrong : ChangeSpec := { name := "tracesFixed", fn := fun _ => fun
  | [d] => { results := [.lit (.bool false)], args := [d] }
  | _ => none }
def TracesFixedWrongFalsely : Prop := tracesFixedRow.holds Tryz.pinned (OpenSpec.ofChange tracesFixedWrong)

/-- 'corsagelaw07.TracesOrthogonal': WHATEVER THE INPUT: true; the input reads as it did. -/
def tracesOrthogonalSpec : ChangeSpec := { name := "tracesOrthogonal", fn := fun _ => fun
  | [d] => { results := [.lit (.bool true)], args := [d] }
  | _ => none }
def tracesOrthogonalRow : OpenClaim := { program := "ytdackakjcnnofaagreat", sum := "3c2b5c100943c39ebc2d2c91bf167ce478d2db1338beab2e79c553f871465638", func := "corsage/corsagelaw07.TracesOrthogonal", spec := "tracesOrthogonal", unfollowed := true, recurses := true, plainKeys := false, apart := false }
def TracesOrthogonalSaid : Prop := tracesOrthogonalRow.holds Tryz.pinned (OpenSpec.ofChange tracesOrthogonalSpec)

/-- ITS FALSE NEIGHBOUR: 'it returns false'. Refute it at one input. -/
def tracesOrthogonalWrong : ChangeSpec := { name := "tracesOrthogonal", fn := fun _ => fun
  | [d] => { results := [.lit (.bool false)], args := [d] }
  | _ => none }
def TracesOrthogonalWrongFalsely : Prop := tracesOrthogonalRow.holds Tryz.pinned (OpenSpec.ofChange tracesOrthogonalWrong)

/-- 'corsagelaw07.TracesKernels': WHATEVER THE INPUT: true; the input reads as it did. -/
def tracesKernelsSpec : ChangeSpec := { name := "tracesKernels", fn := fun _ => fun
  | [d] => { results := [.lit (.bool true)], args := [d] }
  | _ => none }
def tracesKernelsRow : OpenClaim := { program := "ytdackakjcnnofaagreat", sum := "3c2b5c100943c39ebc2d2c91bf167ce478d2db1338beab2e79c553f871465638", func := "corsage/corsagelaw07.TracesKernels", spec := "tracesKernels", unfollowed := true, recurses := true, plainKeys := false, apart := false }
def TracesKernelsSaid : Prop := tracesKernelsRow.holds Tryz.pinned (OpenSpec.ofChange tracesKernelsSpec)

/-- ITS FALSE NEIGHBOUR: 'it returns false'. Refute it at one input. -/
def tracesKernelsWrong : ChangeSpec := { name := "tracesKernels", fn := fun _ => fun
  | [d] => { results := [.lit (.bool false)], args := [d] }
  | _ => none }
def TracesKernelsWrongFalsely : Prop := tracesKernelsRow.holds Tryz.pinned (OpenSpec.ofChange tracesKernelsWrong)

/- THE SECOND FORM. 'bulk': how many values and letters a reading holds, each counted each time it is reached (what is shared counts as often as it is met; a slice's spare places count too). A statement '..UptoSaid' is the law's where the arguments, and the package variables that the reading takes, are together of bulk at most 1048576: NARROWER than '..Said'. Prove '..Said' where nothing that the law and all that it calls make is longer than what came in: it says more and counts as full. Else prove '..UptoSaid'. A law counts once. -/
mutual
def uptoBulk {H : Type} : DataW H → Nat
  | .lit (.string bytes) => bytes.length + 1
  | .lit _ => 1
  | .nil => 1
  | .ptr d => uptoBulk d + 1
  | .slice elems spare => uptoBulkAll elems + uptoBulkAll spare + 1
  | .agg parts => uptoBulkAll parts + 1
  | .iface _ d => uptoBulk d + 1
  | .map entries => uptoBulkEntries entries + 1
  | .held _ => 1
def uptoBulkAll {H : Type} : List (DataW H) → Nat
  | [] => 0
  | d :: r => uptoBulk d + uptoBulkAll r
def uptoBulkEntries {H : Type} : List (Lit × DataW H) → Nat
  | [] => 0
  | x :: r => uptoBulkEntry x + uptoBulkEntries r
def uptoBulkEntry {H : Type} : Lit × DataW H → Nat
  | (.string bytes, d) => bytes.length + uptoBulk d + 1
  | (_, d) => uptoBulk d + 1
 end
def uptoSmall : (H : Type) → List (DataW H) → Bool := fun _ ds => decide (uptoBulkAll ds ≤ 1048576)
def OpenSpec.upto (s : _root_.Go.ChangeSpec) : _root_.Go.OpenSpec := { _root_.Go.OpenSpec.ofChange s with cond := some uptoSmall }

/-- 'corsagelaw07.TracesTables', WHERE WHAT IT READS IS OF BULK AT MOST 1048576: true; the input reads as it did. -/
def tracesTablesUptoRow : OpenClaim := { program := "ytdackakjcnnofaagreat", sum := "3c2b5c100943c39ebc2d2c91bf167ce478d2db1338beab2e79c553f871465638", func := "corsage/corsagelaw07.TracesTables", spec := "tracesTables", unfollowed := true, recurses := true, plainKeys := false, apart := false, narrowed := true }
def TracesTablesUptoSaid : Prop := tracesTablesUptoRow.holds Tryz.pinned (OpenSpec.upto tracesTablesSpec)

/-- 'corsagelaw07.TracesGroups', WHERE WHAT IT READS IS OF BULK AT MOST 1048576: true; the input reads as it did. -/
def tracesGroupsUptoRow : OpenClaim := { program := "ytdackakjcnnofaagreat", sum := "3c2b5c100943c39ebc2d2c91bf167ce478d2db1338beab2e79c553f871465638", func := "corsage/corsagelaw07.TracesGroups", spec := "tracesGroups", unfollowed := true, recurses := true, plainKeys := false, apart := false, narrowed := true }
def TracesGroupsUptoSaid : Prop := tracesGroupsUptoRow.holds Tryz.pinned (OpenSpec.upto tracesGroupsSpec)

/-- 'corsagelaw07.TracesBouquets', WHERE WHAT IT READS IS OF BULK AT MOST 1048576: true; the input reads as it did. -/
def tracesBouquetsUptoRow : OpenClaim := { program := "ytdackakjcnnofaagreat", sum := "3c2b5c100943c39ebc2d2c91bf167ce478d2db1338beab2e79c553f871465638", func := "corsage/corsagelaw07.TracesBouquets", spec := "tracesBouquets", unfollowed := true, recurses := true, plainKeys := false, apart := false, narrowed := true }
def TracesBouquetsUptoSaid : Prop := tracesBouquetsUptoRow.holds Tryz.pinned (OpenSpec.upto tracesBouquetsSpec)

/-- 'corsagelaw07.TracesNormal', WHERE WHAT IT READS IS OF BULK AT MOST 1048576: true; the input reads as it did. -/
def tracesNormalUptoRow : OpenClaim := { program := "ytdackakjcnnofaagreat", sum := "3c2b5c100943c39ebc2d2c91bf167ce478d2db1338beab2e79c553f871465638", func := "corsage/corsagelaw07.TracesNormal", spec := "tracesNormal", unfollowed := true, recurses := true, plainKeys := false, apart := false, narrowed := true }
def TracesNormalUptoSaid : Prop := tracesNormalUptoRow.holds Tryz.pinned (OpenSpec.upto tracesNormalSpec)

/-- 'corsagelaw07.TracesProducts', WHERE WHAT IT READS IS OF BULK AT MOST 1048576: true; the input reads as it did. -/
def tracesProductsUptoRow : OpenClaim := { program := "ytdackakjcnnofaagreat", sum := "3c2b5c100943c39ebc2d2c91bf167ce478d2db1338beab2e79c553f871465638", func := "corsage/corsagelaw07.TracesProducts", spec := "tracesProducts", unfollowed := true, recurses := true, plainKeys := false, apart := false, narrowed := true }
def TracesProductsUptoSaid : Prop := tracesProductsUptoRow.holds Tryz.pinned (OpenSpec.upto tracesProductsSpec)

/-- 'corsagelaw07.TracesFixed', WHERE WHAT IT READS IS OF BULK AT MOST 1048576: true; the input reads as it did. -/
def tracesFixedUptoRow : OpenClaim := { program := "ytdackakjcnnofaagreat", sum := "3c2b5c100943c39ebc2d2c91bf167ce478d2db1338beab2e79c553f871465638", func := "corsage/corsagelaw07.TracesFixed", spec := "tracesFixed", unfollowed := true, recurses := true, plainKeys := false, apart := false, narrowed := true }
def TracesFixedUptoSaid : Prop := tracesFixedUptoRow.holds Tryz.pinned (OpenSpec.upto tracesFixedSpec)

/-- 'corsagelaw07.TracesOrthogonal', WHERE WHAT IT READS IS OF BULK AT MOST 1048576: true; the input reads as it did. -/
def tracesOrthogonalUptoRow : OpenClaim := { program := "ytdackakjcnnofaagreat", sum := "3c2b5c100943c39ebc2d2c91bf167ce478d2db1338beab2e79c553f871465638", func := "corsage/corsagelaw07.TracesOrthogonal", spec := "tracesOrthogonal", unfollowed := true, recurses := true, plainKeys := false, apart := false, narrowed := true }
def TracesOrthogonalUptoSaid : Prop := tracesOrthogonalUptoRow.holds Tryz.pinned (OpenSpec.upto tracesOrthogonalSpec)

/-- 'corsagelaw07.TracesKernels', WHERE WHAT IT READS IS OF BULK AT MOST 1048576: true; the input reads as it did. -/
def tracesKernelsUptoRow : OpenClaim := { program := "ytdackakjcnnofaagreat", sum := "3c2b5c100943c39ebc2d2c91bf167ce478d2db1338beab2e79c553f871465638", func := "corsage/corsagelaw07.TracesKernels", spec := "tracesKernels", unfollowed := true, recurses := true, plainKeys := false, apart := false, narrowed := true }
def TracesKernelsUptoSaid : Prop := tracesKernelsUptoRow.holds Tryz.pinned (OpenSpec.upto tracesKernelsSpec)

end Rows
end Go.Proofs.YtdackakjcnnofaaGreat
