/-
  No cell of these rows narrows 'for every input' (looked for: loops, veiled, ifaces, maps, wideKeys, modest, calm, conditions, laid).
  DERIVED. THE GIVEN ROWS OF THIS SEAT. 5 by the template 'for every input the law returns true; each argument reads behind the call as it read before'; 0 by the template 'total and deterministic' (their statements: YtehiabiahipkhaaGreatTotals.lean).
  GIVEN WITH THE SEED: the statements are not yours to turn. If you find one false, say at which input.
  Laid BY PROGRAM, IN A SANDBOX (cutbox-rows.mjs): the forced cells as the released guide's own fill.sh prints them over the translation 3e44ec32684e620f… (all of the seat's roots in one cut). By AI agents, Wed Nov 11 2026. No macro, syntax, notation, axiom, sorry.
-/
import Derived.Test.YtehiabiahipkhaaGreatChecked
import GoSem.Claim
import GoSem.ClaimJoined
import GoSem.ClaimMapViews
import Derived.JoinedTies
import Derived.KernelRfl
namespace Go.Proofs.YtehiabiahipkhaaGreat
/- THE CELL 'sum', in the pinned program and in every row, IS THE sha256 OF THE DUMP (.gsa) THAT YtehiabiahipkhaaGreatProg.lean LOADS. Nothing in Lean hashes anything: it is a label: what it is worth is what the hold of that sum in a sandbox is worth. -/
noncomputable def Tryz.pinned : Pinned := { name := "ytehiabiahipkhaagreat", sum := "3e44ec32684e620ff056511594700002da1928e12d69bc828fe05191bd05d3d3", checked := Tryz.checked }
namespace Rows
def none {H : Type} : Left H := { results := [], args := [] }

/-- 'facetlaw23.PattersonExacts': WHATEVER THE INPUT: true; the input reads as it did. -/
def pattersonExactsSpec : ChangeSpec := { name := "pattersonExacts", fn := fun _ => fun
  | [d] => { results := [.lit (.bool true)], args := [d] }
  | _ => none }
def pattersonExactsRow : OpenClaim := { program := "ytehiabiahipkhaagreat", sum := "3e44ec32684e620ff056511594700002da1928e12d69bc828fe05191bd05d3d3", func := "facet/facetlaw23.PattersonExacts", spec := "pattersonExacts", inPlace := ["math/bits.Add64", "internal/reflectlite.ValueOf", "internal/reflectlite.Swapper", "(internal/reflectlite.Value).Len", "math.Float64frombits"], unfollowed := true, recurses := true, named := ["math/bits.divideError", "math/bits.overflowError"], plainKeys := false, apart := false }
def PattersonExactsSaid : Prop := pattersonExactsRow.holds Tryz.pinned (OpenSpec.ofChange pattersonExactsSpec)

/-- ITS FALSE NEIGHBOUR: 'it returns false'. Refute it at one input. -/
def pattersonExactsWrong : ChangeSpec := { name := "pattersonExacts", fn := fun _ => fun
  | [d] => { results := [.lit (.bool false)], args := [d] }
  | _ => none }
def PattersonExactsWrongFalsely : Prop := pattersonExactsRow.holds Tryz.pinned (OpenSpec.ofChange pattersonExactsWrong)

/-- 'facetlaw23.PattersonPeaks': WHATEVER THE INPUT: true; the input reads as it did. -/
def pattersonPeaksSpec : ChangeSpec := { name := "pattersonPeaks", fn := fun _ => fun
  | [d1, d2] => { results := [.lit (.bool true)], args := [d1, d2] }
  | _ => none }
def pattersonPeaksRow : OpenClaim := { program := "ytehiabiahipkhaagreat", sum := "3e44ec32684e620ff056511594700002da1928e12d69bc828fe05191bd05d3d3", func := "facet/facetlaw23.PattersonPeaks", spec := "pattersonPeaks", inPlace := ["math/bits.Add64", "internal/reflectlite.ValueOf", "internal/reflectlite.Swapper", "(internal/reflectlite.Value).Len", "math.Float64frombits"], unfollowed := true, recurses := true, named := ["math/bits.divideError", "math/bits.overflowError"], plainKeys := false, apart := false }
def PattersonPeaksSaid : Prop := pattersonPeaksRow.holds Tryz.pinned (OpenSpec.ofChange pattersonPeaksSpec)

/-- ITS FALSE NEIGHBOUR: 'it returns false'. Refute it at one input. -/
def pattersonPeaksWrong : ChangeSpec := { name := "pattersonPeaks", fn := fun _ => fun
  | [d1, d2] => { results := [.lit (.bool false)], args := [d1, d2] }
  | _ => none }
def PattersonPeaksWrongFalsely : Prop := pattersonPeaksRow.holds Tryz.pinned (OpenSpec.ofChange pattersonPeaksWrong)

/-- 'facetlaw23.PattersonLaws': WHATEVER THE INPUT: true; the input reads as it did. -/
def pattersonLawsSpec : ChangeSpec := { name := "pattersonLaws", fn := fun _ => fun
  | [d1, d2, d3] => { results := [.lit (.bool true)], args := [d1, d2, d3] }
  | _ => none }
def pattersonLawsRow : OpenClaim := { program := "ytehiabiahipkhaagreat", sum := "3e44ec32684e620ff056511594700002da1928e12d69bc828fe05191bd05d3d3", func := "facet/facetlaw23.PattersonLaws", spec := "pattersonLaws", inPlace := ["math/bits.Add64", "internal/reflectlite.ValueOf", "internal/reflectlite.Swapper", "(internal/reflectlite.Value).Len", "math.Float64frombits"], unfollowed := true, recurses := true, named := ["math/bits.divideError", "math/bits.overflowError"], plainKeys := false, apart := false }
def PattersonLawsSaid : Prop := pattersonLawsRow.holds Tryz.pinned (OpenSpec.ofChange pattersonLawsSpec)

/-- ITS FALSE NEIGHBOUR: 'it returns false'. Refute it at one input. -/
def pattersonLawsWrong : ChangeSpec := { name := "pattersonLaws", fn := fun _ => fun
  | [d1, d2, d3] => { results := [.lit (.bool false)], args := [d1, d2, d3] }
  | _ => none }
def PattersonLawsWrongFalsely : Prop := pattersonLawsRow.holds Tryz.pinned (OpenSpec.ofChange pattersonLawsWrong)

/-- 'facetlaw23.PattersonTops': WHATEVER THE INPUT: true; the input reads as it did. -/
def pattersonTopsSpec : ChangeSpec := { name := "pattersonTops", fn := fun _ => fun
  | [d1, d2, d3, d4] => { results := [.lit (.bool true)], args := [d1, d2, d3, d4] }
  | _ => none }
def pattersonTopsRow : OpenClaim := { program := "ytehiabiahipkhaagreat", sum := "3e44ec32684e620ff056511594700002da1928e12d69bc828fe05191bd05d3d3", func := "facet/facetlaw23.PattersonTops", spec := "pattersonTops", inPlace := ["math/bits.Add64", "internal/reflectlite.ValueOf", "internal/reflectlite.Swapper", "(internal/reflectlite.Value).Len", "math.Float64frombits"], unfollowed := true, recurses := true, named := ["math/bits.divideError", "math/bits.overflowError"], plainKeys := false, apart := false }
def PattersonTopsSaid : Prop := pattersonTopsRow.holds Tryz.pinned (OpenSpec.ofChange pattersonTopsSpec)

/-- ITS FALSE NEIGHBOUR: 'it returns false'. Refute it at one input. -/
def pattersonTopsWrong : ChangeSpec := { name := "pattersonTops", fn := fun _ => fun
  | [d1, d2, d3, d4] => { results := [.lit (.bool false)], args := [d1, d2, d3, d4] }
  | _ => none }
def PattersonTopsWrongFalsely : Prop := pattersonTopsRow.holds Tryz.pinned (OpenSpec.ofChange pattersonTopsWrong)

/-- 'facetlaw23.PattersonTurned': WHATEVER THE INPUT: true; the input reads as it did. -/
def pattersonTurnedSpec : ChangeSpec := { name := "pattersonTurned", fn := fun _ => fun
  | [d1, d2] => { results := [.lit (.bool true)], args := [d1, d2] }
  | _ => none }
def pattersonTurnedRow : OpenClaim := { program := "ytehiabiahipkhaagreat", sum := "3e44ec32684e620ff056511594700002da1928e12d69bc828fe05191bd05d3d3", func := "facet/facetlaw23.PattersonTurned", spec := "pattersonTurned", inPlace := ["math/bits.Add64", "internal/reflectlite.ValueOf", "internal/reflectlite.Swapper", "(internal/reflectlite.Value).Len", "math.Float64frombits"], unfollowed := true, recurses := true, named := ["math/bits.divideError", "math/bits.overflowError"], plainKeys := false, apart := false }
def PattersonTurnedSaid : Prop := pattersonTurnedRow.holds Tryz.pinned (OpenSpec.ofChange pattersonTurnedSpec)

/-- ITS FALSE NEIGHBOUR: 'it returns false'. Refute it at one input. -/
def pattersonTurnedWrong : ChangeSpec := { name := "pattersonTurned", fn := fun _ => fun
  | [d1, d2] => { results := [.lit (.bool false)], args := [d1, d2] }
  | _ => none }
def PattersonTurnedWrongFalsely : Prop := pattersonTurnedRow.holds Tryz.pinned (OpenSpec.ofChange pattersonTurnedWrong)

/- THE SECOND FORM. 'bulk': how many values and letters a reading holds, each counted each time it is reached (what is shared counts as often as it is met; a slice's spare places count too). A statement '..UptoSaid' is the law's where the arguments, and the package variables that the reading takes, are together of bulk at most 1048576: NARROWER than '..Said'. Prove '..Said' where nothing that the law and all that it calls make is longer than what came in: it says more and counts as full. Else prove '..UptoSaid'. A law counts once. -/
mutual
def uptoBulk {H : Type} : DataW H → Nat
  | .lit (.string bytes) => bytes.length + 1
  | .lit _ => 1
  | .nil => 1
  | .ptr d => uptoBulk d + 1
  | .slice elems spare => uptoBulkAll elems + uptoBulkAll spare + 1
  | .agg parts => uptoBulkAll parts + 1
  | .iface _ d => uptoBulk d + 1
  | .map entries => uptoBulkEntries entries + 1
  | .held _ => 1
def uptoBulkAll {H : Type} : List (DataW H) → Nat
  | [] => 0
  | d :: r => uptoBulk d + uptoBulkAll r
def uptoBulkEntries {H : Type} : List (Lit × DataW H) → Nat
  | [] => 0
  | x :: r => uptoBulkEntry x + uptoBulkEntries r
def uptoBulkEntry {H : Type} : Lit × DataW H → Nat
  | (.string bytes, d) => bytes.length + uptoBulk d + 1
  | (_, d) => uptoBulk d + 1
 end
def uptoSmall : (H : Type) → List (DataW H) → Bool := fun _ ds => decide (uptoBulkAll ds ≤ 1048576)
def OpenSpec.upto (s : _root_.Go.ChangeSpec) : _root_.Go.OpenSpec := { _root_.Go.OpenSpec.ofChange s with cond := some uptoSmall }

/-- 'facetlaw23.PattersonExacts', WHERE WHAT IT READS IS OF BULK AT MOST 1048576: true; the input reads as it did. -/
def pattersonExactsUptoRow : OpenClaim := { program := "ytehiabiahipkhaagreat", sum := "3e44ec32684e620ff056511594700002da1928e12d69bc828fe05191bd05d3d3", func := "facet/facetlaw23.PattersonExacts", spec := "pattersonExacts", inPlace := ["math/bits.Add64", "internal/reflectlite.ValueOf", "internal/reflectlite.Swapper", "(internal/reflectlite.Value).Len", "math.Float64frombits"], unfollowed := true, recurses := true, named := ["math/bits.divideError", "math/bits.overflowError"], plainKeys := false, apart := false, narrowed := true }
def PattersonExactsUptoSaid : Prop := pattersonExactsUptoRow.holds Tryz.pinned (OpenSpec.upto pattersonExactsSpec)

/-- 'facetlaw23.PattersonPeaks', WHERE WHAT IT READS IS OF BULK AT MOST 1048576: true; the input reads as it did. -/
def pattersonPeaksUptoRow : OpenClaim := { program := "ytehiabiahipkhaagreat", sum := "3e44ec32684e620ff056511594700002da1928e12d69bc828fe05191bd05d3d3", func := "facet/facetlaw23.PattersonPeaks", spec := "pattersonPeaks", inPlace := ["math/bits.Add64", "internal/reflectlite.ValueOf", "internal/reflectlite.Swapper", "(internal/reflectlite.Value).Len", "math.Float64frombits"], unfollowed := true, recurses := true, named := ["math/bits.divideError", "math/bits.overflowError"], plainKeys := false, apart := false, narrowed := true }
def PattersonPeaksUptoSaid : Prop := pattersonPeaksUptoRow.holds Tryz.pinned (OpenSpec.upto pattersonPeaksSpec)

/-- 'facetlaw23.PattersonLaws', WHERE WHAT IT READS IS OF BULK AT MOST 1048576: true; the input reads as it did. -/
def pattersonLawsUptoRow : OpenClaim := { program := "ytehiabiahipkhaagreat", sum := "3e44ec32684e620ff056511594700002da1928e12d69bc828fe05191bd05d3d3", func := "facet/facetlaw23.PattersonLaws", spec := "pattersonLaws", inPlace := ["math/bits.Add64", "internal/reflectlite.ValueOf", "internal/reflectlite.Swapper", "(internal/reflectlite.Value).Len", "math.Float64frombits"], unfollowed := true, recurses := true, named := ["math/bits.divideError", "math/bits.overflowError"], plainKeys := false, apart := false, narrowed := true }
def PattersonLawsUptoSaid : Prop := pattersonLawsUptoRow.holds Tryz.pinned (OpenSpec.upto pattersonLawsSpec)

/-- 'facetlaw23.PattersonTops', WHERE WHAT IT READS IS OF BULK AT MOST 1048576: true; the input reads as it did. -/
def pattersonTopsUptoRow : OpenClaim := { program := "ytehiabiahipkhaagreat", sum := "3e44ec32684e620ff056511594700002da1928e12d69bc828fe05191bd05d3d3", func := "facet/facetlaw23.PattersonTops", spec := "pattersonTops", inPlace := ["math/bits.Add64", "internal/reflectlite.ValueOf", "internal/reflectlite.Swapper", "(internal/reflectlite.Value).Len", "math.Float64frombits"], unfollowed := true, recurses := true, named := ["math/bits.divideError", "math/bits.overflowError"], plainKeys := false, apart := false, narrowed := true }
def PattersonTopsUptoSaid : Prop := pattersonTopsUptoRow.holds Tryz.pinned (OpenSpec.upto pattersonTopsSpec)

/-- 'facetlaw23.PattersonTurned', WHERE WHAT IT READS IS OF BULK AT MOST 1048576: true; the input reads as it did. -/
def pattersonTurnedUptoRow : OpenClaim := { program := "ytehiabiahipkhaagreat", sum := "3e44ec32684e620ff056511594700002da1928e12d69bc828fe05191bd05d3d3", func := "facet/facetlaw23.PattersonTurned", spec := "pattersonTurned", inPlace := ["math/bits.Add64", "internal/reflectlite.ValueOf", "internal/reflectlite.Swapper", "(internal/reflectlite.Value).Len", "math.Float64frombits"], unfollowed := true, recurses := true, named := ["math/bits.divideError", "math/bits.overflowError"], plainKeys := false, apart := false, narrowed := true }
def PattersonTurnedUptoSaid : Prop := pattersonTurnedUptoRow.holds Tryz.pinned (OpenSpec.upto pattersonTurnedSpec)

end Rows
end Go.Proofs.YtehiabiahipkhaaGreat
