/-
  NARROWER THAN 'FOR EVERY INPUT', by the rows' own cells (each row's printed sentence says how): BoundRises: loops · PrintTells: loops · PrintShows: loops · NnfTells: loops · NnfTidy: loops · NnfTwice: loops.
  DERIVED. THE GIVEN ROWS OF THIS SEAT. 6 by the template 'for every input the law returns true; each argument reads behind the call as it read before'; 0 by the template 'total and deterministic' (their statements: YtemggoaefohliaaTotals.lean).
  GIVEN WITH THE SEED: the statements are not yours to turn. If you find one false, say at which input.
  Laid BY PROGRAM, IN A SANDBOX (cutbox-rows.mjs): the forced cells as the released guide's own fill.sh prints them over the translation fb84374fc3e145ae… (all of the seat's roots in one cut). By AI agents, Wed Nov 11 2026. No macro, syntax, notation, axiom, sorry.
-/
import Derived.Test.YtemggoaefohliaaChecked
import GoSem.Claim
import GoSem.ClaimJoined
import GoSem.ClaimMapViews
import Derived.JoinedTies
import Derived.KernelRfl
namespace Go.Proofs.Ytemggoaefohliaa
/- THE CELL 'sum', in the pinned program and in every row, IS THE sha256 OF THE DUMP (.gsa) THAT YtemggoaefohliaaProg.lean LOADS. Nothing in Lean hashes anything: it is a label: what it is worth is what the hold of that sum in a sandbox is worth. -/
noncomputable def Try.pinned : Pinned := { name := "ytemggoaefohliaa", sum := "fb84374fc3e145ae19870fafbc37377b57cd49783091dabf664fd91f4cfd8eb7", checked := Try.checked }
namespace Rows
def none {H : Type} : Left H := { results := [], args := [] }

/-- 'beadlelaw11.BoundRises': WHATEVER THE INPUT: true; the input reads as it did. -/
def boundRisesSpec : ChangeSpec := { name := "boundRises", fn := fun _ => fun
  | [d1, d2, d3] => { results := [.lit (.bool true)], args := [d1, d2, d3] }
  | _ => none }
def boundRisesRow : OpenClaim := { program := "ytemggoaefohliaa", sum := "fb84374fc3e145ae19870fafbc37377b57cd49783091dabf664fd91f4cfd8eb7", func := "beadle/beadlelaw11.BoundRises", spec := "boundRises", unfollowed := true, recurses := true, loops := true, apart := false }
def BoundRisesSaid : Prop := boundRisesRow.holds Try.pinned (OpenSpec.ofChange boundRisesSpec)

/-- ITS FALSE NEIGHBOUR: 'it returns false'. Refute it at one input. -/
def boundRisesWrong : ChangeSpec := { name := "boundRises", fn := fun _ => fun
  | [d1, d2, d3] => { results := [.lit (.bool false)], args := [d1, d2, d3] }
  | _ => none }
def BoundRisesWrongFalsely : Prop := boundRisesRow.holds Try.pinned (OpenSpec.ofChange boundRisesWrong)

/-- 'beadlelaw09.PrintTells': WHATEVER THE INPUT: true; the input reads as it did. -/
def printTellsSpec : ChangeSpec := { name := "printTells", fn := fun _ => fun
  | [d1, d2, d3, d4] => { results := [.lit (.bool true)], args := [d1, d2, d3, d4] }
  | _ => none }
def printTellsRow : OpenClaim := { program := "ytemggoaefohliaa", sum := "fb84374fc3e145ae19870fafbc37377b57cd49783091dabf664fd91f4cfd8eb7", func := "beadle/beadlelaw09.PrintTells", spec := "printTells", inPlace := ["internal/abi.NoEscape", "internal/bytealg.MakeNoZero"], recurses := true, loops := true, apart := false }
def PrintTellsSaid : Prop := printTellsRow.holds Try.pinned (OpenSpec.ofChange printTellsSpec)

/-- ITS FALSE NEIGHBOUR: 'it returns false'. Refute it at one input. -/
def printTellsWrong : ChangeSpec := { name := "printTells", fn := fun _ => fun
  | [d1, d2, d3, d4] => { results := [.lit (.bool false)], args := [d1, d2, d3, d4] }
  | _ => none }
def PrintTellsWrongFalsely : Prop := printTellsRow.holds Try.pinned (OpenSpec.ofChange printTellsWrong)

/-- 'beadlelaw09.PrintShows': WHATEVER THE INPUT: true; the input reads as it did. -/
def printShowsSpec : ChangeSpec := { name := "printShows", fn := fun _ => fun
  | [d1, d2] => { results := [.lit (.bool true)], args := [d1, d2] }
  | _ => none }
def printShowsRow : OpenClaim := { program := "ytemggoaefohliaa", sum := "fb84374fc3e145ae19870fafbc37377b57cd49783091dabf664fd91f4cfd8eb7", func := "beadle/beadlelaw09.PrintShows", spec := "printShows", inPlace := ["internal/abi.NoEscape", "internal/bytealg.MakeNoZero"], recurses := true, loops := true, apart := false }
def PrintShowsSaid : Prop := printShowsRow.holds Try.pinned (OpenSpec.ofChange printShowsSpec)

/-- ITS FALSE NEIGHBOUR: 'it returns false'. Refute it at one input. -/
def printShowsWrong : ChangeSpec := { name := "printShows", fn := fun _ => fun
  | [d1, d2] => { results := [.lit (.bool false)], args := [d1, d2] }
  | _ => none }
def PrintShowsWrongFalsely : Prop := printShowsRow.holds Try.pinned (OpenSpec.ofChange printShowsWrong)

/-- 'beadlelaw30.NnfTells': WHATEVER THE INPUT: true; the input reads as it did. -/
def nnfTellsSpec : ChangeSpec := { name := "nnfTells", fn := fun _ => fun
  | [d] => { results := [.lit (.bool true)], args := [d] }
  | _ => none }
def nnfTellsRow : OpenClaim := { program := "ytemggoaefohliaa", sum := "fb84374fc3e145ae19870fafbc37377b57cd49783091dabf664fd91f4cfd8eb7", func := "beadle/beadlelaw30.NnfTells", spec := "nnfTells", inPlace := ["internal/bytealg.IndexByteString"], unfollowed := true, recurses := true, loops := true, apart := false }
def NnfTellsSaid : Prop := nnfTellsRow.holds Try.pinned (OpenSpec.ofChange nnfTellsSpec)

/-- ITS FALSE NEIGHBOUR: 'it returns false'. Refute it at one input. -/
def nnfTellsWrong : ChangeSpec := { name := "nnfTells", fn := fun _ => fun
  | [d] => { results := [.lit (.bool false)], args := [d] }
  | _ => none }
def NnfTellsWrongFalsely : Prop := nnfTellsRow.holds Try.pinned (OpenSpec.ofChange nnfTellsWrong)

/-- 'beadlelaw30.NnfTidy': WHATEVER THE INPUT: true; the input reads as it did. -/
def nnfTidySpec : ChangeSpec := { name := "nnfTidy", fn := fun _ => fun
  | [d] => { results := [.lit (.bool true)], args := [d] }
  | _ => none }
def nnfTidyRow : OpenClaim := { program := "ytemggoaefohliaa", sum := "fb84374fc3e145ae19870fafbc37377b57cd49783091dabf664fd91f4cfd8eb7", func := "beadle/beadlelaw30.NnfTidy", spec := "nnfTidy", inPlace := ["internal/bytealg.IndexByteString"], unfollowed := true, recurses := true, loops := true, apart := false }
def NnfTidySaid : Prop := nnfTidyRow.holds Try.pinned (OpenSpec.ofChange nnfTidySpec)

/-- ITS FALSE NEIGHBOUR: 'it returns false'. Refute it at one input. -/
def nnfTidyWrong : ChangeSpec := { name := "nnfTidy", fn := fun _ => fun
  | [d] => { results := [.lit (.bool false)], args := [d] }
  | _ => none }
def NnfTidyWrongFalsely : Prop := nnfTidyRow.holds Try.pinned (OpenSpec.ofChange nnfTidyWrong)

/-- 'beadlelaw30.NnfTwice': WHATEVER THE INPUT: true; the input reads as it did. -/
def nnfTwiceSpec : ChangeSpec := { name := "nnfTwice", fn := fun _ => fun
  | [d] => { results := [.lit (.bool true)], args := [d] }
  | _ => none }
def nnfTwiceRow : OpenClaim := { program := "ytemggoaefohliaa", sum := "fb84374fc3e145ae19870fafbc37377b57cd49783091dabf664fd91f4cfd8eb7", func := "beadle/beadlelaw30.NnfTwice", spec := "nnfTwice", inPlace := ["internal/bytealg.IndexByteString"], unfollowed := true, recurses := true, loops := true, apart := false }
def NnfTwiceSaid : Prop := nnfTwiceRow.holds Try.pinned (OpenSpec.ofChange nnfTwiceSpec)

/-- ITS FALSE NEIGHBOUR: 'it returns false'. Refute it at one input. -/
def nnfTwiceWrong : ChangeSpec := { name := "nnfTwice", fn := fun _ => fun
  | [d] => { results := [.lit (.bool false)], args := [d] }
  | _ => none }
def NnfTwiceWrongFalsely : Prop := nnfTwiceRow.holds Try.pinned (OpenSpec.ofChange nnfTwiceWrong)

/- THE SECOND FORM. 'bulk': how many values and letters a reading holds, each counted each time it is reached (what is shared counts as often as it is met; a slice's spare places count too). A statement '..UptoSaid' is the law's where the arguments, and the package variables that the reading takes, are together of bulk at most 1048576: NARROWER than '..Said'. Prove '..Said' where nothing that the law and all that it calls make is longer than what came in: it says more and counts as full. Else prove '..UptoSaid'. A law counts once. -/
mutual
def uptoBulk {H : Type} : DataW H → Nat
  | .lit (.string bytes) => bytes.length + 1
  | .lit _ => 1
  | .nil => 1
  | .ptr d => uptoBulk d + 1
  | .slice elems spare => uptoBulkAll elems + uptoBulkAll spare + 1
  | .agg parts => uptoBulkAll parts + 1
  | .iface _ d => uptoBulk d + 1
  | .map entries => uptoBulkEntries entries + 1
  | .held _ => 1
def uptoBulkAll {H : Type} : List (DataW H) → Nat
  | [] => 0
  | d :: r => uptoBulk d + uptoBulkAll r
def uptoBulkEntries {H : Type} : List (Lit × DataW H) → Nat
  | [] => 0
  | x :: r => uptoBulkEntry x + uptoBulkEntries r
def uptoBulkEntry {H : Type} : Lit × DataW H → Nat
  | (.string bytes, d) => bytes.length + uptoBulk d + 1
  | (_, d) => uptoBulk d + 1
 end
def uptoSmall : (H : Type) → List (DataW H) → Bool := fun _ ds => decide (uptoBulkAll ds ≤ 1048576)
def OpenSpec.upto (s : _root_.Go.ChangeSpec) : _root_.Go.OpenSpec := { _root_.Go.OpenSpec.ofChange s with cond := some uptoSmall }

/-- 'beadlelaw11.BoundRises', WHERE WHAT IT READS IS OF BULK AT MOST 1048576: true; the input reads as it did. -/
def boundRisesUptoRow : OpenClaim := { program := "ytemggoaefohliaa", sum := "fb84374fc3e145ae19870fafbc37377b57cd49783091dabf664fd91f4cfd8eb7", func := "beadle/beadlelaw11.BoundRises", spec := "boundRises", unfollowed := true, recurses := true, loops := true, apart := false, narrowed := true }
def BoundRisesUptoSaid : Prop := boundRisesUptoRow.holds Try.pinned (OpenSpec.upto boundRisesSpec)

/-- 'beadlelaw09.PrintTells', WHERE WHAT IT READS IS OF BULK AT MOST 1048576: true; the input reads as it did. -/
def printTellsUptoRow : OpenClaim := { program := "ytemggoaefohliaa", sum := "fb84374fc3e145ae19870fafbc37377b57cd49783091dabf664fd91f4cfd8eb7", func := "beadle/beadlelaw09.PrintTells", spec := "printTells", inPlace := ["internal/abi.NoEscape", "internal/bytealg.MakeNoZero"], recurses := true, loops := true, apart := false, narrowed := true }
def PrintTellsUptoSaid : Prop := printTellsUptoRow.holds Try.pinned (OpenSpec.upto printTellsSpec)

/-- 'beadlelaw09.PrintShows', WHERE WHAT IT READS IS OF BULK AT MOST 1048576: true; the input reads as it did. -/
def printShowsUptoRow : OpenClaim := { program := "ytemggoaefohliaa", sum := "fb84374fc3e145ae19870fafbc37377b57cd49783091dabf664fd91f4cfd8eb7", func := "beadle/beadlelaw09.PrintShows", spec := "printShows", inPlace := ["internal/abi.NoEscape", "internal/bytealg.MakeNoZero"], recurses := true, loops := true, apart := false, narrowed := true }
def PrintShowsUptoSaid : Prop := printShowsUptoRow.holds Try.pinned (OpenSpec.upto printShowsSpec)

/-- 'beadlelaw30.NnfTells', WHERE WHAT IT READS IS OF BULK AT MOST 1048576: true; the input reads as it did. -/
def nnfTellsUptoRow : OpenClaim := { program := "ytemggoaefohliaa", sum := "fb84374fc3e145ae19870fafbc37377b57cd49783091dabf664fd91f4cfd8eb7", func := "beadle/beadlelaw30.NnfTells", spec := "nnfTells", inPlace := ["internal/bytealg.IndexByteString"], unfollowed := true, recurses := true, loops := true, apart := false, narrowed := true }
def NnfTellsUptoSaid : Prop := nnfTellsUptoRow.holds Try.pinned (OpenSpec.upto nnfTellsSpec)

/-- 'beadlelaw30.NnfTidy', WHERE WHAT IT READS IS OF BULK AT MOST 1048576: true; the input reads as it did. -/
def nnfTidyUptoRow : OpenClaim := { program := "ytemggoaefohliaa", sum := "fb84374fc3e145ae19870fafbc37377b57cd49783091dabf664fd91f4cfd8eb7", func := "beadle/beadlelaw30.NnfTidy", spec := "nnfTidy", inPlace := ["internal/bytealg.IndexByteString"], unfollowed := true, recurses := true, loops := true, apart := false, narrowed := true }
def NnfTidyUptoSaid : Prop := nnfTidyUptoRow.holds Try.pinned (OpenSpec.upto nnfTidySpec)

/-- 'beadlelaw30.NnfTwice', WHERE WHAT IT READS IS OF BULK AT MOST 1048576: true; the input reads as it did. -/
def nnfTwiceUptoRow : OpenClaim := { program := "ytemggoaefohliaa", sum := "fb84374fc3e145ae19870fafbc37377b57cd49783091dabf664fd91f4cfd8eb7", func := "beadle/beadlelaw30.NnfTwice", spec := "nnfTwice", inPlace := ["internal/bytealg.IndexByteString"], unfollowed := true, recurses := true, loops := true, apart := false, narrowed := true }
def NnfTwiceUptoSaid : Prop := nnfTwiceUptoRow.holds Try.pinned (OpenSpec.upto nnfTwiceSpec)

end Rows
end Go.Proofs.Ytemggoaefohliaa
