/-
  No cell of these rows narrows 'for every input' (looked for: loops, veiled, ifaces, maps, wideKeys, modest, calm, conditions, laid).
  DERIVED. THE GIVEN ROWS OF THIS SEAT. 8 by the template 'for every input the law returns true; each argument reads behind the call as it read before'; 0 by the template 'total and deterministic' (their statements: YtpnnmklacialgaaGreatTotals.lean).
  GIVEN WITH THE SEED: the statements are not yours to turn. If you find one false, say at which input.
  Laid BY PROGRAM, IN A SANDBOX (cutbox-rows.mjs): the forced cells as the released guide's own fill.sh prints them over the translation 4415144f51e242b0… (all of the seat's roots in one cut). By AI agents, Wed Nov 11 2026. No macro, syntax, notation, axiom, sorry.
-/
import Derived.Test.YtpnnmklacialgaaGreatChecked
import GoSem.Claim
import GoSem.ClaimJoined
import GoSem.ClaimMapViews
import Derived.JoinedTies
import Derived.KernelRfl
namespace Go.Proofs.YtpnnmklacialgaaGreat
/- THE CELL 'sum', in the pinned program and in every row, IS THE sha256 OF THE DUMP (.gsa) THAT YtpnnmklacialgaaGreatProg.lean LOADS. Nothing in Lean hashes anything: it is a label: what it is worth is what the hold of that sum in a sandbox is worth. -/
noncomputable def Tryz.pinned : Pinned := { name := "ytpnnmklacialgaagreat", sum := "4415144f51e242b0c8d4804fdc4672f0f53bcaea06615cb9f9dcf9f9b91ff728", checked := Tryz.checked }
namespace Rows
def none {H : Type} : Left H := { results := [], args := [] }

/-- 'gasolierlaw07.GasConflicts': WHATEVER THE INPUT: true; the input reads as it did. -/
def gasConflictsSpec : ChangeSpec := { name := "gasConflicts", fn := fun _ => fun
  | [d1, d2, d3] => { results := [.lit (.bool true)], args := [d1, d2, d3] }
  | _ => none }
def gasConflictsRow : OpenClaim := { program := "ytpnnmklacialgaagreat", sum := "4415144f51e242b0c8d4804fdc4672f0f53bcaea06615cb9f9dcf9f9b91ff728", func := "gasolier/gasolierlaw07.GasConflicts", spec := "gasConflicts", unfollowed := true, recurses := true, leaving := true, apart := false }
def GasConflictsSaid : Prop := gasConflictsRow.holds Tryz.pinned (OpenSpec.ofChange gasConflictsSpec)

/-- ITS FALSE NEIGHBOUR: 'it returns false'. Refute it at one input. -/
def gasConflictsWrong : ChangeSpec := { name := "gasConflicts", fn := fun _ => fun
  | [d1, d2, d3] => { results := [.lit (.bool false)], args := [d1, d2, d3] }
  | _ => none }
def GasConflictsWrongFalsely : Prop := gasConflictsRow.holds Tryz.pinned (OpenSpec.ofChange gasConflictsWrong)

/-- 'gasolierlaw07.GasBills': WHATEVER THE INPUT: true; the input reads as it did. -/
def gasBillsSpec : ChangeSpec := { name := "gasBills", fn := fun _ => fun
  | [d1, d2, d3] => { results := [.lit (.bool true)], args := [d1, d2, d3] }
  | _ => none }
def gasBillsRow : OpenClaim := { program := "ytpnnmklacialgaagreat", sum := "4415144f51e242b0c8d4804fdc4672f0f53bcaea06615cb9f9dcf9f9b91ff728", func := "gasolier/gasolierlaw07.GasBills", spec := "gasBills", unfollowed := true, recurses := true, leaving := true, apart := false }
def GasBillsSaid : Prop := gasBillsRow.holds Tryz.pinned (OpenSpec.ofChange gasBillsSpec)

/-- ITS FALSE NEIGHBOUR: 'it returns false'. Refute it at one input. -/
def gasBillsWrong : ChangeSpec := { name := "gasBills", fn := fun _ => fun
  | [d1, d2, d3] => { results := [.lit (.bool false)], args := [d1, d2, d3] }
  | _ => none }
def GasBillsWrongFalsely : Prop := gasBillsRow.holds Tryz.pinned (OpenSpec.ofChange gasBillsWrong)

/-- 'gasolierlaw07.GasEither': WHATEVER THE INPUT: true; the input reads as it did. -/
def gasEitherSpec : ChangeSpec := { name := "gasEither", fn := fun _ => fun
  | [d1, d2, d3] => { results := [.lit (.bool true)], args := [d1, d2, d3] }
  | _ => none }
def gasEitherRow : OpenClaim := { program := "ytpnnmklacialgaagreat", sum := "4415144f51e242b0c8d4804fdc4672f0f53bcaea06615cb9f9dcf9f9b91ff728", func := "gasolier/gasolierlaw07.GasEither", spec := "gasEither", unfollowed := true, recurses := true, leaving := true, apart := false }
def GasEitherSaid : Prop := gasEitherRow.holds Tryz.pinned (OpenSpec.ofChange gasEitherSpec)

/-- ITS FALSE NEIGHBOUR: 'it returns false'. Refute it at one input. -/
def gasEitherWrong : ChangeSpec := { name := "gasEither", fn := fun _ => fun
  | [d1, d2, d3] => { results := [.lit (.bool false)], args := [d1, d2, d3] }
  | _ => none }
def GasEitherWrongFalsely : Prop := gasEitherRow.holds Tryz.pinned (OpenSpec.ofChange gasEitherWrong)

/-- 'gasolierlaw07.GasOnce': WHATEVER THE INPUT: true; the input reads as it did. -/
def gasOnceSpec : ChangeSpec := { name := "gasOnce", fn := fun _ => fun
  | [d1, d2, d3] => { results := [.lit (.bool true)], args := [d1, d2, d3] }
  | _ => none }
def gasOnceRow : OpenClaim := { program := "ytpnnmklacialgaagreat", sum := "4415144f51e242b0c8d4804fdc4672f0f53bcaea06615cb9f9dcf9f9b91ff728", func := "gasolier/gasolierlaw07.GasOnce", spec := "gasOnce", unfollowed := true, recurses := true, leaving := true, apart := false }
def GasOnceSaid : Prop := gasOnceRow.holds Tryz.pinned (OpenSpec.ofChange gasOnceSpec)

/-- ITS FALSE NEIGHBOUR: 'it returns false'. Refute it at one input. -/
def gasOnceWrong : ChangeSpec := { name := "gasOnce", fn := fun _ => fun
  | [d1, d2, d3] => { results := [.lit (.bool false)], args := [d1, d2, d3] }
  | _ => none }
def GasOnceWrongFalsely : Prop := gasOnceRow.holds Tryz.pinned (OpenSpec.ofChange gasOnceWrong)

/-- 'gasolierlaw07.GasFlows': WHATEVER THE INPUT: true; the input reads as it did. -/
def gasFlowsSpec : ChangeSpec := { name := "gasFlows", fn := fun _ => fun
  | [d1, d2, d3] => { results := [.lit (.bool true)], args := [d1, d2, d3] }
  | _ => none }
def gasFlowsRow : OpenClaim := { program := "ytpnnmklacialgaagreat", sum := "4415144f51e242b0c8d4804fdc4672f0f53bcaea06615cb9f9dcf9f9b91ff728", func := "gasolier/gasolierlaw07.GasFlows", spec := "gasFlows", unfollowed := true, recurses := true, leaving := true, apart := false }
def GasFlowsSaid : Prop := gasFlowsRow.holds Tryz.pinned (OpenSpec.ofChange gasFlowsSpec)

/-- ITS FALSE NEIGHBOUR: 'it returns false'. Refute it at one input. -/
def gasFlowsWrong : ChangeSpec := { name := "gasFlows", fn := fun _ => fun
  | [d1, d2, d3] => { results := [.lit (.bool false)], args := [d1, d2, d3] }
  | _ => none }
def GasFlowsWrongFalsely : Prop := gasFlowsRow.holds Tryz.pinned (OpenSpec.ofChange gasFlowsWrong)

/-- 'gasolierlaw07.GasTrue': WHATEVER THE INPUT: true; the input reads as it did. -/
def gasTrueSpec : ChangeSpec := { name := "gasTrue", fn := fun _ => fun
  | [d1, d2, d3] => { results := [.lit (.bool true)], args := [d1, d2, d3] }
  | _ => none }
def gasTrueRow : OpenClaim := { program := "ytpnnmklacialgaagreat", sum := "4415144f51e242b0c8d4804fdc4672f0f53bcaea06615cb9f9dcf9f9b91ff728", func := "gasolier/gasolierlaw07.GasTrue", spec := "gasTrue", unfollowed := true, recurses := true, leaving := true, apart := false }
def GasTrueSaid : Prop := gasTrueRow.holds Tryz.pinned (OpenSpec.ofChange gasTrueSpec)

/-- ITS FALSE NEIGHBOUR: 'it returns false'. Refute it at one input. -/
def gasTrueWrong : ChangeSpec := { name := "gasTrue", fn := fun _ => fun
  | [d1, d2, d3] => { results := [.lit (.bool false)], args := [d1, d2, d3] }
  | _ => none }
def GasTrueWrongFalsely : Prop := gasTrueRow.holds Tryz.pinned (OpenSpec.ofChange gasTrueWrong)

/-- 'gasolierlaw07.GasNarrow': WHATEVER THE INPUT: true; the input reads as it did. -/
def gasNarrowSpec : ChangeSpec := { name := "gasNarrow", fn := fun _ => fun
  | [d1, d2, d3] => { results := [.lit (.bool true)], args := [d1, d2, d3] }
  | _ => none }
def gasNarrowRow : OpenClaim := { program := "ytpnnmklacialgaagreat", sum := "4415144f51e242b0c8d4804fdc4672f0f53bcaea06615cb9f9dcf9f9b91ff728", func := "gasolier/gasolierlaw07.GasNarrow", spec := "gasNarrow", inPlace := ["slices.overlaps[gasolier/api.Reading]"], unfollowed := true, recurses := true, leaving := true, apart := false }
def GasNarrowSaid : Prop := gasNarrowRow.holds Tryz.pinned (OpenSpec.ofChange gasNarrowSpec)

/-- ITS FALSE NEIGHBOUR: 'it returns false'. Refute it at one input. -/
def gasNarrowWrong : ChangeSpec := { name := "gasNarrow", fn := fun _ => fun
  | [d1, d2, d3] => { results := [.lit (.bool false)], args := [d1, d2, d3] }
  | _ => none }
def GasNarrowWrongFalsely : Prop := gasNarrowRow.holds Tryz.pinned (OpenSpec.ofChange gasNarrowWrong)

/-- 'gasolierlaw07.GasChecks': WHATEVER THE INPUT: true; the input reads as it did. -/
def gasChecksSpec : ChangeSpec := { name := "gasChecks", fn := fun _ => fun
  | [d1, d2] => { results := [.lit (.bool true)], args := [d1, d2] }
  | _ => none }
def gasChecksRow : OpenClaim := { program := "ytpnnmklacialgaagreat", sum := "4415144f51e242b0c8d4804fdc4672f0f53bcaea06615cb9f9dcf9f9b91ff728", func := "gasolier/gasolierlaw07.GasChecks", spec := "gasChecks", inPlace := ["slices.overlaps[gasolier/api.Reading]"], unfollowed := true, recurses := true, leaving := true, apart := false }
def GasChecksSaid : Prop := gasChecksRow.holds Tryz.pinned (OpenSpec.ofChange gasChecksSpec)

/-- ITS FALSE NEIGHBOUR: 'it returns false'. Refute it at one input. -/
def gasChecksWrong : ChangeSpec := { name := "gasChecks", fn := fun _ => fun
  | [d1, d2] => { results := [.lit (.bool false)], args := [d1, d2] }
  | _ => none }
def GasChecksWrongFalsely : Prop := gasChecksRow.holds Tryz.pinned (OpenSpec.ofChange gasChecksWrong)

/- THE SECOND FORM. 'bulk': how many values and letters a reading holds, each counted each time it is reached (what is shared counts as often as it is met; a slice's spare places count too). A statement '..UptoSaid' is the law's where the arguments, and the package variables that the reading takes, are together of bulk at most 1048576: NARROWER than '..Said'. Prove '..Said' where nothing that the law and all that it calls make is longer than what came in: it says more and counts as full. Else prove '..UptoSaid'. A law counts once. -/
mutual
def uptoBulk {H : Type} : DataW H → Nat
  | .lit (.string bytes) => bytes.length + 1
  | .lit _ => 1
  | .nil => 1
  | .ptr d => uptoBulk d + 1
  | .slice elems spare => uptoBulkAll elems + uptoBulkAll spare + 1
  | .agg parts => uptoBulkAll parts + 1
  | .iface _ d => uptoBulk d + 1
  | .map entries => uptoBulkEntries entries + 1
  | .held _ => 1
def uptoBulkAll {H : Type} : List (DataW H) → Nat
  | [] => 0
  | d :: r => uptoBulk d + uptoBulkAll r
def uptoBulkEntries {H : Type} : List (Lit × DataW H) → Nat
  | [] => 0
  | x :: r => uptoBulkEntry x + uptoBulkEntries r
def uptoBulkEntry {H : Type} : Lit × DataW H → Nat
  | (.string bytes, d) => bytes.length + uptoBulk d + 1
  | (_, d) => uptoBulk d + 1
 end
def uptoSmall : (H : Type) → List (DataW H) → Bool := fun _ ds => decide (uptoBulkAll ds ≤ 1048576)
def OpenSpec.upto (s : _root_.Go.ChangeSpec) : _root_.Go.OpenSpec := { _root_.Go.OpenSpec.ofChange s with cond := some uptoSmall }

/-- 'gasolierlaw07.GasConflicts', WHERE WHAT IT READS IS OF BULK AT MOST 1048576: true; the input reads as it did. -/
def gasConflictsUptoRow : OpenClaim := { program := "ytpnnmklacialgaagreat", sum := "4415144f51e242b0c8d4804fdc4672f0f53bcaea06615cb9f9dcf9f9b91ff728", func := "gasolier/gasolierlaw07.GasConflicts", spec := "gasConflicts", unfollowed := true, recurses := true, leaving := true, apart := false, narrowed := true }
def GasConflictsUptoSaid : Prop := gasConflictsUptoRow.holds Tryz.pinned (OpenSpec.upto gasConflictsSpec)

/-- 'gasolierlaw07.GasBills', WHERE WHAT IT READS IS OF BULK AT MOST 1048576: true; the input reads as it did. -/
def gasBillsUptoRow : OpenClaim := { program := "ytpnnmklacialgaagreat", sum := "4415144f51e242b0c8d4804fdc4672f0f53bcaea06615cb9f9dcf9f9b91ff728", func := "gasolier/gasolierlaw07.GasBills", spec := "gasBills", unfollowed := true, recurses := true, leaving := true, apart := false, narrowed := true }
def GasBillsUptoSaid : Prop := gasBillsUptoRow.holds Tryz.pinned (OpenSpec.upto gasBillsSpec)

/-- 'gasolierlaw07.GasEither', WHERE WHAT IT READS IS OF BULK AT MOST 1048576: true; the input reads as it did. -/
def gasEitherUptoRow : OpenClaim := { program := "ytpnnmklacialgaagreat", sum := "4415144f51e242b0c8d4804fdc4672f0f53bcaea06615cb9f9dcf9f9b91ff728", func := "gasolier/gasolierlaw07.GasEither", spec := "gasEither", unfollowed := true, recurses := true, leaving := true, apart := false, narrowed := true }
def GasEitherUptoSaid : Prop := gasEitherUptoRow.holds Tryz.pinned (OpenSpec.upto gasEitherSpec)

/-- 'gasolierlaw07.GasOnce', WHERE WHAT IT READS IS OF BULK AT MOST 1048576: true; the input reads as it did. -/
def gasOnceUptoRow : OpenClaim := { program := "ytpnnmklacialgaagreat", sum := "4415144f51e242b0c8d4804fdc4672f0f53bcaea06615cb9f9dcf9f9b91ff728", func := "gasolier/gasolierlaw07.GasOnce", spec := "gasOnce", unfollowed := true, recurses := true, leaving := true, apart := false, narrowed := true }
def GasOnceUptoSaid : Prop := gasOnceUptoRow.holds Tryz.pinned (OpenSpec.upto gasOnceSpec)

/-- 'gasolierlaw07.GasFlows', WHERE WHAT IT READS IS OF BULK AT MOST 1048576: true; the input reads as it did. -/
def gasFlowsUptoRow : OpenClaim := { program := "ytpnnmklacialgaagreat", sum := "4415144f51e242b0c8d4804fdc4672f0f53bcaea06615cb9f9dcf9f9b91ff728", func := "gasolier/gasolierlaw07.GasFlows", spec := "gasFlows", unfollowed := true, recurses := true, leaving := true, apart := false, narrowed := true }
def GasFlowsUptoSaid : Prop := gasFlowsUptoRow.holds Tryz.pinned (OpenSpec.upto gasFlowsSpec)

/-- 'gasolierlaw07.GasTrue', WHERE WHAT IT READS IS OF BULK AT MOST 1048576: true; the input reads as it did. -/
def gasTrueUptoRow : OpenClaim := { program := "ytpnnmklacialgaagreat", sum := "4415144f51e242b0c8d4804fdc4672f0f53bcaea06615cb9f9dcf9f9b91ff728", func := "gasolier/gasolierlaw07.GasTrue", spec := "gasTrue", unfollowed := true, recurses := true, leaving := true, apart := false, narrowed := true }
def GasTrueUptoSaid : Prop := gasTrueUptoRow.holds Tryz.pinned (OpenSpec.upto gasTrueSpec)

/-- 'gasolierlaw07.GasNarrow', WHERE WHAT IT READS IS OF BULK AT MOST 1048576: true; the input reads as it did. -/
def gasNarrowUptoRow : OpenClaim := { program := "ytpnnmklacialgaagreat", sum := "4415144f51e242b0c8d4804fdc4672f0f53bcaea06615cb9f9dcf9f9b91ff728", func := "gasolier/gasolierlaw07.GasNarrow", spec := "gasNarrow", inPlace := ["slices.overlaps[gasolier/api.Reading]"], unfollowed := true, recurses := true, leaving := true, apart := false, narrowed := true }
def GasNarrowUptoSaid : Prop := gasNarrowUptoRow.holds Tryz.pinned (OpenSpec.upto gasNarrowSpec)

/-- 'gasolierlaw07.GasChecks', WHERE WHAT IT READS IS OF BULK AT MOST 1048576: true; the input reads as it did. -/
def gasChecksUptoRow : OpenClaim := { program := "ytpnnmklacialgaagreat", sum := "4415144f51e242b0c8d4804fdc4672f0f53bcaea06615cb9f9dcf9f9b91ff728", func := "gasolier/gasolierlaw07.GasChecks", spec := "gasChecks", inPlace := ["slices.overlaps[gasolier/api.Reading]"], unfollowed := true, recurses := true, leaving := true, apart := false, narrowed := true }
def GasChecksUptoSaid : Prop := gasChecksUptoRow.holds Tryz.pinned (OpenSpec.upto gasChecksSpec)

end Rows
end Go.Proofs.YtpnnmklacialgaaGreat
