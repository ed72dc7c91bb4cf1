/-
  NARROWER THAN 'FOR EVERY INPUT', by the rows' own cells (each row's printed sentence says how): SchemaSmall: loops · SchemaMerges: loops · SchemaPicks: loops.
  DERIVED. THE GIVEN ROWS OF THIS SEAT. 3 by the template 'for every input the law returns true; each argument reads behind the call as it read before'; 0 by the template 'total and deterministic' (their statements: YtgjcnkcepdoedaaGreatTotals.lean).
  GIVEN WITH THE SEED: the statements are not yours to turn. If you find one false, say at which input.
  Laid BY PROGRAM, IN A SANDBOX (cutbox-rows.mjs): the forced cells as the released guide's own fill.sh prints them over the translation 2cb7045c7359b50f… (all of the seat's roots in one cut). By AI agents, Wed Nov 11 2026. No macro, syntax, notation, axiom, sorry.
-/
import Derived.Test.YtgjcnkcepdoedaaGreatChecked
import GoSem.Claim
import GoSem.ClaimJoined
import GoSem.ClaimMapViews
import Derived.JoinedTies
import Derived.KernelRfl
namespace Go.Proofs.YtgjcnkcepdoedaaGreat
/- THE CELL 'sum', in the pinned program and in every row, IS THE sha256 OF THE DUMP (.gsa) THAT YtgjcnkcepdoedaaGreatProg.lean LOADS. Nothing in Lean hashes anything: it is a label: what it is worth is what the hold of that sum in a sandbox is worth. -/
noncomputable def Tryz.pinned : Pinned := { name := "ytgjcnkcepdoedaagreat", sum := "2cb7045c7359b50f04bf45493de1804eec761dadb9f5436c97b62e00eb1b777e", checked := Tryz.checked }
namespace Rows
def none {H : Type} : Left H := { results := [], args := [] }

/-- 'changelinglaw22.SchemaSmall': WHATEVER THE INPUT: true; the input reads as it did. -/
def schemaSmallSpec : ChangeSpec := { name := "schemaSmall", fn := fun _ => fun
  | [d1, d2] => { results := [.lit (.bool true)], args := [d1, d2] }
  | _ => none }
def schemaSmallRow : OpenClaim := { program := "ytgjcnkcepdoedaagreat", sum := "2cb7045c7359b50f04bf45493de1804eec761dadb9f5436c97b62e00eb1b777e", func := "changeling/changelinglaw22.SchemaSmall", spec := "schemaSmall", inPlace := ["internal/abi.NoEscape", "internal/bytealg.MakeNoZero"], unfollowed := true, recurses := true, loops := true, plainKeys := false, apart := false }
def SchemaSmallSaid : Prop := schemaSmallRow.holds Tryz.pinned (OpenSpec.ofChange schemaSmallSpec)

/-- ITS FALSE NEIGHBOUR: 'it returns false'. Refute it at one input. -/
def schemaSmallWrong : ChangeSpec := { name := "schemaSmall", fn := fun _ => fun
  | [d1, d2] => { results := [.lit (.bool false)], args := [d1, d2] }
  | _ => none }
def SchemaSmallWrongFalsely : Prop := schemaSmallRow.holds Tryz.pinned (OpenSpec.ofChange schemaSmallWrong)

/-- 'changelinglaw22.SchemaMerges': WHATEVER THE INPUT: true; the input reads as it did. -/
def schemaMergesSpec : ChangeSpec := { name := "schemaMerges", fn := fun _ => fun
  | [d1, d2, d3] => { results := [.lit (.bool true)], args := [d1, d2, d3] }
  | _ => none }
def schemaMergesRow : OpenClaim := { program := "ytgjcnkcepdoedaagreat", sum := "2cb7045c7359b50f04bf45493de1804eec761dadb9f5436c97b62e00eb1b777e", func := "changeling/changelinglaw22.SchemaMerges", spec := "schemaMerges", inPlace := ["internal/abi.NoEscape", "internal/bytealg.MakeNoZero"], unfollowed := true, recurses := true, loops := true, plainKeys := false, apart := false }
def SchemaMergesSaid : Prop := schemaMergesRow.holds Tryz.pinned (OpenSpec.ofChange schemaMergesSpec)

/-- ITS FALSE NEIGHBOUR: 'it returns false'. Refute it at one input. -/
def schemaMergesWrong : ChangeSpec := { name := "schemaMerges", fn := fun _ => fun
  | [d1, d2, d3] => { results := [.lit (.bool false)], args := [d1, d2, d3] }
  | _ => none }
def SchemaMergesWrongFalsely : Prop := schemaMergesRow.holds Tryz.pinned (OpenSpec.ofChange schemaMergesWrong)

/-- 'changelinglaw22.SchemaPicks': WHATEVER THE INPUT: true; the input reads as it did. -/
def schemaPicksSpec : ChangeSpec := { name := "schemaPicks", fn := fun _ => fun
  | [d1, d2, d3] => { results := [.lit (.bool true)], args := [d1, d2, d3] }
  | _ => none }
def schemaPicksRow : OpenClaim := { program := "ytgjcnkcepdoedaagreat", sum := "2cb7045c7359b50f04bf45493de1804eec761dadb9f5436c97b62e00eb1b777e", func := "changeling/changelinglaw22.SchemaPicks", spec := "schemaPicks", inPlace := ["internal/abi.NoEscape", "internal/bytealg.MakeNoZero"], unfollowed := true, recurses := true, loops := true, plainKeys := false, apart := false }
def SchemaPicksSaid : Prop := schemaPicksRow.holds Tryz.pinned (OpenSpec.ofChange schemaPicksSpec)

/-- ITS FALSE NEIGHBOUR: 'it returns false'. Refute it at one input. -/
def schemaPicksWrong : ChangeSpec := { name := "schemaPicks", fn := fun _ => fun
  | [d1, d2, d3] => { results := [.lit (.bool false)], args := [d1, d2, d3] }
  | _ => none }
def SchemaPicksWrongFalsely : Prop := schemaPicksRow.holds Tryz.pinned (OpenSpec.ofChange schemaPicksWrong)

/- THE SECOND FORM. 'bulk': how many values and letters a reading holds, each counted each time it is reached (what is shared counts as often as it is met; a slice's spare places count too). A statement '..UptoSaid' is the law's where the arguments, and the package variables that the reading takes, are together of bulk at most 1048576: NARROWER than '..Said'. Prove '..Said' where nothing that the law and all that it calls make is longer than what came in: it says more and counts as full. Else prove '..UptoSaid'. A law counts once. -/
mutual
def uptoBulk {H : Type} : DataW H → Nat
  | .lit (.string bytes) => bytes.length + 1
  | .lit _ => 1
  | .nil => 1
  | .ptr d => uptoBulk d + 1
  | .slice elems spare => uptoBulkAll elems + uptoBulkAll spare + 1
  | .agg parts => uptoBulkAll parts + 1
  | .iface _ d => uptoBulk d + 1
  | .map entries => uptoBulkEntries entries + 1
  | .held _ => 1
def uptoBulkAll {H : Type} : List (DataW H) → Nat
  | [] => 0
  | d :: r => uptoBulk d + uptoBulkAll r
def uptoBulkEntries {H : Type} : List (Lit × DataW H) → Nat
  | [] => 0
  | x :: r => uptoBulkEntry x + uptoBulkEntries r
def uptoBulkEntry {H : Type} : Lit × DataW H → Nat
  | (.string bytes, d) => bytes.length + uptoBulk d + 1
  | (_, d) => uptoBulk d + 1
 end
def uptoSmall : (H : Type) → List (DataW H) → Bool := fun _ ds => decide (uptoBulkAll ds ≤ 1048576)
def OpenSpec.upto (s : _root_.Go.ChangeSpec) : _root_.Go.OpenSpec := { _root_.Go.OpenSpec.ofChange s with cond := some uptoSmall }

/-- 'changelinglaw22.SchemaSmall', WHERE WHAT IT READS IS OF BULK AT MOST 1048576: true; the input reads as it did. -/
def schemaSmallUptoRow : OpenClaim := { program := "ytgjcnkcepdoedaagreat", sum := "2cb7045c7359b50f04bf45493de1804eec761dadb9f5436c97b62e00eb1b777e", func := "changeling/changelinglaw22.SchemaSmall", spec := "schemaSmall", inPlace := ["internal/abi.NoEscape", "internal/bytealg.MakeNoZero"], unfollowed := true, recurses := true, loops := true, plainKeys := false, apart := false, narrowed := true }
def SchemaSmallUptoSaid : Prop := schemaSmallUptoRow.holds Tryz.pinned (OpenSpec.upto schemaSmallSpec)

/-- 'changelinglaw22.SchemaMerges', WHERE WHAT IT READS IS OF BULK AT MOST 1048576: true; the input reads as it did. -/
def schemaMergesUptoRow : OpenClaim := { program := "ytgjcnkcepdoedaagreat", sum := "2cb7045c7359b50f04bf45493de1804eec761dadb9f5436c97b62e00eb1b777e", func := "changeling/changelinglaw22.SchemaMerges", spec := "schemaMerges", inPlace := ["internal/abi.NoEscape", "internal/bytealg.MakeNoZero"], unfollowed := true, recurses := true, loops := true, plainKeys := false, apart := false, narrowed := true }
def SchemaMergesUptoSaid : Prop := schemaMergesUptoRow.holds Tryz.pinned (OpenSpec.upto schemaMergesSpec)

/-- 'changelinglaw22.SchemaPicks', WHERE WHAT IT READS IS OF BULK AT MOST 1048576: true; the input reads as it did. -/
def schemaPicksUptoRow : OpenClaim := { program := "ytgjcnkcepdoedaagreat", sum := "2cb7045c7359b50f04bf45493de1804eec761dadb9f5436c97b62e00eb1b777e", func := "changeling/changelinglaw22.SchemaPicks", spec := "schemaPicks", inPlace := ["internal/abi.NoEscape", "internal/bytealg.MakeNoZero"], unfollowed := true, recurses := true, loops := true, plainKeys := false, apart := false, narrowed := true }
def SchemaPicksUptoSaid : Prop := schemaPicksUptoRow.holds Tryz.pinned (OpenSpec.upto schemaPicksSpec)

end Rows
end Go.Proofs.YtgjcnkcepdoedaaGreat
