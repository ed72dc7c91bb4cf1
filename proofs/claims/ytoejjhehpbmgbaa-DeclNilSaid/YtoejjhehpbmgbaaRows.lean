/-
  NARROWER THAN 'FOR EVERY INPUT', by the rows' own cells (each row's printed sentence says how): DeclMore: loops · DeclFinds: loops · DeclNil: loops.
  DERIVED. THE GIVEN ROWS OF THIS SEAT. 9 by the template 'for every input the law returns true; each argument reads behind the call as it read before'; 0 by the template 'total and deterministic' (their statements: YtoejjhehpbmgbaaTotals.lean).
  GIVEN WITH THE SEED: the statements are not yours to turn. If you find one false, say at which input.
  Laid BY PROGRAM, IN A SANDBOX (cutbox-rows.mjs): the forced cells as the released guide's own fill.sh prints them over the translation 4eea48bbdd006502… (all of the seat's roots in one cut). By AI agents, Wed Nov 11 2026. No macro, syntax, notation, axiom, sorry.
-/
import Derived.Test.YtoejjhehpbmgbaaChecked
import GoSem.Claim
import GoSem.ClaimJoined
import GoSem.ClaimMapViews
import Derived.JoinedTies
import Derived.KernelRfl
namespace Go.Proofs.Ytoejjhehpbmgbaa
/- THE CELL 'sum', in the pinned program and in every row, IS THE sha256 OF THE DUMP (.gsa) THAT YtoejjhehpbmgbaaProg.lean LOADS. Nothing in Lean hashes anything: it is a label: what it is worth is what the hold of that sum in a sandbox is worth. -/
noncomputable def Try.pinned : Pinned := { name := "ytoejjhehpbmgbaa", sum := "4eea48bbdd00650241c982e23a26c77ef18713aa7b4544900ed37b3fe47b8bcb", checked := Try.checked }
namespace Rows
def none {H : Type} : Left H := { results := [], args := [] }

/-- 'changelinglaw16.HeapFills': WHATEVER THE INPUT: true; the input reads as it did. -/
def heapFillsSpec : ChangeSpec := { name := "heapFills", fn := fun _ => fun
  | [d1, d2] => { results := [.lit (.bool true)], args := [d1, d2] }
  | _ => none }
def heapFillsRow : OpenClaim := { program := "ytoejjhehpbmgbaa", sum := "4eea48bbdd00650241c982e23a26c77ef18713aa7b4544900ed37b3fe47b8bcb", func := "changeling/changelinglaw16.HeapFills", spec := "heapFills", apart := false }
def HeapFillsSaid : Prop := heapFillsRow.holds Try.pinned (OpenSpec.ofChange heapFillsSpec)

/-- ITS FALSE NEIGHBOUR: 'it returns false'. Refute it at one input. -/
def heapFillsWrong : ChangeSpec := { name := "heapFills", fn := fun _ => fun
  | [d1, d2] => { results := [.lit (.bool false)], args := [d1, d2] }
  | _ => none }
def HeapFillsWrongFalsely : Prop := heapFillsRow.holds Try.pinned (OpenSpec.ofChange heapFillsWrong)

/-- 'changelinglaw16.HeapTwice': WHATEVER THE INPUT: true; the input reads as it did. -/
def heapTwiceSpec : ChangeSpec := { name := "heapTwice", fn := fun _ => fun
  | [d1, d2, d3] => { results := [.lit (.bool true)], args := [d1, d2, d3] }
  | _ => none }
def heapTwiceRow : OpenClaim := { program := "ytoejjhehpbmgbaa", sum := "4eea48bbdd00650241c982e23a26c77ef18713aa7b4544900ed37b3fe47b8bcb", func := "changeling/changelinglaw16.HeapTwice", spec := "heapTwice", apart := false }
def HeapTwiceSaid : Prop := heapTwiceRow.holds Try.pinned (OpenSpec.ofChange heapTwiceSpec)

/-- ITS FALSE NEIGHBOUR: 'it returns false'. Refute it at one input. -/
def heapTwiceWrong : ChangeSpec := { name := "heapTwice", fn := fun _ => fun
  | [d1, d2, d3] => { results := [.lit (.bool false)], args := [d1, d2, d3] }
  | _ => none }
def HeapTwiceWrongFalsely : Prop := heapTwiceRow.holds Try.pinned (OpenSpec.ofChange heapTwiceWrong)

/-- 'changelinglaw16.HeapPlays': WHATEVER THE INPUT: true; the input reads as it did. -/
def heapPlaysSpec : ChangeSpec := { name := "heapPlays", fn := fun _ => fun
  | [d1, d2] => { results := [.lit (.bool true)], args := [d1, d2] }
  | _ => none }
def heapPlaysRow : OpenClaim := { program := "ytoejjhehpbmgbaa", sum := "4eea48bbdd00650241c982e23a26c77ef18713aa7b4544900ed37b3fe47b8bcb", func := "changeling/changelinglaw16.HeapPlays", spec := "heapPlays", apart := false }
def HeapPlaysSaid : Prop := heapPlaysRow.holds Try.pinned (OpenSpec.ofChange heapPlaysSpec)

/-- ITS FALSE NEIGHBOUR: 'it returns false'. Refute it at one input. -/
def heapPlaysWrong : ChangeSpec := { name := "heapPlays", fn := fun _ => fun
  | [d1, d2] => { results := [.lit (.bool false)], args := [d1, d2] }
  | _ => none }
def HeapPlaysWrongFalsely : Prop := heapPlaysRow.holds Try.pinned (OpenSpec.ofChange heapPlaysWrong)

/-- 'changelinglaw16.HeapKeeps': WHATEVER THE INPUT: true; the input reads as it did. -/
def heapKeepsSpec : ChangeSpec := { name := "heapKeeps", fn := fun _ => fun
  | [d1, d2, d3] => { results := [.lit (.bool true)], args := [d1, d2, d3] }
  | _ => none }
def heapKeepsRow : OpenClaim := { program := "ytoejjhehpbmgbaa", sum := "4eea48bbdd00650241c982e23a26c77ef18713aa7b4544900ed37b3fe47b8bcb", func := "changeling/changelinglaw16.HeapKeeps", spec := "heapKeeps", apart := false }
def HeapKeepsSaid : Prop := heapKeepsRow.holds Try.pinned (OpenSpec.ofChange heapKeepsSpec)

/-- ITS FALSE NEIGHBOUR: 'it returns false'. Refute it at one input. -/
def heapKeepsWrong : ChangeSpec := { name := "heapKeeps", fn := fun _ => fun
  | [d1, d2, d3] => { results := [.lit (.bool false)], args := [d1, d2, d3] }
  | _ => none }
def HeapKeepsWrongFalsely : Prop := heapKeepsRow.holds Try.pinned (OpenSpec.ofChange heapKeepsWrong)

/-- 'changelinglaw16.HeapPoints': WHATEVER THE INPUT: true; the input reads as it did. -/
def heapPointsSpec : ChangeSpec := { name := "heapPoints", fn := fun _ => fun
  | [d1, d2] => { results := [.lit (.bool true)], args := [d1, d2] }
  | _ => none }
def heapPointsRow : OpenClaim := { program := "ytoejjhehpbmgbaa", sum := "4eea48bbdd00650241c982e23a26c77ef18713aa7b4544900ed37b3fe47b8bcb", func := "changeling/changelinglaw16.HeapPoints", spec := "heapPoints", apart := false }
def HeapPointsSaid : Prop := heapPointsRow.holds Try.pinned (OpenSpec.ofChange heapPointsSpec)

/-- ITS FALSE NEIGHBOUR: 'it returns false'. Refute it at one input. -/
def heapPointsWrong : ChangeSpec := { name := "heapPoints", fn := fun _ => fun
  | [d1, d2] => { results := [.lit (.bool false)], args := [d1, d2] }
  | _ => none }
def HeapPointsWrongFalsely : Prop := heapPointsRow.holds Try.pinned (OpenSpec.ofChange heapPointsWrong)

/-- 'changelinglaw16.HeapOwn': WHATEVER THE INPUT: true; the input reads as it did. -/
def heapOwnSpec : ChangeSpec := { name := "heapOwn", fn := fun _ => fun
  | [d] => { results := [.lit (.bool true)], args := [d] }
  | _ => none }
def heapOwnRow : OpenClaim := { program := "ytoejjhehpbmgbaa", sum := "4eea48bbdd00650241c982e23a26c77ef18713aa7b4544900ed37b3fe47b8bcb", func := "changeling/changelinglaw16.HeapOwn", spec := "heapOwn", apart := false }
def HeapOwnSaid : Prop := heapOwnRow.holds Try.pinned (OpenSpec.ofChange heapOwnSpec)

/-- ITS FALSE NEIGHBOUR: 'it returns false'. Refute it at one input. -/
def heapOwnWrong : ChangeSpec := { name := "heapOwn", fn := fun _ => fun
  | [d] => { results := [.lit (.bool false)], args := [d] }
  | _ => none }
def HeapOwnWrongFalsely : Prop := heapOwnRow.holds Try.pinned (OpenSpec.ofChange heapOwnWrong)

/-- 'changelinglaw08.DeclMore': WHATEVER THE INPUT: true; the input reads as it did. -/
def declMoreSpec : ChangeSpec := { name := "declMore", fn := fun _ => fun
  | [d1, d2] => { results := [.lit (.bool true)], args := [d1, d2] }
  | _ => none }
def declMoreRow : OpenClaim := { program := "ytoejjhehpbmgbaa", sum := "4eea48bbdd00650241c982e23a26c77ef18713aa7b4544900ed37b3fe47b8bcb", func := "changeling/changelinglaw08.DeclMore", spec := "declMore", recurses := true, loops := true, apart := false }
def DeclMoreSaid : Prop := declMoreRow.holds Try.pinned (OpenSpec.ofChange declMoreSpec)

/-- ITS FALSE NEIGHBOUR: 'it returns false'. Refute it at one input. -/
def declMoreWrong : ChangeSpec := { name := "declMore", fn := fun _ => fun
  | [d1, d2] => { results := [.lit (.bool false)], args := [d1, d2] }
  | _ => none }
def DeclMoreWrongFalsely : Prop := declMoreRow.holds Try.pinned (OpenSpec.ofChange declMoreWrong)

/-- 'changelinglaw08.DeclFinds': WHATEVER THE INPUT: true; the input reads as it did. -/
def declFindsSpec : ChangeSpec := { name := "declFinds", fn := fun _ => fun
  | [d] => { results := [.lit (.bool true)], args := [d] }
  | _ => none }
def declFindsRow : OpenClaim := { program := "ytoejjhehpbmgbaa", sum := "4eea48bbdd00650241c982e23a26c77ef18713aa7b4544900ed37b3fe47b8bcb", func := "changeling/changelinglaw08.DeclFinds", spec := "declFinds", recurses := true, loops := true, apart := false }
def DeclFindsSaid : Prop := declFindsRow.holds Try.pinned (OpenSpec.ofChange declFindsSpec)

/-- ITS FALSE NEIGHBOUR: 'it returns false'. Refute it at one input. -/
def declFindsWrong : ChangeSpec := { name := "declFinds", fn := fun _ => fun
  | [d] => { results := [.lit (.bool false)], args := [d] }
  | _ => none }
def DeclFindsWrongFalsely : Prop := declFindsRow.holds Try.pinned (OpenSpec.ofChange declFindsWrong)

/-- 'changelinglaw08.DeclNil': WHATEVER THE INPUT: true; the input reads as it did. -/
def declNilSpec : ChangeSpec := { name := "declNil", fn := fun _ => fun
  | [d1, d2] => { results := [.lit (.bool true)], args := [d1, d2] }
  | _ => none }
def declNilRow : OpenClaim := { program := "ytoejjhehpbmgbaa", sum := "4eea48bbdd00650241c982e23a26c77ef18713aa7b4544900ed37b3fe47b8bcb", func := "changeling/changelinglaw08.DeclNil", spec := "declNil", recurses := true, loops := true, apart := false }
def DeclNilSaid : Prop := declNilRow.holds Try.pinned (OpenSpec.ofChange declNilSpec)

/-- ITS FALSE NEIGHBOUR: 'it returns false'. Refute it at one input. -/
def declNilWrong : ChangeSpec := { name := "declNil", fn := fun _ => fun
  | [d1, d2] => { results := [.lit (.bool false)], args := [d1, d2] }
  | _ => none }
def DeclNilWrongFalsely : Prop := declNilRow.holds Try.pinned (OpenSpec.ofChange declNilWrong)

/- THE SECOND FORM. 'bulk': how many values and letters a reading holds, each counted each time it is reached (what is shared counts as often as it is met; a slice's spare places count too). A statement '..UptoSaid' is the law's where the arguments, and the package variables that the reading takes, are together of bulk at most 1048576: NARROWER than '..Said'. Prove '..Said' where nothing that the law and all that it calls make is longer than what came in: it says more and counts as full. Else prove '..UptoSaid'. A law counts once. -/
mutual
def uptoBulk {H : Type} : DataW H → Nat
  | .lit (.string bytes) => bytes.length + 1
  | .lit _ => 1
  | .nil => 1
  | .ptr d => uptoBulk d + 1
  | .slice elems spare => uptoBulkAll elems + uptoBulkAll spare + 1
  | .agg parts => uptoBulkAll parts + 1
  | .iface _ d => uptoBulk d + 1
  | .map entries => uptoBulkEntries entries + 1
  | .held _ => 1
def uptoBulkAll {H : Type} : List (DataW H) → Nat
  | [] => 0
  | d :: r => uptoBulk d + uptoBulkAll r
def uptoBulkEntries {H : Type} : List (Lit × DataW H) → Nat
  | [] => 0
  | x :: r => uptoBulkEntry x + uptoBulkEntries r
def uptoBulkEntry {H : Type} : Lit × DataW H → Nat
  | (.string bytes, d) => bytes.length + uptoBulk d + 1
  | (_, d) => uptoBulk d + 1
 end
def uptoSmall : (H : Type) → List (DataW H) → Bool := fun _ ds => decide (uptoBulkAll ds ≤ 1048576)
def OpenSpec.upto (s : _root_.Go.ChangeSpec) : _root_.Go.OpenSpec := { _root_.Go.OpenSpec.ofChange s with cond := some uptoSmall }

/-- 'changelinglaw16.HeapFills', WHERE WHAT IT READS IS OF BULK AT MOST 1048576: true; the input reads as it did. -/
def heapFillsUptoRow : OpenClaim := { program := "ytoejjhehpbmgbaa", sum := "4eea48bbdd00650241c982e23a26c77ef18713aa7b4544900ed37b3fe47b8bcb", func := "changeling/changelinglaw16.HeapFills", spec := "heapFills", apart := false, narrowed := true }
def HeapFillsUptoSaid : Prop := heapFillsUptoRow.holds Try.pinned (OpenSpec.upto heapFillsSpec)

/-- 'changelinglaw16.HeapTwice', WHERE WHAT IT READS IS OF BULK AT MOST 1048576: true; the input reads as it did. -/
def heapTwiceUptoRow : OpenClaim := { program := "ytoejjhehpbmgbaa", sum := "4eea48bbdd00650241c982e23a26c77ef18713aa7b4544900ed37b3fe47b8bcb", func := "changeling/changelinglaw16.HeapTwice", spec := "heapTwice", apart := false, narrowed := true }
def HeapTwiceUptoSaid : Prop := heapTwiceUptoRow.holds Try.pinned (OpenSpec.upto heapTwiceSpec)

/-- 'changelinglaw16.HeapPlays', WHERE WHAT IT READS IS OF BULK AT MOST 1048576: true; the input reads as it did. -/
def heapPlaysUptoRow : OpenClaim := { program := "ytoejjhehpbmgbaa", sum := "4eea48bbdd00650241c982e23a26c77ef18713aa7b4544900ed37b3fe47b8bcb", func := "changeling/changelinglaw16.HeapPlays", spec := "heapPlays", apart := false, narrowed := true }
def HeapPlaysUptoSaid : Prop := heapPlaysUptoRow.holds Try.pinned (OpenSpec.upto heapPlaysSpec)

/-- 'changelinglaw16.HeapKeeps', WHERE WHAT IT READS IS OF BULK AT MOST 1048576: true; the input reads as it did. -/
def heapKeepsUptoRow : OpenClaim := { program := "ytoejjhehpbmgbaa", sum := "4eea48bbdd00650241c982e23a26c77ef18713aa7b4544900ed37b3fe47b8bcb", func := "changeling/changelinglaw16.HeapKeeps", spec := "heapKeeps", apart := false, narrowed := true }
def HeapKeepsUptoSaid : Prop := heapKeepsUptoRow.holds Try.pinned (OpenSpec.upto heapKeepsSpec)

/-- 'changelinglaw16.HeapPoints', WHERE WHAT IT READS IS OF BULK AT MOST 1048576: true; the input reads as it did. -/
def heapPointsUptoRow : OpenClaim := { program := "ytoejjhehpbmgbaa", sum := "4eea48bbdd00650241c982e23a26c77ef18713aa7b4544900ed37b3fe47b8bcb", func := "changeling/changelinglaw16.HeapPoints", spec := "heapPoints", apart := false, narrowed := true }
def HeapPointsUptoSaid : Prop := heapPointsUptoRow.holds Try.pinned (OpenSpec.upto heapPointsSpec)

/-- 'changelinglaw16.HeapOwn', WHERE WHAT IT READS IS OF BULK AT MOST 1048576: true; the input reads as it did. -/
def heapOwnUptoRow : OpenClaim := { program := "ytoejjhehpbmgbaa", sum := "4eea48bbdd00650241c982e23a26c77ef18713aa7b4544900ed37b3fe47b8bcb", func := "changeling/changelinglaw16.HeapOwn", spec := "heapOwn", apart := false, narrowed := true }
def HeapOwnUptoSaid : Prop := heapOwnUptoRow.holds Try.pinned (OpenSpec.upto heapOwnSpec)

/-- 'changelinglaw08.DeclMore', WHERE WHAT IT READS IS OF BULK AT MOST 1048576: true; the input reads as it did. -/
def declMoreUptoRow : OpenClaim := { program := "ytoejjhehpbmgbaa", sum := "4eea48bbdd00650241c982e23a26c77ef18713aa7b4544900ed37b3fe47b8bcb", func := "changeling/changelinglaw08.DeclMore", spec := "declMore", recurses := true, loops := true, apart := false, narrowed := true }
def DeclMoreUptoSaid : Prop := declMoreUptoRow.holds Try.pinned (OpenSpec.upto declMoreSpec)

/-- 'changelinglaw08.DeclFinds', WHERE WHAT IT READS IS OF BULK AT MOST 1048576: true; the input reads as it did. -/
def declFindsUptoRow : OpenClaim := { program := "ytoejjhehpbmgbaa", sum := "4eea48bbdd00650241c982e23a26c77ef18713aa7b4544900ed37b3fe47b8bcb", func := "changeling/changelinglaw08.DeclFinds", spec := "declFinds", recurses := true, loops := true, apart := false, narrowed := true }
def DeclFindsUptoSaid : Prop := declFindsUptoRow.holds Try.pinned (OpenSpec.upto declFindsSpec)

/-- 'changelinglaw08.DeclNil', WHERE WHAT IT READS IS OF BULK AT MOST 1048576: true; the input reads as it did. -/
def declNilUptoRow : OpenClaim := { program := "ytoejjhehpbmgbaa", sum := "4eea48bbdd00650241c982e23a26c77ef18713aa7b4544900ed37b3fe47b8bcb", func := "changeling/changelinglaw08.DeclNil", spec := "declNil", recurses := true, loops := true, apart := false, narrowed := true }
def DeclNilUptoSaid : Prop := declNilUptoRow.holds Try.pinned (OpenSpec.upto declNilSpec)

end Rows
end Go.Proofs.Ytoejjhehpbmgbaa
