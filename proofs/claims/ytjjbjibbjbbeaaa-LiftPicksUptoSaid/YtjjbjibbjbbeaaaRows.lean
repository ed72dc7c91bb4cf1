/-
  NARROWER THAN 'FOR EVERY INPUT', by the rows' own cells (each row's printed sentence says how): ValuesNil: loops · LiftPicks: loops · LiftAlone: loops · CodeSound: loops · CodeAlone: loops · CodeStarts: loops.
  DERIVED. THE GIVEN ROWS OF THIS SEAT. 6 by the template 'for every input the law returns true; each argument reads behind the call as it read before'; 0 by the template 'total and deterministic' (their statements: YtjjbjibbjbbeaaaTotals.lean).
  GIVEN WITH THE SEED: the statements are not yours to turn. If you find one false, say at which input.
  Laid BY PROGRAM, IN A SANDBOX (cutbox-rows.mjs): the forced cells as the released guide's own fill.sh prints them over the translation b46d0546a29c28b6… (all of the seat's roots in one cut). By AI agents, Wed Nov 11 2026. No macro, syntax, notation, axiom, sorry.
-/
import Derived.Test.YtjjbjibbjbbeaaaChecked
import GoSem.Claim
import GoSem.ClaimJoined
import GoSem.ClaimMapViews
import Derived.JoinedTies
import Derived.KernelRfl
namespace Go.Proofs.Ytjjbjibbjbbeaaa
/- THE CELL 'sum', in the pinned program and in every row, IS THE sha256 OF THE DUMP (.gsa) THAT YtjjbjibbjbbeaaaProg.lean LOADS. Nothing in Lean hashes anything: it is a label: what it is worth is what the hold of that sum in a sandbox is worth. -/
noncomputable def Try.pinned : Pinned := { name := "ytjjbjibbjbbeaaa", sum := "b46d0546a29c28b656855ac2a51dd022c6cd37cb17b554b1806112cd76d0fbe2", checked := Try.checked }
namespace Rows
def none {H : Type} : Left H := { results := [], args := [] }

/-- 'changelinglaw20.ValuesNil': WHATEVER THE INPUT: true; the input reads as it did. -/
def valuesNilSpec : ChangeSpec := { name := "valuesNil", fn := fun _ => fun
  | [d1, d2] => { results := [.lit (.bool true)], args := [d1, d2] }
  | _ => none }
def valuesNilRow : OpenClaim := { program := "ytjjbjibbjbbeaaa", sum := "b46d0546a29c28b656855ac2a51dd022c6cd37cb17b554b1806112cd76d0fbe2", func := "changeling/changelinglaw20.ValuesNil", spec := "valuesNil", recurses := true, loops := true, plainKeys := false, apart := false }
def ValuesNilSaid : Prop := valuesNilRow.holds Try.pinned (OpenSpec.ofChange valuesNilSpec)

/-- ITS FALSE NEIGHBOUR: 'it returns false'. Refute it at one input. -/
def valuesNilWrong : ChangeSpec := { name := "valuesNil", fn := fun _ => fun
  | [d1, d2] => { results := [.lit (.bool false)], args := [d1, d2] }
  | _ => none }
def ValuesNilWrongFalsely : Prop := valuesNilRow.holds Try.pinned (OpenSpec.ofChange valuesNilWrong)

/-- 'changelinglaw15.LiftPicks': WHATEVER THE INPUT: true; the input reads as it did. -/
def liftPicksSpec : ChangeSpec := { name := "liftPicks", fn := fun _ => fun
  | [d1, d2, d3] => { results := [.lit (.bool true)], args := [d1, d2, d3] }
  | _ => none }
def liftPicksRow : OpenClaim := { program := "ytjjbjibbjbbeaaa", sum := "b46d0546a29c28b656855ac2a51dd022c6cd37cb17b554b1806112cd76d0fbe2", func := "changeling/changelinglaw15.LiftPicks", spec := "liftPicks", unfollowed := true, recurses := true, loops := true, plainKeys := false, apart := false }
def LiftPicksSaid : Prop := liftPicksRow.holds Try.pinned (OpenSpec.ofChange liftPicksSpec)

/-- ITS FALSE NEIGHBOUR: 'it returns false'. Refute it at one input. -/
def liftPicksWrong : ChangeSpec := { name := "liftPicks", fn := fun _ => fun
  | [d1, d2, d3] => { results := [.lit (.bool false)], args := [d1, d2, d3] }
  | _ => none }
def LiftPicksWrongFalsely : Prop := liftPicksRow.holds Try.pinned (OpenSpec.ofChange liftPicksWrong)

/-- 'changelinglaw15.LiftAlone': WHATEVER THE INPUT: true; the input reads as it did. -/
def liftAloneSpec : ChangeSpec := { name := "liftAlone", fn := fun _ => fun
  | [d1, d2] => { results := [.lit (.bool true)], args := [d1, d2] }
  | _ => none }
def liftAloneRow : OpenClaim := { program := "ytjjbjibbjbbeaaa", sum := "b46d0546a29c28b656855ac2a51dd022c6cd37cb17b554b1806112cd76d0fbe2", func := "changeling/changelinglaw15.LiftAlone", spec := "liftAlone", unfollowed := true, recurses := true, loops := true, plainKeys := false, apart := false }
def LiftAloneSaid : Prop := liftAloneRow.holds Try.pinned (OpenSpec.ofChange liftAloneSpec)

/-- ITS FALSE NEIGHBOUR: 'it returns false'. Refute it at one input. -/
def liftAloneWrong : ChangeSpec := { name := "liftAlone", fn := fun _ => fun
  | [d1, d2] => { results := [.lit (.bool false)], args := [d1, d2] }
  | _ => none }
def LiftAloneWrongFalsely : Prop := liftAloneRow.holds Try.pinned (OpenSpec.ofChange liftAloneWrong)

/-- 'changelinglaw17.CodeSound': WHATEVER THE INPUT: true; the input reads as it did. -/
def codeSoundSpec : ChangeSpec := { name := "codeSound", fn := fun _ => fun
  | [d1, d2] => { results := [.lit (.bool true)], args := [d1, d2] }
  | _ => none }
def codeSoundRow : OpenClaim := { program := "ytjjbjibbjbbeaaa", sum := "b46d0546a29c28b656855ac2a51dd022c6cd37cb17b554b1806112cd76d0fbe2", func := "changeling/changelinglaw17.CodeSound", spec := "codeSound", unfollowed := true, recurses := true, loops := true, plainKeys := false, apart := false }
def CodeSoundSaid : Prop := codeSoundRow.holds Try.pinned (OpenSpec.ofChange codeSoundSpec)

/-- ITS FALSE NEIGHBOUR: 'it returns false'. Refute it at one input. -/
def codeSoundWrong : ChangeSpec := { name := "codeSound", fn := fun _ => fun
  | [d1, d2] => { results := [.lit (.bool false)], args := [d1, d2] }
  | _ => none }
def CodeSoundWrongFalsely : Prop := codeSoundRow.holds Try.pinned (OpenSpec.ofChange codeSoundWrong)

/-- 'changelinglaw17.CodeAlone': WHATEVER THE INPUT: true; the input reads as it did. -/
def codeAloneSpec : ChangeSpec := { name := "codeAlone", fn := fun _ => fun
  | [d1, d2, d3] => { results := [.lit (.bool true)], args := [d1, d2, d3] }
  | _ => none }
def codeAloneRow : OpenClaim := { program := "ytjjbjibbjbbeaaa", sum := "b46d0546a29c28b656855ac2a51dd022c6cd37cb17b554b1806112cd76d0fbe2", func := "changeling/changelinglaw17.CodeAlone", spec := "codeAlone", recurses := true, loops := true, plainKeys := false, apart := false }
def CodeAloneSaid : Prop := codeAloneRow.holds Try.pinned (OpenSpec.ofChange codeAloneSpec)

/-- ITS FALSE NEIGHBOUR: 'it returns false'. Refute it at one input. -/
def codeAloneWrong : ChangeSpec := { name := "codeAlone", fn := fun _ => fun
  | [d1, d2, d3] => { results := [.lit (.bool false)], args := [d1, d2, d3] }
  | _ => none }
def CodeAloneWrongFalsely : Prop := codeAloneRow.holds Try.pinned (OpenSpec.ofChange codeAloneWrong)

/-- 'changelinglaw17.CodeStarts': WHATEVER THE INPUT: true; the input reads as it did. -/
def codeStartsSpec : ChangeSpec := { name := "codeStarts", fn := fun _ => fun
  | [d1, d2, d3] => { results := [.lit (.bool true)], args := [d1, d2, d3] }
  | _ => none }
def codeStartsRow : OpenClaim := { program := "ytjjbjibbjbbeaaa", sum := "b46d0546a29c28b656855ac2a51dd022c6cd37cb17b554b1806112cd76d0fbe2", func := "changeling/changelinglaw17.CodeStarts", spec := "codeStarts", recurses := true, loops := true, plainKeys := false, apart := false }
def CodeStartsSaid : Prop := codeStartsRow.holds Try.pinned (OpenSpec.ofChange codeStartsSpec)

/-- ITS FALSE NEIGHBOUR: 'it returns false'. Refute it at one input. -/
def codeStartsWrong : ChangeSpec := { name := "codeStarts", fn := fun _ => fun
  | [d1, d2, d3] => { results := [.lit (.bool false)], args := [d1, d2, d3] }
  | _ => none }
def CodeStartsWrongFalsely : Prop := codeStartsRow.holds Try.pinned (OpenSpec.ofChange codeStartsWrong)

/- THE SECOND FORM. 'bulk': how many values and letters a reading holds, each counted each time it is reached (what is shared counts as often as it is met; a slice's spare places count too). A statement '..UptoSaid' is the law's where the arguments, and the package variables that the reading takes, are together of bulk at most 1048576: NARROWER than '..Said'. Prove '..Said' where nothing that the law and all that it calls make is longer than what came in: it says more and counts as full. Else prove '..UptoSaid'. A law counts once. -/
mutual
def uptoBulk {H : Type} : DataW H → Nat
  | .lit (.string bytes) => bytes.length + 1
  | .lit _ => 1
  | .nil => 1
  | .ptr d => uptoBulk d + 1
  | .slice elems spare => uptoBulkAll elems + uptoBulkAll spare + 1
  | .agg parts => uptoBulkAll parts + 1
  | .iface _ d => uptoBulk d + 1
  | .map entries => uptoBulkEntries entries + 1
  | .held _ => 1
def uptoBulkAll {H : Type} : List (DataW H) → Nat
  | [] => 0
  | d :: r => uptoBulk d + uptoBulkAll r
def uptoBulkEntries {H : Type} : List (Lit × DataW H) → Nat
  | [] => 0
  | x :: r => uptoBulkEntry x + uptoBulkEntries r
def uptoBulkEntry {H : Type} : Lit × DataW H → Nat
  | (.string bytes, d) => bytes.length + uptoBulk d + 1
  | (_, d) => uptoBulk d + 1
 end
def uptoSmall : (H : Type) → List (DataW H) → Bool := fun _ ds => decide (uptoBulkAll ds ≤ 1048576)
def OpenSpec.upto (s : _root_.Go.ChangeSpec) : _root_.Go.OpenSpec := { _root_.Go.OpenSpec.ofChange s with cond := some uptoSmall }

/-- 'changelinglaw20.ValuesNil', WHERE WHAT IT READS IS OF BULK AT MOST 1048576: true; the input reads as it did. -/
def valuesNilUptoRow : OpenClaim := { program := "ytjjbjibbjbbeaaa", sum := "b46d0546a29c28b656855ac2a51dd022c6cd37cb17b554b1806112cd76d0fbe2", func := "changeling/changelinglaw20.ValuesNil", spec := "valuesNil", recurses := true, loops := true, plainKeys := false, apart := false, narrowed := true }
def ValuesNilUptoSaid : Prop := valuesNilUptoRow.holds Try.pinned (OpenSpec.upto valuesNilSpec)

/-- 'changelinglaw15.LiftPicks', WHERE WHAT IT READS IS OF BULK AT MOST 1048576: true; the input reads as it did. -/
def liftPicksUptoRow : OpenClaim := { program := "ytjjbjibbjbbeaaa", sum := "b46d0546a29c28b656855ac2a51dd022c6cd37cb17b554b1806112cd76d0fbe2", func := "changeling/changelinglaw15.LiftPicks", spec := "liftPicks", unfollowed := true, recurses := true, loops := true, plainKeys := false, apart := false, narrowed := true }
def LiftPicksUptoSaid : Prop := liftPicksUptoRow.holds Try.pinned (OpenSpec.upto liftPicksSpec)

/-- 'changelinglaw15.LiftAlone', WHERE WHAT IT READS IS OF BULK AT MOST 1048576: true; the input reads as it did. -/
def liftAloneUptoRow : OpenClaim := { program := "ytjjbjibbjbbeaaa", sum := "b46d0546a29c28b656855ac2a51dd022c6cd37cb17b554b1806112cd76d0fbe2", func := "changeling/changelinglaw15.LiftAlone", spec := "liftAlone", unfollowed := true, recurses := true, loops := true, plainKeys := false, apart := false, narrowed := true }
def LiftAloneUptoSaid : Prop := liftAloneUptoRow.holds Try.pinned (OpenSpec.upto liftAloneSpec)

/-- 'changelinglaw17.CodeSound', WHERE WHAT IT READS IS OF BULK AT MOST 1048576: true; the input reads as it did. -/
def codeSoundUptoRow : OpenClaim := { program := "ytjjbjibbjbbeaaa", sum := "b46d0546a29c28b656855ac2a51dd022c6cd37cb17b554b1806112cd76d0fbe2", func := "changeling/changelinglaw17.CodeSound", spec := "codeSound", unfollowed := true, recurses := true, loops := true, plainKeys := false, apart := false, narrowed := true }
def CodeSoundUptoSaid : Prop := codeSoundUptoRow.holds Try.pinned (OpenSpec.upto codeSoundSpec)

/-- 'changelinglaw17.CodeAlone', WHERE WHAT IT READS IS OF BULK AT MOST 1048576: true; the input reads as it did. -/
def codeAloneUptoRow : OpenClaim := { program := "ytjjbjibbjbbeaaa", sum := "b46d0546a29c28b656855ac2a51dd022c6cd37cb17b554b1806112cd76d0fbe2", func := "changeling/changelinglaw17.CodeAlone", spec := "codeAlone", recurses := true, loops := true, plainKeys := false, apart := false, narrowed := true }
def CodeAloneUptoSaid : Prop := codeAloneUptoRow.holds Try.pinned (OpenSpec.upto codeAloneSpec)

/-- 'changelinglaw17.CodeStarts', WHERE WHAT IT READS IS OF BULK AT MOST 1048576: true; the input reads as it did. -/
def codeStartsUptoRow : OpenClaim := { program := "ytjjbjibbjbbeaaa", sum := "b46d0546a29c28b656855ac2a51dd022c6cd37cb17b554b1806112cd76d0fbe2", func := "changeling/changelinglaw17.CodeStarts", spec := "codeStarts", recurses := true, loops := true, plainKeys := false, apart := false, narrowed := true }
def CodeStartsUptoSaid : Prop := codeStartsUptoRow.holds Try.pinned (OpenSpec.upto codeStartsSpec)

end Rows
end Go.Proofs.Ytjjbjibbjbbeaaa
