/-
  No cell of these rows narrows 'for every input' (looked for: loops, veiled, ifaces, maps, wideKeys, modest, calm, conditions, laid).
  DERIVED. THE GIVEN ROWS OF THIS SEAT. 9 by the template 'for every input the law returns true; each argument reads behind the call as it read before'; 0 by the template 'total and deterministic' (their statements: YtahagecdebadfaaTotals.lean).
  GIVEN WITH THE SEED: the statements are not yours to turn. If you find one false, say at which input.
  Laid BY PROGRAM, IN A SANDBOX (cutbox-rows.mjs): the forced cells as the released guide's own fill.sh prints them over the translation 68ee6f282c0463fd… (all of the seat's roots in one cut). By AI agents, Wed Nov 11 2026. No macro, syntax, notation, axiom, sorry.
-/
import Derived.Test.YtahagecdebadfaaChecked
import GoSem.Claim
import GoSem.ClaimJoined
import GoSem.ClaimMapViews
import Derived.JoinedTies
import Derived.KernelRfl
namespace Go.Proofs.Ytahagecdebadfaa
/- THE CELL 'sum', in the pinned program and in every row, IS THE sha256 OF THE DUMP (.gsa) THAT YtahagecdebadfaaProg.lean LOADS. Nothing in Lean hashes anything: it is a label: what it is worth is what the hold of that sum in a sandbox is worth. -/
noncomputable def Try.pinned : Pinned := { name := "ytahagecdebadfaa", sum := "68ee6f282c0463fd7a2d5186382e9aec0a12110d7a1c5253ef9ddfc6f33abd6b", checked := Try.checked }
namespace Rows
def none {H : Type} : Left H := { results := [], args := [] }

/-- 'caissonlaw09.EntriesRuns': WHATEVER THE INPUT: true; the input reads as it did. -/
def entriesRunsSpec : ChangeSpec := { name := "entriesRuns", fn := fun _ => fun
  | [d1, d2, d3, d4] => { results := [.lit (.bool true)], args := [d1, d2, d3, d4] }
  | _ => none }
def entriesRunsRow : OpenClaim := { program := "ytahagecdebadfaa", sum := "68ee6f282c0463fd7a2d5186382e9aec0a12110d7a1c5253ef9ddfc6f33abd6b", func := "caisson/caissonlaw09.EntriesRuns", spec := "entriesRuns", unfollowed := true, recurses := true, apart := false }
def EntriesRunsSaid : Prop := entriesRunsRow.holds Try.pinned (OpenSpec.ofChange entriesRunsSpec)

/-- ITS FALSE NEIGHBOUR: 'it returns false'. Refute it at one input. -/
def entriesRunsWrong : ChangeSpec := { name := "entriesRuns", fn := fun _ => fun
  | [d1, d2, d3, d4] => { results := [.lit (.bool false)], args := [d1, d2, d3, d4] }
  | _ => none }
def EntriesRunsWrongFalsely : Prop := entriesRunsRow.holds Try.pinned (OpenSpec.ofChange entriesRunsWrong)

/-- 'caissonlaw09.EntriesJoin': WHATEVER THE INPUT: true; the input reads as it did. -/
def entriesJoinSpec : ChangeSpec := { name := "entriesJoin", fn := fun _ => fun
  | [d1, d2, d3, d4] => { results := [.lit (.bool true)], args := [d1, d2, d3, d4] }
  | _ => none }
def entriesJoinRow : OpenClaim := { program := "ytahagecdebadfaa", sum := "68ee6f282c0463fd7a2d5186382e9aec0a12110d7a1c5253ef9ddfc6f33abd6b", func := "caisson/caissonlaw09.EntriesJoin", spec := "entriesJoin", unfollowed := true, recurses := true, apart := false }
def EntriesJoinSaid : Prop := entriesJoinRow.holds Try.pinned (OpenSpec.ofChange entriesJoinSpec)

/-- ITS FALSE NEIGHBOUR: 'it returns false'. Refute it at one input. -/
def entriesJoinWrong : ChangeSpec := { name := "entriesJoin", fn := fun _ => fun
  | [d1, d2, d3, d4] => { results := [.lit (.bool false)], args := [d1, d2, d3, d4] }
  | _ => none }
def EntriesJoinWrongFalsely : Prop := entriesJoinRow.holds Try.pinned (OpenSpec.ofChange entriesJoinWrong)

/-- 'caissonlaw09.EntriesBack': WHATEVER THE INPUT: true; the input reads as it did. -/
def entriesBackSpec : ChangeSpec := { name := "entriesBack", fn := fun _ => fun
  | [d1, d2, d3] => { results := [.lit (.bool true)], args := [d1, d2, d3] }
  | _ => none }
def entriesBackRow : OpenClaim := { program := "ytahagecdebadfaa", sum := "68ee6f282c0463fd7a2d5186382e9aec0a12110d7a1c5253ef9ddfc6f33abd6b", func := "caisson/caissonlaw09.EntriesBack", spec := "entriesBack", unfollowed := true, recurses := true, apart := false }
def EntriesBackSaid : Prop := entriesBackRow.holds Try.pinned (OpenSpec.ofChange entriesBackSpec)

/-- ITS FALSE NEIGHBOUR: 'it returns false'. Refute it at one input. -/
def entriesBackWrong : ChangeSpec := { name := "entriesBack", fn := fun _ => fun
  | [d1, d2, d3] => { results := [.lit (.bool false)], args := [d1, d2, d3] }
  | _ => none }
def EntriesBackWrongFalsely : Prop := entriesBackRow.holds Try.pinned (OpenSpec.ofChange entriesBackWrong)

/-- 'caissonlaw09.EntriesOver': WHATEVER THE INPUT: true; the input reads as it did. -/
def entriesOverSpec : ChangeSpec := { name := "entriesOver", fn := fun _ => fun
  | [d1, d2, d3] => { results := [.lit (.bool true)], args := [d1, d2, d3] }
  | _ => none }
def entriesOverRow : OpenClaim := { program := "ytahagecdebadfaa", sum := "68ee6f282c0463fd7a2d5186382e9aec0a12110d7a1c5253ef9ddfc6f33abd6b", func := "caisson/caissonlaw09.EntriesOver", spec := "entriesOver", unfollowed := true, recurses := true, apart := false }
def EntriesOverSaid : Prop := entriesOverRow.holds Try.pinned (OpenSpec.ofChange entriesOverSpec)

/-- ITS FALSE NEIGHBOUR: 'it returns false'. Refute it at one input. -/
def entriesOverWrong : ChangeSpec := { name := "entriesOver", fn := fun _ => fun
  | [d1, d2, d3] => { results := [.lit (.bool false)], args := [d1, d2, d3] }
  | _ => none }
def EntriesOverWrongFalsely : Prop := entriesOverRow.holds Try.pinned (OpenSpec.ofChange entriesOverWrong)

/-- 'caissonlaw09.EntriesNil': WHATEVER THE INPUT: true; the input reads as it did. -/
def entriesNilSpec : ChangeSpec := { name := "entriesNil", fn := fun _ => fun
  | [d1, d2] => { results := [.lit (.bool true)], args := [d1, d2] }
  | _ => none }
def entriesNilRow : OpenClaim := { program := "ytahagecdebadfaa", sum := "68ee6f282c0463fd7a2d5186382e9aec0a12110d7a1c5253ef9ddfc6f33abd6b", func := "caisson/caissonlaw09.EntriesNil", spec := "entriesNil", unfollowed := true, recurses := true, apart := false }
def EntriesNilSaid : Prop := entriesNilRow.holds Try.pinned (OpenSpec.ofChange entriesNilSpec)

/-- ITS FALSE NEIGHBOUR: 'it returns false'. Refute it at one input. -/
def entriesNilWrong : ChangeSpec := { name := "entriesNil", fn := fun _ => fun
  | [d1, d2] => { results := [.lit (.bool false)], args := [d1, d2] }
  | _ => none }
def EntriesNilWrongFalsely : Prop := entriesNilRow.holds Try.pinned (OpenSpec.ofChange entriesNilWrong)

/-- 'caissonlaw09.EntriesPack': WHATEVER THE INPUT: true; the input reads as it did. -/
def entriesPackSpec : ChangeSpec := { name := "entriesPack", fn := fun _ => fun
  | [d1, d2] => { results := [.lit (.bool true)], args := [d1, d2] }
  | _ => none }
def entriesPackRow : OpenClaim := { program := "ytahagecdebadfaa", sum := "68ee6f282c0463fd7a2d5186382e9aec0a12110d7a1c5253ef9ddfc6f33abd6b", func := "caisson/caissonlaw09.EntriesPack", spec := "entriesPack", unfollowed := true, recurses := true, apart := false }
def EntriesPackSaid : Prop := entriesPackRow.holds Try.pinned (OpenSpec.ofChange entriesPackSpec)

/-- ITS FALSE NEIGHBOUR: 'it returns false'. Refute it at one input. -/
def entriesPackWrong : ChangeSpec := { name := "entriesPack", fn := fun _ => fun
  | [d1, d2] => { results := [.lit (.bool false)], args := [d1, d2] }
  | _ => none }
def EntriesPackWrongFalsely : Prop := entriesPackRow.holds Try.pinned (OpenSpec.ofChange entriesPackWrong)

/-- 'caissonlaw09.EntriesLetters': WHATEVER THE INPUT: true; the input reads as it did. -/
def entriesLettersSpec : ChangeSpec := { name := "entriesLetters", fn := fun _ => fun
  | [d1, d2] => { results := [.lit (.bool true)], args := [d1, d2] }
  | _ => none }
def entriesLettersRow : OpenClaim := { program := "ytahagecdebadfaa", sum := "68ee6f282c0463fd7a2d5186382e9aec0a12110d7a1c5253ef9ddfc6f33abd6b", func := "caisson/caissonlaw09.EntriesLetters", spec := "entriesLetters", unfollowed := true, recurses := true, apart := false }
def EntriesLettersSaid : Prop := entriesLettersRow.holds Try.pinned (OpenSpec.ofChange entriesLettersSpec)

/-- ITS FALSE NEIGHBOUR: 'it returns false'. Refute it at one input. -/
def entriesLettersWrong : ChangeSpec := { name := "entriesLetters", fn := fun _ => fun
  | [d1, d2] => { results := [.lit (.bool false)], args := [d1, d2] }
  | _ => none }
def EntriesLettersWrongFalsely : Prop := entriesLettersRow.holds Try.pinned (OpenSpec.ofChange entriesLettersWrong)

/-- 'caissonlaw09.EntriesTurned': WHATEVER THE INPUT: true; the input reads as it did. -/
def entriesTurnedSpec : ChangeSpec := { name := "entriesTurned", fn := fun _ => fun
  | [d1, d2, d3, d4] => { results := [.lit (.bool true)], args := [d1, d2, d3, d4] }
  | _ => none }
def entriesTurnedRow : OpenClaim := { program := "ytahagecdebadfaa", sum := "68ee6f282c0463fd7a2d5186382e9aec0a12110d7a1c5253ef9ddfc6f33abd6b", func := "caisson/caissonlaw09.EntriesTurned", spec := "entriesTurned", unfollowed := true, recurses := true, apart := false }
def EntriesTurnedSaid : Prop := entriesTurnedRow.holds Try.pinned (OpenSpec.ofChange entriesTurnedSpec)

/-- ITS FALSE NEIGHBOUR: 'it returns false'. Refute it at one input. -/
def entriesTurnedWrong : ChangeSpec := { name := "entriesTurned", fn := fun _ => fun
  | [d1, d2, d3, d4] => { results := [.lit (.bool false)], args := [d1, d2, d3, d4] }
  | _ => none }
def EntriesTurnedWrongFalsely : Prop := entriesTurnedRow.holds Try.pinned (OpenSpec.ofChange entriesTurnedWrong)

/-- 'caissonlaw10.RaftAlone': WHATEVER THE INPUT: true; the input reads as it did. -/
def raftAloneSpec : ChangeSpec := { name := "raftAlone", fn := fun _ => fun
  | [d1, d2, d3] => { results := [.lit (.bool true)], args := [d1, d2, d3] }
  | _ => none }
def raftAloneRow : OpenClaim := { program := "ytahagecdebadfaa", sum := "68ee6f282c0463fd7a2d5186382e9aec0a12110d7a1c5253ef9ddfc6f33abd6b", func := "caisson/caissonlaw10.RaftAlone", spec := "raftAlone", unfollowed := true, recurses := true, apart := false }
def RaftAloneSaid : Prop := raftAloneRow.holds Try.pinned (OpenSpec.ofChange raftAloneSpec)

/-- ITS FALSE NEIGHBOUR: 'it returns false'. Refute it at one input. -/
def raftAloneWrong : ChangeSpec := { name := "raftAlone", fn := fun _ => fun
  | [d1, d2, d3] => { results := [.lit (.bool false)], args := [d1, d2, d3] }
  | _ => none }
def RaftAloneWrongFalsely : Prop := raftAloneRow.holds Try.pinned (OpenSpec.ofChange raftAloneWrong)

/- THE SECOND FORM. 'bulk': how many values and letters a reading holds, each counted each time it is reached (what is shared counts as often as it is met; a slice's spare places count too). A statement '..UptoSaid' is the law's where the arguments, and the package variables that the reading takes, are together of bulk at most 1048576: NARROWER than '..Said'. Prove '..Said' where nothing that the law and all that it calls make is longer than what came in: it says more and counts as full. Else prove '..UptoSaid'. A law counts once. -/
mutual
def uptoBulk {H : Type} : DataW H → Nat
  | .lit (.string bytes) => bytes.length + 1
  | .lit _ => 1
  | .nil => 1
  | .ptr d => uptoBulk d + 1
  | .slice elems spare => uptoBulkAll elems + uptoBulkAll spare + 1
  | .agg parts => uptoBulkAll parts + 1
  | .iface _ d => uptoBulk d + 1
  | .map entries => uptoBulkEntries entries + 1
  | .held _ => 1
def uptoBulkAll {H : Type} : List (DataW H) → Nat
  | [] => 0
  | d :: r => uptoBulk d + uptoBulkAll r
def uptoBulkEntries {H : Type} : List (Lit × DataW H) → Nat
  | [] => 0
  | x :: r => uptoBulkEntry x + uptoBulkEntries r
def uptoBulkEntry {H : Type} : Lit × DataW H → Nat
  | (.string bytes, d) => bytes.length + uptoBulk d + 1
  | (_, d) => uptoBulk d + 1
 end
def uptoSmall : (H : Type) → List (DataW H) → Bool := fun _ ds => decide (uptoBulkAll ds ≤ 1048576)
def OpenSpec.upto (s : _root_.Go.ChangeSpec) : _root_.Go.OpenSpec := { _root_.Go.OpenSpec.ofChange s with cond := some uptoSmall }

/-- 'caissonlaw09.EntriesRuns', WHERE WHAT IT READS IS OF BULK AT MOST 1048576: true; the input reads as it did. -/
def entriesRunsUptoRow : OpenClaim := { program := "ytahagecdebadfaa", sum := "68ee6f282c0463fd7a2d5186382e9aec0a12110d7a1c5253ef9ddfc6f33abd6b", func := "caisson/caissonlaw09.EntriesRuns", spec := "entriesRuns", unfollowed := true, recurses := true, apart := false, narrowed := true }
def EntriesRunsUptoSaid : Prop := entriesRunsUptoRow.holds Try.pinned (OpenSpec.upto entriesRunsSpec)

/-- 'caissonlaw09.EntriesJoin', WHERE WHAT IT READS IS OF BULK AT MOST 1048576: true; the input reads as it did. -/
def entriesJoinUptoRow : OpenClaim := { program := "ytahagecdebadfaa", sum := "68ee6f282c0463fd7a2d5186382e9aec0a12110d7a1c5253ef9ddfc6f33abd6b", func := "caisson/caissonlaw09.EntriesJoin", spec := "entriesJoin", unfollowed := true, recurses := true, apart := false, narrowed := true }
def EntriesJoinUptoSaid : Prop := entriesJoinUptoRow.holds Try.pinned (OpenSpec.upto entriesJoinSpec)

/-- 'caissonlaw09.EntriesBack', WHERE WHAT IT READS IS OF BULK AT MOST 1048576: true; the input reads as it did. -/
def entriesBackUptoRow : OpenClaim := { program := "ytahagecdebadfaa", sum := "68ee6f282c0463fd7a2d5186382e9aec0a12110d7a1c5253ef9ddfc6f33abd6b", func := "caisson/caissonlaw09.EntriesBack", spec := "entriesBack", unfollowed := true, recurses := true, apart := false, narrowed := true }
def EntriesBackUptoSaid : Prop := entriesBackUptoRow.holds Try.pinned (OpenSpec.upto entriesBackSpec)

/-- 'caissonlaw09.EntriesOver', WHERE WHAT IT READS IS OF BULK AT MOST 1048576: true; the input reads as it did. -/
def entriesOverUptoRow : OpenClaim := { program := "ytahagecdebadfaa", sum := "68ee6f282c0463fd7a2d5186382e9aec0a12110d7a1c5253ef9ddfc6f33abd6b", func := "caisson/caissonlaw09.EntriesOver", spec := "entriesOver", unfollowed := true, recurses := true, apart := false, narrowed := true }
def EntriesOverUptoSaid : Prop := entriesOverUptoRow.holds Try.pinned (OpenSpec.upto entriesOverSpec)

/-- 'caissonlaw09.EntriesNil', WHERE WHAT IT READS IS OF BULK AT MOST 1048576: true; the input reads as it did. -/
def entriesNilUptoRow : OpenClaim := { program := "ytahagecdebadfaa", sum := "68ee6f282c0463fd7a2d5186382e9aec0a12110d7a1c5253ef9ddfc6f33abd6b", func := "caisson/caissonlaw09.EntriesNil", spec := "entriesNil", unfollowed := true, recurses := true, apart := false, narrowed := true }
def EntriesNilUptoSaid : Prop := entriesNilUptoRow.holds Try.pinned (OpenSpec.upto entriesNilSpec)

/-- 'caissonlaw09.EntriesPack', WHERE WHAT IT READS IS OF BULK AT MOST 1048576: true; the input reads as it did. -/
def entriesPackUptoRow : OpenClaim := { program := "ytahagecdebadfaa", sum := "68ee6f282c0463fd7a2d5186382e9aec0a12110d7a1c5253ef9ddfc6f33abd6b", func := "caisson/caissonlaw09.EntriesPack", spec := "entriesPack", unfollowed := true, recurses := true, apart := false, narrowed := true }
def EntriesPackUptoSaid : Prop := entriesPackUptoRow.holds Try.pinned (OpenSpec.upto entriesPackSpec)

/-- 'caissonlaw09.EntriesLetters', WHERE WHAT IT READS IS OF BULK AT MOST 1048576: true; the input reads as it did. -/
def entriesLettersUptoRow : OpenClaim := { program := "ytahagecdebadfaa", sum := "68ee6f282c0463fd7a2d5186382e9aec0a12110d7a1c5253ef9ddfc6f33abd6b", func := "caisson/caissonlaw09.EntriesLetters", spec := "entriesLetters", unfollowed := true, recurses := true, apart := false, narrowed := true }
def EntriesLettersUptoSaid : Prop := entriesLettersUptoRow.holds Try.pinned (OpenSpec.upto entriesLettersSpec)

/-- 'caissonlaw09.EntriesTurned', WHERE WHAT IT READS IS OF BULK AT MOST 1048576: true; the input reads as it did. -/
def entriesTurnedUptoRow : OpenClaim := { program := "ytahagecdebadfaa", sum := "68ee6f282c0463fd7a2d5186382e9aec0a12110d7a1c5253ef9ddfc6f33abd6b", func := "caisson/caissonlaw09.EntriesTurned", spec := "entriesTurned", unfollowed := true, recurses := true, apart := false, narrowed := true }
def EntriesTurnedUptoSaid : Prop := entriesTurnedUptoRow.holds Try.pinned (OpenSpec.upto entriesTurnedSpec)

/-- 'caissonlaw10.RaftAlone', WHERE WHAT IT READS IS OF BULK AT MOST 1048576: true; the input reads as it did. -/
def raftAloneUptoRow : OpenClaim := { program := "ytahagecdebadfaa", sum := "68ee6f282c0463fd7a2d5186382e9aec0a12110d7a1c5253ef9ddfc6f33abd6b", func := "caisson/caissonlaw10.RaftAlone", spec := "raftAlone", unfollowed := true, recurses := true, apart := false, narrowed := true }
def RaftAloneUptoSaid : Prop := raftAloneUptoRow.holds Try.pinned (OpenSpec.upto raftAloneSpec)

end Rows
end Go.Proofs.Ytahagecdebadfaa
