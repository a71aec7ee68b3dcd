/-
  No cell of these rows narrows 'for every input' (looked for: loops, veiled, ifaces, maps, wideKeys, modest, calm, conditions, laid).
  DERIVED. THE GIVEN ROWS OF THIS SEAT. 5 by the template 'for every input the law returns true; each argument reads behind the call as it read before'; 0 by the template 'total and deterministic' (their statements: YtafpbibpahjnhaaTotals.lean).
  GIVEN WITH THE SEED: the statements are not yours to turn. If you find one false, say at which input.
  Laid BY PROGRAM, IN A SANDBOX (cutbox-rows.mjs): the forced cells as the released guide's own fill.sh prints them over the translation c5590ae4bb4b9a0e… (all of the seat's roots in one cut). By AI agents, Wed Nov 11 2026. No macro, syntax, notation, axiom, sorry.
-/
import Derived.Test.YtafpbibpahjnhaaChecked
import GoSem.Claim
import GoSem.ClaimJoined
import GoSem.ClaimMapViews
import Derived.JoinedTies
import Derived.KernelRfl
namespace Go.Proofs.Ytafpbibpahjnhaa
/- THE CELL 'sum', in the pinned program and in every row, IS THE sha256 OF THE DUMP (.gsa) THAT YtafpbibpahjnhaaProg.lean LOADS. Nothing in Lean hashes anything: it is a label: what it is worth is what the hold of that sum in a sandbox is worth. -/
noncomputable def Try.pinned : Pinned := { name := "ytafpbibpahjnhaa", sum := "c5590ae4bb4b9a0ec5b02c46db8508928b612621ce686bef7436bdf574ef3124", checked := Try.checked }
namespace Rows
def none {H : Type} : Left H := { results := [], args := [] }

/-- 'wardenlaw06.CondAlone': WHATEVER THE INPUT: true; the input reads as it did. -/
def condAloneSpec : ChangeSpec := { name := "condAlone", fn := fun _ => fun
  | [d1, d2, d3, d4] => { results := [.lit (.bool true)], args := [d1, d2, d3, d4] }
  | _ => none }
def condAloneRow : OpenClaim := { program := "ytafpbibpahjnhaa", sum := "c5590ae4bb4b9a0ec5b02c46db8508928b612621ce686bef7436bdf574ef3124", func := "warden/wardenlaw06.CondAlone", spec := "condAlone", unfollowed := true, recurses := true, apart := false }
def CondAloneSaid : Prop := condAloneRow.holds Try.pinned (OpenSpec.ofChange condAloneSpec)

/-- ITS FALSE NEIGHBOUR: 'it returns false'. Refute it at one input. -/
def condAloneWrong : ChangeSpec := { name := "condAlone", fn := fun _ => fun
  | [d1, d2, d3, d4] => { results := [.lit (.bool false)], args := [d1, d2, d3, d4] }
  | _ => none }
def CondAloneWrongFalsely : Prop := condAloneRow.holds Try.pinned (OpenSpec.ofChange condAloneWrong)

/-- 'wardenlaw06.CondTurned': WHATEVER THE INPUT: true; the input reads as it did. -/
def condTurnedSpec : ChangeSpec := { name := "condTurned", fn := fun _ => fun
  | [d1, d2, d3, d4, d5, d6, d7] => { results := [.lit (.bool true)], args := [d1, d2, d3, d4, d5, d6, d7] }
  | _ => none }
def condTurnedRow : OpenClaim := { program := "ytafpbibpahjnhaa", sum := "c5590ae4bb4b9a0ec5b02c46db8508928b612621ce686bef7436bdf574ef3124", func := "warden/wardenlaw06.CondTurned", spec := "condTurned", unfollowed := true, recurses := true, apart := false }
def CondTurnedSaid : Prop := condTurnedRow.holds Try.pinned (OpenSpec.ofChange condTurnedSpec)

/-- ITS FALSE NEIGHBOUR: 'it returns false'. Refute it at one input. -/
def condTurnedWrong : ChangeSpec := { name := "condTurned", fn := fun _ => fun
  | [d1, d2, d3, d4, d5, d6, d7] => { results := [.lit (.bool false)], args := [d1, d2, d3, d4, d5, d6, d7] }
  | _ => none }
def CondTurnedWrongFalsely : Prop := condTurnedRow.holds Try.pinned (OpenSpec.ofChange condTurnedWrong)

/-- 'wardenlaw06.CondSplit': WHATEVER THE INPUT: true; the input reads as it did. -/
def condSplitSpec : ChangeSpec := { name := "condSplit", fn := fun _ => fun
  | [d1, d2, d3, d4, d5, d6] => { results := [.lit (.bool true)], args := [d1, d2, d3, d4, d5, d6] }
  | _ => none }
def condSplitRow : OpenClaim := { program := "ytafpbibpahjnhaa", sum := "c5590ae4bb4b9a0ec5b02c46db8508928b612621ce686bef7436bdf574ef3124", func := "warden/wardenlaw06.CondSplit", spec := "condSplit", unfollowed := true, recurses := true, apart := false }
def CondSplitSaid : Prop := condSplitRow.holds Try.pinned (OpenSpec.ofChange condSplitSpec)

/-- ITS FALSE NEIGHBOUR: 'it returns false'. Refute it at one input. -/
def condSplitWrong : ChangeSpec := { name := "condSplit", fn := fun _ => fun
  | [d1, d2, d3, d4, d5, d6] => { results := [.lit (.bool false)], args := [d1, d2, d3, d4, d5, d6] }
  | _ => none }
def CondSplitWrongFalsely : Prop := condSplitRow.holds Try.pinned (OpenSpec.ofChange condSplitWrong)

/-- 'wardenlaw06.CondSound': WHATEVER THE INPUT: true; the input reads as it did. -/
def condSoundSpec : ChangeSpec := { name := "condSound", fn := fun _ => fun
  | [d1, d2, d3, d4, d5, d6] => { results := [.lit (.bool true)], args := [d1, d2, d3, d4, d5, d6] }
  | _ => none }
def condSoundRow : OpenClaim := { program := "ytafpbibpahjnhaa", sum := "c5590ae4bb4b9a0ec5b02c46db8508928b612621ce686bef7436bdf574ef3124", func := "warden/wardenlaw06.CondSound", spec := "condSound", unfollowed := true, recurses := true, apart := false }
def CondSoundSaid : Prop := condSoundRow.holds Try.pinned (OpenSpec.ofChange condSoundSpec)

/-- ITS FALSE NEIGHBOUR: 'it returns false'. Refute it at one input. -/
def condSoundWrong : ChangeSpec := { name := "condSound", fn := fun _ => fun
  | [d1, d2, d3, d4, d5, d6] => { results := [.lit (.bool false)], args := [d1, d2, d3, d4, d5, d6] }
  | _ => none }
def CondSoundWrongFalsely : Prop := condSoundRow.holds Try.pinned (OpenSpec.ofChange condSoundWrong)

/-- 'wardenlaw06.CondNarrow': WHATEVER THE INPUT: true; the input reads as it did. -/
def condNarrowSpec : ChangeSpec := { name := "condNarrow", fn := fun _ => fun
  | [d1, d2, d3, d4, d5, d6, d7] => { results := [.lit (.bool true)], args := [d1, d2, d3, d4, d5, d6, d7] }
  | _ => none }
def condNarrowRow : OpenClaim := { program := "ytafpbibpahjnhaa", sum := "c5590ae4bb4b9a0ec5b02c46db8508928b612621ce686bef7436bdf574ef3124", func := "warden/wardenlaw06.CondNarrow", spec := "condNarrow", unfollowed := true, recurses := true, apart := false }
def CondNarrowSaid : Prop := condNarrowRow.holds Try.pinned (OpenSpec.ofChange condNarrowSpec)

/-- ITS FALSE NEIGHBOUR: 'it returns false'. Refute it at one input. -/
def condNarrowWrong : ChangeSpec := { name := "condNarrow", fn := fun _ => fun
  | [d1, d2, d3, d4, d5, d6, d7] => { results := [.lit (.bool false)], args := [d1, d2, d3, d4, d5, d6, d7] }
  | _ => none }
def CondNarrowWrongFalsely : Prop := condNarrowRow.holds Try.pinned (OpenSpec.ofChange condNarrowWrong)

/- THE SECOND FORM. 'bulk': how many values and letters a reading holds, each counted each time it is reached (what is shared counts as often as it is met; a slice's spare places count too). A statement '..UptoSaid' is the law's where the arguments, and the package variables that the reading takes, are together of bulk at most 1048576: NARROWER than '..Said'. Prove '..Said' where nothing that the law and all that it calls make is longer than what came in: it says more and counts as full. Else prove '..UptoSaid'. A law counts once. -/
mutual
def uptoBulk {H : Type} : DataW H → Nat
  | .lit (.string bytes) => bytes.length + 1
  | .lit _ => 1
  | .nil => 1
  | .ptr d => uptoBulk d + 1
  | .slice elems spare => uptoBulkAll elems + uptoBulkAll spare + 1
  | .agg parts => uptoBulkAll parts + 1
  | .iface _ d => uptoBulk d + 1
  | .map entries => uptoBulkEntries entries + 1
  | .held _ => 1
def uptoBulkAll {H : Type} : List (DataW H) → Nat
  | [] => 0
  | d :: r => uptoBulk d + uptoBulkAll r
def uptoBulkEntries {H : Type} : List (Lit × DataW H) → Nat
  | [] => 0
  | x :: r => uptoBulkEntry x + uptoBulkEntries r
def uptoBulkEntry {H : Type} : Lit × DataW H → Nat
  | (.string bytes, d) => bytes.length + uptoBulk d + 1
  | (_, d) => uptoBulk d + 1
 end
def uptoSmall : (H : Type) → List (DataW H) → Bool := fun _ ds => decide (uptoBulkAll ds ≤ 1048576)
def OpenSpec.upto (s : _root_.Go.ChangeSpec) : _root_.Go.OpenSpec := { _root_.Go.OpenSpec.ofChange s with cond := some uptoSmall }

/-- 'wardenlaw06.CondAlone', WHERE WHAT IT READS IS OF BULK AT MOST 1048576: true; the input reads as it did. -/
def condAloneUptoRow : OpenClaim := { program := "ytafpbibpahjnhaa", sum := "c5590ae4bb4b9a0ec5b02c46db8508928b612621ce686bef7436bdf574ef3124", func := "warden/wardenlaw06.CondAlone", spec := "condAlone", unfollowed := true, recurses := true, apart := false, narrowed := true }
def CondAloneUptoSaid : Prop := condAloneUptoRow.holds Try.pinned (OpenSpec.upto condAloneSpec)

/-- 'wardenlaw06.CondTurned', WHERE WHAT IT READS IS OF BULK AT MOST 1048576: true; the input reads as it did. -/
def condTurnedUptoRow : OpenClaim := { program := "ytafpbibpahjnhaa", sum := "c5590ae4bb4b9a0ec5b02c46db8508928b612621ce686bef7436bdf574ef3124", func := "warden/wardenlaw06.CondTurned", spec := "condTurned", unfollowed := true, recurses := true, apart := false, narrowed := true }
def CondTurnedUptoSaid : Prop := condTurnedUptoRow.holds Try.pinned (OpenSpec.upto condTurnedSpec)

/-- 'wardenlaw06.CondSplit', WHERE WHAT IT READS IS OF BULK AT MOST 1048576: true; the input reads as it did. -/
def condSplitUptoRow : OpenClaim := { program := "ytafpbibpahjnhaa", sum := "c5590ae4bb4b9a0ec5b02c46db8508928b612621ce686bef7436bdf574ef3124", func := "warden/wardenlaw06.CondSplit", spec := "condSplit", unfollowed := true, recurses := true, apart := false, narrowed := true }
def CondSplitUptoSaid : Prop := condSplitUptoRow.holds Try.pinned (OpenSpec.upto condSplitSpec)

/-- 'wardenlaw06.CondSound', WHERE WHAT IT READS IS OF BULK AT MOST 1048576: true; the input reads as it did. -/
def condSoundUptoRow : OpenClaim := { program := "ytafpbibpahjnhaa", sum := "c5590ae4bb4b9a0ec5b02c46db8508928b612621ce686bef7436bdf574ef3124", func := "warden/wardenlaw06.CondSound", spec := "condSound", unfollowed := true, recurses := true, apart := false, narrowed := true }
def CondSoundUptoSaid : Prop := condSoundUptoRow.holds Try.pinned (OpenSpec.upto condSoundSpec)

/-- 'wardenlaw06.CondNarrow', WHERE WHAT IT READS IS OF BULK AT MOST 1048576: true; the input reads as it did. -/
def condNarrowUptoRow : OpenClaim := { program := "ytafpbibpahjnhaa", sum := "c5590ae4bb4b9a0ec5b02c46db8508928b612621ce686bef7436bdf574ef3124", func := "warden/wardenlaw06.CondNarrow", spec := "condNarrow", unfollowed := true, recurses := true, apart := false, narrowed := true }
def CondNarrowUptoSaid : Prop := condNarrowUptoRow.holds Try.pinned (OpenSpec.upto condNarrowSpec)

end Rows
end Go.Proofs.Ytafpbibpahjnhaa
