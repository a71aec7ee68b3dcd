/-
  No cell of these rows narrows 'for every input' (looked for: loops, veiled, ifaces, maps, wideKeys, modest, calm, conditions, laid).
  DERIVED. THE GIVEN ROWS OF THIS SEAT. 7 by the template 'for every input the law returns true; each argument reads behind the call as it read before'; 0 by the template 'total and deterministic' (their statements: YtafpbibpahjnhaaGreatTotals.lean).
  GIVEN WITH THE SEED: the statements are not yours to turn. If you find one false, say at which input.
  Laid BY PROGRAM, IN A SANDBOX (cutbox-rows.mjs): the forced cells as the released guide's own fill.sh prints them over the translation 181729b0604ee791… (all of the seat's roots in one cut). By AI agents, Wed Nov 11 2026. No macro, syntax, notation, axiom, sorry.
-/
import Derived.Test.YtafpbibpahjnhaaGreatChecked
import GoSem.Claim
import GoSem.ClaimJoined
import GoSem.ClaimMapViews
import Derived.JoinedTies
import Derived.KernelRfl
namespace Go.Proofs.YtafpbibpahjnhaaGreat
/- THE CELL 'sum', in the pinned program and in every row, IS THE sha256 OF THE DUMP (.gsa) THAT YtafpbibpahjnhaaGreatProg.lean LOADS. Nothing in Lean hashes anything: it is a label: what it is worth is what the hold of that sum in a sandbox is worth. -/
noncomputable def Tryz.pinned : Pinned := { name := "ytafpbibpahjnhaagreat", sum := "181729b0604ee791ffcd38f12b7ec83c03532bea4928db85084863a7d9428406", checked := Tryz.checked }
namespace Rows
def none {H : Type} : Left H := { results := [], args := [] }

/-- 'wardenlaw06.CondTells': WHATEVER THE INPUT: true; the input reads as it did. -/
def condTellsSpec : ChangeSpec := { name := "condTells", fn := fun _ => fun
  | [d1, d2, d3, d4, d5, d6, d7] => { results := [.lit (.bool true)], args := [d1, d2, d3, d4, d5, d6, d7] }
  | _ => none }
def condTellsRow : OpenClaim := { program := "ytafpbibpahjnhaagreat", sum := "181729b0604ee791ffcd38f12b7ec83c03532bea4928db85084863a7d9428406", func := "warden/wardenlaw06.CondTells", spec := "condTells", unfollowed := true, recurses := true, apart := false }
def CondTellsSaid : Prop := condTellsRow.holds Tryz.pinned (OpenSpec.ofChange condTellsSpec)

/-- ITS FALSE NEIGHBOUR: 'it returns false'. Refute it at one input. -/
def condTellsWrong : ChangeSpec := { name := "condTells", fn := fun _ => fun
  | [d1, d2, d3, d4, d5, d6, d7] => { results := [.lit (.bool false)], args := [d1, d2, d3, d4, d5, d6, d7] }
  | _ => none }
def CondTellsWrongFalsely : Prop := condTellsRow.holds Tryz.pinned (OpenSpec.ofChange condTellsWrong)

/-- 'wardenlaw05.BoundReckons': WHATEVER THE INPUT: true; the input reads as it did. -/
def boundReckonsSpec : ChangeSpec := { name := "boundReckons", fn := fun _ => fun
  | [d1, d2, d3, d4, d5, d6] => { results := [.lit (.bool true)], args := [d1, d2, d3, d4, d5, d6] }
  | _ => none }
def boundReckonsRow : OpenClaim := { program := "ytafpbibpahjnhaagreat", sum := "181729b0604ee791ffcd38f12b7ec83c03532bea4928db85084863a7d9428406", func := "warden/wardenlaw05.BoundReckons", spec := "boundReckons", inPlace := ["math/bits.Add64", "math/bits.Sub64"], unfollowed := true, recurses := true, apart := false }
def BoundReckonsSaid : Prop := boundReckonsRow.holds Tryz.pinned (OpenSpec.ofChange boundReckonsSpec)

/-- ITS FALSE NEIGHBOUR: 'it returns false'. Refute it at one input. -/
def boundReckonsWrong : ChangeSpec := { name := "boundReckons", fn := fun _ => fun
  | [d1, d2, d3, d4, d5, d6] => { results := [.lit (.bool false)], args := [d1, d2, d3, d4, d5, d6] }
  | _ => none }
def BoundReckonsWrongFalsely : Prop := boundReckonsRow.holds Tryz.pinned (OpenSpec.ofChange boundReckonsWrong)

/-- 'wardenlaw05.BoundOne': WHATEVER THE INPUT: true; the input reads as it did. -/
def boundOneSpec : ChangeSpec := { name := "boundOne", fn := fun _ => fun
  | [d1, d2, d3] => { results := [.lit (.bool true)], args := [d1, d2, d3] }
  | _ => none }
def boundOneRow : OpenClaim := { program := "ytafpbibpahjnhaagreat", sum := "181729b0604ee791ffcd38f12b7ec83c03532bea4928db85084863a7d9428406", func := "warden/wardenlaw05.BoundOne", spec := "boundOne", inPlace := ["math/bits.Add64", "math/bits.Sub64"], unfollowed := true, recurses := true, apart := false }
def BoundOneSaid : Prop := boundOneRow.holds Tryz.pinned (OpenSpec.ofChange boundOneSpec)

/-- ITS FALSE NEIGHBOUR: 'it returns false'. Refute it at one input. -/
def boundOneWrong : ChangeSpec := { name := "boundOne", fn := fun _ => fun
  | [d1, d2, d3] => { results := [.lit (.bool false)], args := [d1, d2, d3] }
  | _ => none }
def BoundOneWrongFalsely : Prop := boundOneRow.holds Tryz.pinned (OpenSpec.ofChange boundOneWrong)

/-- 'wardenlaw05.BoundKeeps': WHATEVER THE INPUT: true; the input reads as it did. -/
def boundKeepsSpec : ChangeSpec := { name := "boundKeeps", fn := fun _ => fun
  | [d1, d2, d3, d4] => { results := [.lit (.bool true)], args := [d1, d2, d3, d4] }
  | _ => none }
def boundKeepsRow : OpenClaim := { program := "ytafpbibpahjnhaagreat", sum := "181729b0604ee791ffcd38f12b7ec83c03532bea4928db85084863a7d9428406", func := "warden/wardenlaw05.BoundKeeps", spec := "boundKeeps", inPlace := ["math/bits.Add64", "math/bits.Sub64"], unfollowed := true, recurses := true, apart := false }
def BoundKeepsSaid : Prop := boundKeepsRow.holds Tryz.pinned (OpenSpec.ofChange boundKeepsSpec)

/-- ITS FALSE NEIGHBOUR: 'it returns false'. Refute it at one input. -/
def boundKeepsWrong : ChangeSpec := { name := "boundKeeps", fn := fun _ => fun
  | [d1, d2, d3, d4] => { results := [.lit (.bool false)], args := [d1, d2, d3, d4] }
  | _ => none }
def BoundKeepsWrongFalsely : Prop := boundKeepsRow.holds Tryz.pinned (OpenSpec.ofChange boundKeepsWrong)

/-- 'wardenlaw05.BoundMeets': WHATEVER THE INPUT: true; the input reads as it did. -/
def boundMeetsSpec : ChangeSpec := { name := "boundMeets", fn := fun _ => fun
  | [d1, d2, d3, d4] => { results := [.lit (.bool true)], args := [d1, d2, d3, d4] }
  | _ => none }
def boundMeetsRow : OpenClaim := { program := "ytafpbibpahjnhaagreat", sum := "181729b0604ee791ffcd38f12b7ec83c03532bea4928db85084863a7d9428406", func := "warden/wardenlaw05.BoundMeets", spec := "boundMeets", inPlace := ["math/bits.Add64", "math/bits.Sub64"], unfollowed := true, recurses := true, apart := false }
def BoundMeetsSaid : Prop := boundMeetsRow.holds Tryz.pinned (OpenSpec.ofChange boundMeetsSpec)

/-- ITS FALSE NEIGHBOUR: 'it returns false'. Refute it at one input. -/
def boundMeetsWrong : ChangeSpec := { name := "boundMeets", fn := fun _ => fun
  | [d1, d2, d3, d4] => { results := [.lit (.bool false)], args := [d1, d2, d3, d4] }
  | _ => none }
def BoundMeetsWrongFalsely : Prop := boundMeetsRow.holds Tryz.pinned (OpenSpec.ofChange boundMeetsWrong)

/-- 'wardenlaw05.BoundSound': WHATEVER THE INPUT: true; the input reads as it did. -/
def boundSoundSpec : ChangeSpec := { name := "boundSound", fn := fun _ => fun
  | [d1, d2, d3, d4, d5, d6] => { results := [.lit (.bool true)], args := [d1, d2, d3, d4, d5, d6] }
  | _ => none }
def boundSoundRow : OpenClaim := { program := "ytafpbibpahjnhaagreat", sum := "181729b0604ee791ffcd38f12b7ec83c03532bea4928db85084863a7d9428406", func := "warden/wardenlaw05.BoundSound", spec := "boundSound", inPlace := ["math/bits.Add64", "math/bits.Sub64"], unfollowed := true, recurses := true, apart := false }
def BoundSoundSaid : Prop := boundSoundRow.holds Tryz.pinned (OpenSpec.ofChange boundSoundSpec)

/-- ITS FALSE NEIGHBOUR: 'it returns false'. Refute it at one input. -/
def boundSoundWrong : ChangeSpec := { name := "boundSound", fn := fun _ => fun
  | [d1, d2, d3, d4, d5, d6] => { results := [.lit (.bool false)], args := [d1, d2, d3, d4, d5, d6] }
  | _ => none }
def BoundSoundWrongFalsely : Prop := boundSoundRow.holds Tryz.pinned (OpenSpec.ofChange boundSoundWrong)

/-- 'wardenlaw05.BoundAlone': WHATEVER THE INPUT: true; the input reads as it did. -/
def boundAloneSpec : ChangeSpec := { name := "boundAlone", fn := fun _ => fun
  | [d1, d2, d3, d4] => { results := [.lit (.bool true)], args := [d1, d2, d3, d4] }
  | _ => none }
def boundAloneRow : OpenClaim := { program := "ytafpbibpahjnhaagreat", sum := "181729b0604ee791ffcd38f12b7ec83c03532bea4928db85084863a7d9428406", func := "warden/wardenlaw05.BoundAlone", spec := "boundAlone", inPlace := ["math/bits.Add64", "math/bits.Sub64"], unfollowed := true, recurses := true, apart := false }
def BoundAloneSaid : Prop := boundAloneRow.holds Tryz.pinned (OpenSpec.ofChange boundAloneSpec)

/-- ITS FALSE NEIGHBOUR: 'it returns false'. Refute it at one input. -/
def boundAloneWrong : ChangeSpec := { name := "boundAlone", fn := fun _ => fun
  | [d1, d2, d3, d4] => { results := [.lit (.bool false)], args := [d1, d2, d3, d4] }
  | _ => none }
def BoundAloneWrongFalsely : Prop := boundAloneRow.holds Tryz.pinned (OpenSpec.ofChange boundAloneWrong)

/- THE SECOND FORM. 'bulk': how many values and letters a reading holds, each counted each time it is reached (what is shared counts as often as it is met; a slice's spare places count too). A statement '..UptoSaid' is the law's where the arguments, and the package variables that the reading takes, are together of bulk at most 1048576: NARROWER than '..Said'. Prove '..Said' where nothing that the law and all that it calls make is longer than what came in: it says more and counts as full. Else prove '..UptoSaid'. A law counts once. -/
mutual
def uptoBulk {H : Type} : DataW H → Nat
  | .lit (.string bytes) => bytes.length + 1
  | .lit _ => 1
  | .nil => 1
  | .ptr d => uptoBulk d + 1
  | .slice elems spare => uptoBulkAll elems + uptoBulkAll spare + 1
  | .agg parts => uptoBulkAll parts + 1
  | .iface _ d => uptoBulk d + 1
  | .map entries => uptoBulkEntries entries + 1
  | .held _ => 1
def uptoBulkAll {H : Type} : List (DataW H) → Nat
  | [] => 0
  | d :: r => uptoBulk d + uptoBulkAll r
def uptoBulkEntries {H : Type} : List (Lit × DataW H) → Nat
  | [] => 0
  | x :: r => uptoBulkEntry x + uptoBulkEntries r
def uptoBulkEntry {H : Type} : Lit × DataW H → Nat
  | (.string bytes, d) => bytes.length + uptoBulk d + 1
  | (_, d) => uptoBulk d + 1
 end
def uptoSmall : (H : Type) → List (DataW H) → Bool := fun _ ds => decide (uptoBulkAll ds ≤ 1048576)
def OpenSpec.upto (s : _root_.Go.ChangeSpec) : _root_.Go.OpenSpec := { _root_.Go.OpenSpec.ofChange s with cond := some uptoSmall }

/-- 'wardenlaw06.CondTells', WHERE WHAT IT READS IS OF BULK AT MOST 1048576: true; the input reads as it did. -/
def condTellsUptoRow : OpenClaim := { program := "ytafpbibpahjnhaagreat", sum := "181729b0604ee791ffcd38f12b7ec83c03532bea4928db85084863a7d9428406", func := "warden/wardenlaw06.CondTells", spec := "condTells", unfollowed := true, recurses := true, apart := false, narrowed := true }
def CondTellsUptoSaid : Prop := condTellsUptoRow.holds Tryz.pinned (OpenSpec.upto condTellsSpec)

/-- 'wardenlaw05.BoundReckons', WHERE WHAT IT READS IS OF BULK AT MOST 1048576: true; the input reads as it did. -/
def boundReckonsUptoRow : OpenClaim := { program := "ytafpbibpahjnhaagreat", sum := "181729b0604ee791ffcd38f12b7ec83c03532bea4928db85084863a7d9428406", func := "warden/wardenlaw05.BoundReckons", spec := "boundReckons", inPlace := ["math/bits.Add64", "math/bits.Sub64"], unfollowed := true, recurses := true, apart := false, narrowed := true }
def BoundReckonsUptoSaid : Prop := boundReckonsUptoRow.holds Tryz.pinned (OpenSpec.upto boundReckonsSpec)

/-- 'wardenlaw05.BoundOne', WHERE WHAT IT READS IS OF BULK AT MOST 1048576: true; the input reads as it did. -/
def boundOneUptoRow : OpenClaim := { program := "ytafpbibpahjnhaagreat", sum := "181729b0604ee791ffcd38f12b7ec83c03532bea4928db85084863a7d9428406", func := "warden/wardenlaw05.BoundOne", spec := "boundOne", inPlace := ["math/bits.Add64", "math/bits.Sub64"], unfollowed := true, recurses := true, apart := false, narrowed := true }
def BoundOneUptoSaid : Prop := boundOneUptoRow.holds Tryz.pinned (OpenSpec.upto boundOneSpec)

/-- 'wardenlaw05.BoundKeeps', WHERE WHAT IT READS IS OF BULK AT MOST 1048576: true; the input reads as it did. -/
def boundKeepsUptoRow : OpenClaim := { program := "ytafpbibpahjnhaagreat", sum := "181729b0604ee791ffcd38f12b7ec83c03532bea4928db85084863a7d9428406", func := "warden/wardenlaw05.BoundKeeps", spec := "boundKeeps", inPlace := ["math/bits.Add64", "math/bits.Sub64"], unfollowed := true, recurses := true, apart := false, narrowed := true }
def BoundKeepsUptoSaid : Prop := boundKeepsUptoRow.holds Tryz.pinned (OpenSpec.upto boundKeepsSpec)

/-- 'wardenlaw05.BoundMeets', WHERE WHAT IT READS IS OF BULK AT MOST 1048576: true; the input reads as it did. -/
def boundMeetsUptoRow : OpenClaim := { program := "ytafpbibpahjnhaagreat", sum := "181729b0604ee791ffcd38f12b7ec83c03532bea4928db85084863a7d9428406", func := "warden/wardenlaw05.BoundMeets", spec := "boundMeets", inPlace := ["math/bits.Add64", "math/bits.Sub64"], unfollowed := true, recurses := true, apart := false, narrowed := true }
def BoundMeetsUptoSaid : Prop := boundMeetsUptoRow.holds Tryz.pinned (OpenSpec.upto boundMeetsSpec)

/-- 'wardenlaw05.BoundSound', WHERE WHAT IT READS IS OF BULK AT MOST 1048576: true; the input reads as it did. -/
def boundSoundUptoRow : OpenClaim := { program := "ytafpbibpahjnhaagreat", sum := "181729b0604ee791ffcd38f12b7ec83c03532bea4928db85084863a7d9428406", func := "warden/wardenlaw05.BoundSound", spec := "boundSound", inPlace := ["math/bits.Add64", "math/bits.Sub64"], unfollowed := true, recurses := true, apart := false, narrowed := true }
def BoundSoundUptoSaid : Prop := boundSoundUptoRow.holds Tryz.pinned (OpenSpec.upto boundSoundSpec)

/-- 'wardenlaw05.BoundAlone', WHERE WHAT IT READS IS OF BULK AT MOST 1048576: true; the input reads as it did. -/
def boundAloneUptoRow : OpenClaim := { program := "ytafpbibpahjnhaagreat", sum := "181729b0604ee791ffcd38f12b7ec83c03532bea4928db85084863a7d9428406", func := "warden/wardenlaw05.BoundAlone", spec := "boundAlone", inPlace := ["math/bits.Add64", "math/bits.Sub64"], unfollowed := true, recurses := true, apart := false, narrowed := true }
def BoundAloneUptoSaid : Prop := boundAloneUptoRow.holds Tryz.pinned (OpenSpec.upto boundAloneSpec)

end Rows
end Go.Proofs.YtafpbibpahjnhaaGreat
