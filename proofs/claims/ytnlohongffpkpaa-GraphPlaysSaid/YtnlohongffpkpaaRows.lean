/-
  No cell of these rows narrows 'for every input' (looked for: loops, veiled, ifaces, maps, wideKeys, modest, calm, conditions, laid).
  DERIVED. THE GIVEN ROWS OF THIS SEAT. 10 by the template 'for every input the law returns true; each argument reads behind the call as it read before'; 0 by the template 'total and deterministic' (their statements: YtnlohongffpkpaaTotals.lean).
  GIVEN WITH THE SEED: the statements are not yours to turn. If you find one false, say at which input.
  Laid BY PROGRAM, IN A SANDBOX (cutbox-rows.mjs): the forced cells as the released guide's own fill.sh prints them over the translation f7a3496c5b3f0c9a… (all of the seat's roots in one cut). By AI agents, Wed Nov 11 2026. No macro, syntax, notation, axiom, sorry.
-/
import Derived.Test.YtnlohongffpkpaaChecked
import GoSem.Claim
import GoSem.ClaimJoined
import GoSem.ClaimMapViews
import Derived.JoinedTies
import Derived.KernelRfl
namespace Go.Proofs.Ytnlohongffpkpaa
/- THE CELL 'sum', in the pinned program and in every row, IS THE sha256 OF THE DUMP (.gsa) THAT YtnlohongffpkpaaProg.lean LOADS. Nothing in Lean hashes anything: it is a label: what it is worth is what the hold of that sum in a sandbox is worth. -/
noncomputable def Try.pinned : Pinned := { name := "ytnlohongffpkpaa", sum := "f7a3496c5b3f0c9a5f3fc2a212d5405f3a7480cf4dd357a80b627ca5f645e58d", checked := Try.checked }
namespace Rows
def none {H : Type} : Left H := { results := [], args := [] }

/-- 'wardenlaw16.TreeOrder': WHATEVER THE INPUT: true; the input reads as it did. -/
def treeOrderSpec : ChangeSpec := { name := "treeOrder", fn := fun _ => fun
  | [d] => { results := [.lit (.bool true)], args := [d] }
  | _ => none }
def treeOrderRow : OpenClaim := { program := "ytnlohongffpkpaa", sum := "f7a3496c5b3f0c9a5f3fc2a212d5405f3a7480cf4dd357a80b627ca5f645e58d", func := "warden/wardenlaw16.TreeOrder", spec := "treeOrder", unfollowed := true, recurses := true, plainKeys := false, apart := false }
def TreeOrderSaid : Prop := treeOrderRow.holds Try.pinned (OpenSpec.ofChange treeOrderSpec)

/-- ITS FALSE NEIGHBOUR: 'it returns false'. Refute it at one input. -/
def treeOrderWrong : ChangeSpec := { name := "treeOrder", fn := fun _ => fun
  | [d] => { results := [.lit (.bool false)], args := [d] }
  | _ => none }
def TreeOrderWrongFalsely : Prop := treeOrderRow.holds Try.pinned (OpenSpec.ofChange treeOrderWrong)

/-- 'wardenlaw16.TreeBack': WHATEVER THE INPUT: true; the input reads as it did. -/
def treeBackSpec : ChangeSpec := { name := "treeBack", fn := fun _ => fun
  | [d1, d2] => { results := [.lit (.bool true)], args := [d1, d2] }
  | _ => none }
def treeBackRow : OpenClaim := { program := "ytnlohongffpkpaa", sum := "f7a3496c5b3f0c9a5f3fc2a212d5405f3a7480cf4dd357a80b627ca5f645e58d", func := "warden/wardenlaw16.TreeBack", spec := "treeBack", unfollowed := true, recurses := true, plainKeys := false, apart := false }
def TreeBackSaid : Prop := treeBackRow.holds Try.pinned (OpenSpec.ofChange treeBackSpec)

/-- ITS FALSE NEIGHBOUR: 'it returns false'. Refute it at one input. -/
def treeBackWrong : ChangeSpec := { name := "treeBack", fn := fun _ => fun
  | [d1, d2] => { results := [.lit (.bool false)], args := [d1, d2] }
  | _ => none }
def TreeBackWrongFalsely : Prop := treeBackRow.holds Try.pinned (OpenSpec.ofChange treeBackWrong)

/-- 'wardenlaw16.TreePlays': WHATEVER THE INPUT: true; the input reads as it did. -/
def treePlaysSpec : ChangeSpec := { name := "treePlays", fn := fun _ => fun
  | [d] => { results := [.lit (.bool true)], args := [d] }
  | _ => none }
def treePlaysRow : OpenClaim := { program := "ytnlohongffpkpaa", sum := "f7a3496c5b3f0c9a5f3fc2a212d5405f3a7480cf4dd357a80b627ca5f645e58d", func := "warden/wardenlaw16.TreePlays", spec := "treePlays", unfollowed := true, recurses := true, plainKeys := false, apart := false }
def TreePlaysSaid : Prop := treePlaysRow.holds Try.pinned (OpenSpec.ofChange treePlaysSpec)

/-- ITS FALSE NEIGHBOUR: 'it returns false'. Refute it at one input. -/
def treePlaysWrong : ChangeSpec := { name := "treePlays", fn := fun _ => fun
  | [d] => { results := [.lit (.bool false)], args := [d] }
  | _ => none }
def TreePlaysWrongFalsely : Prop := treePlaysRow.holds Try.pinned (OpenSpec.ofChange treePlaysWrong)

/-- 'wardenlaw16.TreeLow': WHATEVER THE INPUT: true; the input reads as it did. -/
def treeLowSpec : ChangeSpec := { name := "treeLow", fn := fun _ => fun
  | [d1, d2, d3] => { results := [.lit (.bool true)], args := [d1, d2, d3] }
  | _ => none }
def treeLowRow : OpenClaim := { program := "ytnlohongffpkpaa", sum := "f7a3496c5b3f0c9a5f3fc2a212d5405f3a7480cf4dd357a80b627ca5f645e58d", func := "warden/wardenlaw16.TreeLow", spec := "treeLow", unfollowed := true, recurses := true, plainKeys := false, apart := false }
def TreeLowSaid : Prop := treeLowRow.holds Try.pinned (OpenSpec.ofChange treeLowSpec)

/-- ITS FALSE NEIGHBOUR: 'it returns false'. Refute it at one input. -/
def treeLowWrong : ChangeSpec := { name := "treeLow", fn := fun _ => fun
  | [d1, d2, d3] => { results := [.lit (.bool false)], args := [d1, d2, d3] }
  | _ => none }
def TreeLowWrongFalsely : Prop := treeLowRow.holds Try.pinned (OpenSpec.ofChange treeLowWrong)

/-- 'wardenlaw16.TreeNone': WHATEVER THE INPUT: true; the input reads as it did. -/
def treeNoneSpec : ChangeSpec := { name := "treeNone", fn := fun _ => fun
  | [d1, d2] => { results := [.lit (.bool true)], args := [d1, d2] }
  | _ => none }
def treeNoneRow : OpenClaim := { program := "ytnlohongffpkpaa", sum := "f7a3496c5b3f0c9a5f3fc2a212d5405f3a7480cf4dd357a80b627ca5f645e58d", func := "warden/wardenlaw16.TreeNone", spec := "treeNone", unfollowed := true, recurses := true, plainKeys := false, apart := false }
def TreeNoneSaid : Prop := treeNoneRow.holds Try.pinned (OpenSpec.ofChange treeNoneSpec)

/-- ITS FALSE NEIGHBOUR: 'it returns false'. Refute it at one input. -/
def treeNoneWrong : ChangeSpec := { name := "treeNone", fn := fun _ => fun
  | [d1, d2] => { results := [.lit (.bool false)], args := [d1, d2] }
  | _ => none }
def TreeNoneWrongFalsely : Prop := treeNoneRow.holds Try.pinned (OpenSpec.ofChange treeNoneWrong)

/-- 'wardenlaw17.GraphApart': WHATEVER THE INPUT: true; the input reads as it did. -/
def graphApartSpec : ChangeSpec := { name := "graphApart", fn := fun _ => fun
  | [d] => { results := [.lit (.bool true)], args := [d] }
  | _ => none }
def graphApartRow : OpenClaim := { program := "ytnlohongffpkpaa", sum := "f7a3496c5b3f0c9a5f3fc2a212d5405f3a7480cf4dd357a80b627ca5f645e58d", func := "warden/wardenlaw17.GraphApart", spec := "graphApart", unfollowed := true, recurses := true, plainKeys := false, apart := false }
def GraphApartSaid : Prop := graphApartRow.holds Try.pinned (OpenSpec.ofChange graphApartSpec)

/-- ITS FALSE NEIGHBOUR: 'it returns false'. Refute it at one input. -/
def graphApartWrong : ChangeSpec := { name := "graphApart", fn := fun _ => fun
  | [d] => { results := [.lit (.bool false)], args := [d] }
  | _ => none }
def GraphApartWrongFalsely : Prop := graphApartRow.holds Try.pinned (OpenSpec.ofChange graphApartWrong)

/-- 'wardenlaw17.GraphDrains': WHATEVER THE INPUT: true; the input reads as it did. -/
def graphDrainsSpec : ChangeSpec := { name := "graphDrains", fn := fun _ => fun
  | [d1, d2, d3, d4, d5] => { results := [.lit (.bool true)], args := [d1, d2, d3, d4, d5] }
  | _ => none }
def graphDrainsRow : OpenClaim := { program := "ytnlohongffpkpaa", sum := "f7a3496c5b3f0c9a5f3fc2a212d5405f3a7480cf4dd357a80b627ca5f645e58d", func := "warden/wardenlaw17.GraphDrains", spec := "graphDrains", unfollowed := true, recurses := true, plainKeys := false, apart := false }
def GraphDrainsSaid : Prop := graphDrainsRow.holds Try.pinned (OpenSpec.ofChange graphDrainsSpec)

/-- ITS FALSE NEIGHBOUR: 'it returns false'. Refute it at one input. -/
def graphDrainsWrong : ChangeSpec := { name := "graphDrains", fn := fun _ => fun
  | [d1, d2, d3, d4, d5] => { results := [.lit (.bool false)], args := [d1, d2, d3, d4, d5] }
  | _ => none }
def GraphDrainsWrongFalsely : Prop := graphDrainsRow.holds Try.pinned (OpenSpec.ofChange graphDrainsWrong)

/-- 'wardenlaw17.GraphOnce': WHATEVER THE INPUT: true; the input reads as it did. -/
def graphOnceSpec : ChangeSpec := { name := "graphOnce", fn := fun _ => fun
  | [d] => { results := [.lit (.bool true)], args := [d] }
  | _ => none }
def graphOnceRow : OpenClaim := { program := "ytnlohongffpkpaa", sum := "f7a3496c5b3f0c9a5f3fc2a212d5405f3a7480cf4dd357a80b627ca5f645e58d", func := "warden/wardenlaw17.GraphOnce", spec := "graphOnce", unfollowed := true, recurses := true, plainKeys := false, apart := false }
def GraphOnceSaid : Prop := graphOnceRow.holds Try.pinned (OpenSpec.ofChange graphOnceSpec)

/-- ITS FALSE NEIGHBOUR: 'it returns false'. Refute it at one input. -/
def graphOnceWrong : ChangeSpec := { name := "graphOnce", fn := fun _ => fun
  | [d] => { results := [.lit (.bool false)], args := [d] }
  | _ => none }
def GraphOnceWrongFalsely : Prop := graphOnceRow.holds Try.pinned (OpenSpec.ofChange graphOnceWrong)

/-- 'wardenlaw17.GraphPlays': WHATEVER THE INPUT: true; the input reads as it did. -/
def graphPlaysSpec : ChangeSpec := { name := "graphPlays", fn := fun _ => fun
  | [d] => { results := [.lit (.bool true)], args := [d] }
  | _ => none }
def graphPlaysRow : OpenClaim := { program := "ytnlohongffpkpaa", sum := "f7a3496c5b3f0c9a5f3fc2a212d5405f3a7480cf4dd357a80b627ca5f645e58d", func := "warden/wardenlaw17.GraphPlays", spec := "graphPlays", unfollowed := true, recurses := true, plainKeys := false, apart := false }
def GraphPlaysSaid : Prop := graphPlaysRow.holds Try.pinned (OpenSpec.ofChange graphPlaysSpec)

/-- ITS FALSE NEIGHBOUR: 'it returns false'. Refute it at one input. -/
def graphPlaysWrong : ChangeSpec := { name := "graphPlays", fn := fun _ => fun
  | [d] => { results := [.lit (.bool false)], args := [d] }
  | _ => none }
def GraphPlaysWrongFalsely : Prop := graphPlaysRow.holds Try.pinned (OpenSpec.ofChange graphPlaysWrong)

/-- 'wardenlaw17.GraphNone': WHATEVER THE INPUT: true; the input reads as it did. -/
def graphNoneSpec : ChangeSpec := { name := "graphNone", fn := fun _ => fun
  | [d1, d2, d3] => { results := [.lit (.bool true)], args := [d1, d2, d3] }
  | _ => none }
def graphNoneRow : OpenClaim := { program := "ytnlohongffpkpaa", sum := "f7a3496c5b3f0c9a5f3fc2a212d5405f3a7480cf4dd357a80b627ca5f645e58d", func := "warden/wardenlaw17.GraphNone", spec := "graphNone", unfollowed := true, recurses := true, plainKeys := false, apart := false }
def GraphNoneSaid : Prop := graphNoneRow.holds Try.pinned (OpenSpec.ofChange graphNoneSpec)

/-- ITS FALSE NEIGHBOUR: 'it returns false'. Refute it at one input. -/
def graphNoneWrong : ChangeSpec := { name := "graphNone", fn := fun _ => fun
  | [d1, d2, d3] => { results := [.lit (.bool false)], args := [d1, d2, d3] }
  | _ => none }
def GraphNoneWrongFalsely : Prop := graphNoneRow.holds Try.pinned (OpenSpec.ofChange graphNoneWrong)

/- THE SECOND FORM. 'bulk': how many values and letters a reading holds, each counted each time it is reached (what is shared counts as often as it is met; a slice's spare places count too). A statement '..UptoSaid' is the law's where the arguments, and the package variables that the reading takes, are together of bulk at most 1048576: NARROWER than '..Said'. Prove '..Said' where nothing that the law and all that it calls make is longer than what came in: it says more and counts as full. Else prove '..UptoSaid'. A law counts once. -/
mutual
def uptoBulk {H : Type} : DataW H → Nat
  | .lit (.string bytes) => bytes.length + 1
  | .lit _ => 1
  | .nil => 1
  | .ptr d => uptoBulk d + 1
  | .slice elems spare => uptoBulkAll elems + uptoBulkAll spare + 1
  | .agg parts => uptoBulkAll parts + 1
  | .iface _ d => uptoBulk d + 1
  | .map entries => uptoBulkEntries entries + 1
  | .held _ => 1
def uptoBulkAll {H : Type} : List (DataW H) → Nat
  | [] => 0
  | d :: r => uptoBulk d + uptoBulkAll r
def uptoBulkEntries {H : Type} : List (Lit × DataW H) → Nat
  | [] => 0
  | x :: r => uptoBulkEntry x + uptoBulkEntries r
def uptoBulkEntry {H : Type} : Lit × DataW H → Nat
  | (.string bytes, d) => bytes.length + uptoBulk d + 1
  | (_, d) => uptoBulk d + 1
 end
def uptoSmall : (H : Type) → List (DataW H) → Bool := fun _ ds => decide (uptoBulkAll ds ≤ 1048576)
def OpenSpec.upto (s : _root_.Go.ChangeSpec) : _root_.Go.OpenSpec := { _root_.Go.OpenSpec.ofChange s with cond := some uptoSmall }

/-- 'wardenlaw16.TreeOrder', WHERE WHAT IT READS IS OF BULK AT MOST 1048576: true; the input reads as it did. -/
def treeOrderUptoRow : OpenClaim := { program := "ytnlohongffpkpaa", sum := "f7a3496c5b3f0c9a5f3fc2a212d5405f3a7480cf4dd357a80b627ca5f645e58d", func := "warden/wardenlaw16.TreeOrder", spec := "treeOrder", unfollowed := true, recurses := true, plainKeys := false, apart := false, narrowed := true }
def TreeOrderUptoSaid : Prop := treeOrderUptoRow.holds Try.pinned (OpenSpec.upto treeOrderSpec)

/-- 'wardenlaw16.TreeBack', WHERE WHAT IT READS IS OF BULK AT MOST 1048576: true; the input reads as it did. -/
def treeBackUptoRow : OpenClaim := { program := "ytnlohongffpkpaa", sum := "f7a3496c5b3f0c9a5f3fc2a212d5405f3a7480cf4dd357a80b627ca5f645e58d", func := "warden/wardenlaw16.TreeBack", spec := "treeBack", unfollowed := true, recurses := true, plainKeys := false, apart := false, narrowed := true }
def TreeBackUptoSaid : Prop := treeBackUptoRow.holds Try.pinned (OpenSpec.upto treeBackSpec)

/-- 'wardenlaw16.TreePlays', WHERE WHAT IT READS IS OF BULK AT MOST 1048576: true; the input reads as it did. -/
def treePlaysUptoRow : OpenClaim := { program := "ytnlohongffpkpaa", sum := "f7a3496c5b3f0c9a5f3fc2a212d5405f3a7480cf4dd357a80b627ca5f645e58d", func := "warden/wardenlaw16.TreePlays", spec := "treePlays", unfollowed := true, recurses := true, plainKeys := false, apart := false, narrowed := true }
def TreePlaysUptoSaid : Prop := treePlaysUptoRow.holds Try.pinned (OpenSpec.upto treePlaysSpec)

/-- 'wardenlaw16.TreeLow', WHERE WHAT IT READS IS OF BULK AT MOST 1048576: true; the input reads as it did. -/
def treeLowUptoRow : OpenClaim := { program := "ytnlohongffpkpaa", sum := "f7a3496c5b3f0c9a5f3fc2a212d5405f3a7480cf4dd357a80b627ca5f645e58d", func := "warden/wardenlaw16.TreeLow", spec := "treeLow", unfollowed := true, recurses := true, plainKeys := false, apart := false, narrowed := true }
def TreeLowUptoSaid : Prop := treeLowUptoRow.holds Try.pinned (OpenSpec.upto treeLowSpec)

/-- 'wardenlaw16.TreeNone', WHERE WHAT IT READS IS OF BULK AT MOST 1048576: true; the input reads as it did. -/
def treeNoneUptoRow : OpenClaim := { program := "ytnlohongffpkpaa", sum := "f7a3496c5b3f0c9a5f3fc2a212d5405f3a7480cf4dd357a80b627ca5f645e58d", func := "warden/wardenlaw16.TreeNone", spec := "treeNone", unfollowed := true, recurses := true, plainKeys := false, apart := false, narrowed := true }
def TreeNoneUptoSaid : Prop := treeNoneUptoRow.holds Try.pinned (OpenSpec.upto treeNoneSpec)

/-- 'wardenlaw17.GraphApart', WHERE WHAT IT READS IS OF BULK AT MOST 1048576: true; the input reads as it did. -/
def graphApartUptoRow : OpenClaim := { program := "ytnlohongffpkpaa", sum := "f7a3496c5b3f0c9a5f3fc2a212d5405f3a7480cf4dd357a80b627ca5f645e58d", func := "warden/wardenlaw17.GraphApart", spec := "graphApart", unfollowed := true, recurses := true, plainKeys := false, apart := false, narrowed := true }
def GraphApartUptoSaid : Prop := graphApartUptoRow.holds Try.pinned (OpenSpec.upto graphApartSpec)

/-- 'wardenlaw17.GraphDrains', WHERE WHAT IT READS IS OF BULK AT MOST 1048576: true; the input reads as it did. -/
def graphDrainsUptoRow : OpenClaim := { program := "ytnlohongffpkpaa", sum := "f7a3496c5b3f0c9a5f3fc2a212d5405f3a7480cf4dd357a80b627ca5f645e58d", func := "warden/wardenlaw17.GraphDrains", spec := "graphDrains", unfollowed := true, recurses := true, plainKeys := false, apart := false, narrowed := true }
def GraphDrainsUptoSaid : Prop := graphDrainsUptoRow.holds Try.pinned (OpenSpec.upto graphDrainsSpec)

/-- 'wardenlaw17.GraphOnce', WHERE WHAT IT READS IS OF BULK AT MOST 1048576: true; the input reads as it did. -/
def graphOnceUptoRow : OpenClaim := { program := "ytnlohongffpkpaa", sum := "f7a3496c5b3f0c9a5f3fc2a212d5405f3a7480cf4dd357a80b627ca5f645e58d", func := "warden/wardenlaw17.GraphOnce", spec := "graphOnce", unfollowed := true, recurses := true, plainKeys := false, apart := false, narrowed := true }
def GraphOnceUptoSaid : Prop := graphOnceUptoRow.holds Try.pinned (OpenSpec.upto graphOnceSpec)

/-- 'wardenlaw17.GraphPlays', WHERE WHAT IT READS IS OF BULK AT MOST 1048576: true; the input reads as it did. -/
def graphPlaysUptoRow : OpenClaim := { program := "ytnlohongffpkpaa", sum := "f7a3496c5b3f0c9a5f3fc2a212d5405f3a7480cf4dd357a80b627ca5f645e58d", func := "warden/wardenlaw17.GraphPlays", spec := "graphPlays", unfollowed := true, recurses := true, plainKeys := false, apart := false, narrowed := true }
def GraphPlaysUptoSaid : Prop := graphPlaysUptoRow.holds Try.pinned (OpenSpec.upto graphPlaysSpec)

/-- 'wardenlaw17.GraphNone', WHERE WHAT IT READS IS OF BULK AT MOST 1048576: true; the input reads as it did. -/
def graphNoneUptoRow : OpenClaim := { program := "ytnlohongffpkpaa", sum := "f7a3496c5b3f0c9a5f3fc2a212d5405f3a7480cf4dd357a80b627ca5f645e58d", func := "warden/wardenlaw17.GraphNone", spec := "graphNone", unfollowed := true, recurses := true, plainKeys := false, apart := false, narrowed := true }
def GraphNoneUptoSaid : Prop := graphNoneUptoRow.holds Try.pinned (OpenSpec.upto graphNoneSpec)

end Rows
end Go.Proofs.Ytnlohongffpkpaa
