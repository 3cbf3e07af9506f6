/-
  No cell of these rows narrows 'for every input' (looked for: loops, veiled, ifaces, maps, wideKeys, modest, calm, conditions, laid).
  DERIVED. THE GIVEN ROWS OF THIS SEAT. 9 by the template 'for every input the law returns true; each argument reads behind the call as it read before'; 0 by the template 'total and deterministic' (their statements: YtobbiafkmgfioaaTotals.lean).
  GIVEN WITH THE SEED: the statements are not yours to turn. If you find one false, say at which input.
  Laid BY PROGRAM, IN A SANDBOX (cutbox-rows.mjs): the forced cells as the released guide's own fill.sh prints them over the translation c8479ddd6ca45c60… (all of the seat's roots in one cut). By AI agents, Wed Nov 11 2026. No macro, syntax, notation, axiom, sorry.
-/
import Derived.Test.YtobbiafkmgfioaaChecked
import GoSem.Claim
import GoSem.ClaimJoined
import GoSem.ClaimMapViews
import Derived.JoinedTies
import Derived.KernelRfl
namespace Go.Proofs.Ytobbiafkmgfioaa
/- THE CELL 'sum', in the pinned program and in every row, IS THE sha256 OF THE DUMP (.gsa) THAT YtobbiafkmgfioaaProg.lean LOADS. Nothing in Lean hashes anything: it is a label: what it is worth is what the hold of that sum in a sandbox is worth. -/
noncomputable def Try.pinned : Pinned := { name := "ytobbiafkmgfioaa", sum := "c8479ddd6ca45c60090ec2d7ba61538ddc6b49ca97dfc10a37ecb6b2e8c3939a", checked := Try.checked }
namespace Rows
def none {H : Type} : Left H := { results := [], args := [] }

/-- 'bastillelaw28.ManifestText': WHATEVER THE INPUT: true; the input reads as it did. -/
def manifestTextSpec : ChangeSpec := { name := "manifestText", fn := fun _ => fun
  | [d] => { results := [.lit (.bool true)], args := [d] }
  | _ => none }
def manifestTextRow : OpenClaim := { program := "ytobbiafkmgfioaa", sum := "c8479ddd6ca45c60090ec2d7ba61538ddc6b49ca97dfc10a37ecb6b2e8c3939a", func := "bastille/bastillelaw28.ManifestText", spec := "manifestText", recurses := true, apart := false }
def ManifestTextSaid : Prop := manifestTextRow.holds Try.pinned (OpenSpec.ofChange manifestTextSpec)

/-- ITS FALSE NEIGHBOUR: 'it returns false'. Refute it at one input. -/
def manifestTextWrong : ChangeSpec := { name := "manifestText", fn := fun _ => fun
  | [d] => { results := [.lit (.bool false)], args := [d] }
  | _ => none }
def ManifestTextWrongFalsely : Prop := manifestTextRow.holds Try.pinned (OpenSpec.ofChange manifestTextWrong)

/-- 'bastillelaw28.ManifestReads': WHATEVER THE INPUT: true; the input reads as it did. -/
def manifestReadsSpec : ChangeSpec := { name := "manifestReads", fn := fun _ => fun
  | [d] => { results := [.lit (.bool true)], args := [d] }
  | _ => none }
def manifestReadsRow : OpenClaim := { program := "ytobbiafkmgfioaa", sum := "c8479ddd6ca45c60090ec2d7ba61538ddc6b49ca97dfc10a37ecb6b2e8c3939a", func := "bastille/bastillelaw28.ManifestReads", spec := "manifestReads", recurses := true, apart := false }
def ManifestReadsSaid : Prop := manifestReadsRow.holds Try.pinned (OpenSpec.ofChange manifestReadsSpec)

/-- ITS FALSE NEIGHBOUR: 'it returns false'. Refute it at one input. -/
def manifestReadsWrong : ChangeSpec := { name := "manifestReads", fn := fun _ => fun
  | [d] => { results := [.lit (.bool false)], args := [d] }
  | _ => none }
def ManifestReadsWrongFalsely : Prop := manifestReadsRow.holds Try.pinned (OpenSpec.ofChange manifestReadsWrong)

/-- 'bastillelaw44.StatAdd': WHATEVER THE INPUT: true; the input reads as it did. -/
def statAddSpec : ChangeSpec := { name := "statAdd", fn := fun _ => fun
  | [d1, d2] => { results := [.lit (.bool true)], args := [d1, d2] }
  | _ => none }
def statAddRow : OpenClaim := { program := "ytobbiafkmgfioaa", sum := "c8479ddd6ca45c60090ec2d7ba61538ddc6b49ca97dfc10a37ecb6b2e8c3939a", func := "bastille/bastillelaw44.StatAdd", spec := "statAdd", unfollowed := true, recurses := true, apart := false }
def StatAddSaid : Prop := statAddRow.holds Try.pinned (OpenSpec.ofChange statAddSpec)

/-- ITS FALSE NEIGHBOUR: 'it returns false'. Refute it at one input. -/
def statAddWrong : ChangeSpec := { name := "statAdd", fn := fun _ => fun
  | [d1, d2] => { results := [.lit (.bool false)], args := [d1, d2] }
  | _ => none }
def StatAddWrongFalsely : Prop := statAddRow.holds Try.pinned (OpenSpec.ofChange statAddWrong)

/-- 'bastillelaw25.TreeDoes': WHATEVER THE INPUT: true; the input reads as it did. -/
def treeDoesSpec : ChangeSpec := { name := "treeDoes", fn := fun _ => fun
  | [d] => { results := [.lit (.bool true)], args := [d] }
  | _ => none }
def treeDoesRow : OpenClaim := { program := "ytobbiafkmgfioaa", sum := "c8479ddd6ca45c60090ec2d7ba61538ddc6b49ca97dfc10a37ecb6b2e8c3939a", func := "bastille/bastillelaw25.TreeDoes", spec := "treeDoes", unfollowed := true, recurses := true, apart := false }
def TreeDoesSaid : Prop := treeDoesRow.holds Try.pinned (OpenSpec.ofChange treeDoesSpec)

/-- ITS FALSE NEIGHBOUR: 'it returns false'. Refute it at one input. -/
def treeDoesWrong : ChangeSpec := { name := "treeDoes", fn := fun _ => fun
  | [d] => { results := [.lit (.bool false)], args := [d] }
  | _ => none }
def TreeDoesWrongFalsely : Prop := treeDoesRow.holds Try.pinned (OpenSpec.ofChange treeDoesWrong)

/-- 'bastillelaw25.TreeShape': WHATEVER THE INPUT: true; the input reads as it did. -/
def treeShapeSpec : ChangeSpec := { name := "treeShape", fn := fun _ => fun
  | [d] => { results := [.lit (.bool true)], args := [d] }
  | _ => none }
def treeShapeRow : OpenClaim := { program := "ytobbiafkmgfioaa", sum := "c8479ddd6ca45c60090ec2d7ba61538ddc6b49ca97dfc10a37ecb6b2e8c3939a", func := "bastille/bastillelaw25.TreeShape", spec := "treeShape", unfollowed := true, recurses := true, apart := false }
def TreeShapeSaid : Prop := treeShapeRow.holds Try.pinned (OpenSpec.ofChange treeShapeSpec)

/-- ITS FALSE NEIGHBOUR: 'it returns false'. Refute it at one input. -/
def treeShapeWrong : ChangeSpec := { name := "treeShape", fn := fun _ => fun
  | [d] => { results := [.lit (.bool false)], args := [d] }
  | _ => none }
def TreeShapeWrongFalsely : Prop := treeShapeRow.holds Try.pinned (OpenSpec.ofChange treeShapeWrong)

/-- 'bastillelaw44.StatFeed': WHATEVER THE INPUT: true; the input reads as it did. -/
def statFeedSpec : ChangeSpec := { name := "statFeed", fn := fun _ => fun
  | [d1, d2, d3] => { results := [.lit (.bool true)], args := [d1, d2, d3] }
  | _ => none }
def statFeedRow : OpenClaim := { program := "ytobbiafkmgfioaa", sum := "c8479ddd6ca45c60090ec2d7ba61538ddc6b49ca97dfc10a37ecb6b2e8c3939a", func := "bastille/bastillelaw44.StatFeed", spec := "statFeed", unfollowed := true, recurses := true, apart := false }
def StatFeedSaid : Prop := statFeedRow.holds Try.pinned (OpenSpec.ofChange statFeedSpec)

/-- ITS FALSE NEIGHBOUR: 'it returns false'. Refute it at one input. -/
def statFeedWrong : ChangeSpec := { name := "statFeed", fn := fun _ => fun
  | [d1, d2, d3] => { results := [.lit (.bool false)], args := [d1, d2, d3] }
  | _ => none }
def StatFeedWrongFalsely : Prop := statFeedRow.holds Try.pinned (OpenSpec.ofChange statFeedWrong)

/-- 'bastillelaw27.RoleCalls': WHATEVER THE INPUT: true; the input reads as it did. -/
def roleCallsSpec : ChangeSpec := { name := "roleCalls", fn := fun _ => fun
  | [d1, d2, d3] => { results := [.lit (.bool true)], args := [d1, d2, d3] }
  | _ => none }
def roleCallsRow : OpenClaim := { program := "ytobbiafkmgfioaa", sum := "c8479ddd6ca45c60090ec2d7ba61538ddc6b49ca97dfc10a37ecb6b2e8c3939a", func := "bastille/bastillelaw27.RoleCalls", spec := "roleCalls", unfollowed := true, recurses := true, apart := false }
def RoleCallsSaid : Prop := roleCallsRow.holds Try.pinned (OpenSpec.ofChange roleCallsSpec)

/-- ITS FALSE NEIGHBOUR: 'it returns false'. Refute it at one input. -/
def roleCallsWrong : ChangeSpec := { name := "roleCalls", fn := fun _ => fun
  | [d1, d2, d3] => { results := [.lit (.bool false)], args := [d1, d2, d3] }
  | _ => none }
def RoleCallsWrongFalsely : Prop := roleCallsRow.holds Try.pinned (OpenSpec.ofChange roleCallsWrong)

/-- 'bastillelaw27.RoleStep': WHATEVER THE INPUT: true; the input reads as it did. -/
def roleStepSpec : ChangeSpec := { name := "roleStep", fn := fun _ => fun
  | [d1, d2, d3] => { results := [.lit (.bool true)], args := [d1, d2, d3] }
  | _ => none }
def roleStepRow : OpenClaim := { program := "ytobbiafkmgfioaa", sum := "c8479ddd6ca45c60090ec2d7ba61538ddc6b49ca97dfc10a37ecb6b2e8c3939a", func := "bastille/bastillelaw27.RoleStep", spec := "roleStep", unfollowed := true, recurses := true, apart := false }
def RoleStepSaid : Prop := roleStepRow.holds Try.pinned (OpenSpec.ofChange roleStepSpec)

/-- ITS FALSE NEIGHBOUR: 'it returns false'. Refute it at one input. -/
def roleStepWrong : ChangeSpec := { name := "roleStep", fn := fun _ => fun
  | [d1, d2, d3] => { results := [.lit (.bool false)], args := [d1, d2, d3] }
  | _ => none }
def RoleStepWrongFalsely : Prop := roleStepRow.holds Try.pinned (OpenSpec.ofChange roleStepWrong)

/-- 'bastillelaw27.RoleStays': WHATEVER THE INPUT: true; the input reads as it did. -/
def roleStaysSpec : ChangeSpec := { name := "roleStays", fn := fun _ => fun
  | [d1, d2] => { results := [.lit (.bool true)], args := [d1, d2] }
  | _ => none }
def roleStaysRow : OpenClaim := { program := "ytobbiafkmgfioaa", sum := "c8479ddd6ca45c60090ec2d7ba61538ddc6b49ca97dfc10a37ecb6b2e8c3939a", func := "bastille/bastillelaw27.RoleStays", spec := "roleStays", unfollowed := true, recurses := true, apart := false }
def RoleStaysSaid : Prop := roleStaysRow.holds Try.pinned (OpenSpec.ofChange roleStaysSpec)

/-- ITS FALSE NEIGHBOUR: 'it returns false'. Refute it at one input. -/
def roleStaysWrong : ChangeSpec := { name := "roleStays", fn := fun _ => fun
  | [d1, d2] => { results := [.lit (.bool false)], args := [d1, d2] }
  | _ => none }
def RoleStaysWrongFalsely : Prop := roleStaysRow.holds Try.pinned (OpenSpec.ofChange roleStaysWrong)

/- THE SECOND FORM. 'bulk': how many values and letters a reading holds, each counted each time it is reached (what is shared counts as often as it is met; a slice's spare places count too). A statement '..UptoSaid' is the law's where the arguments, and the package variables that the reading takes, are together of bulk at most 1048576: NARROWER than '..Said'. Prove '..Said' where nothing that the law and all that it calls make is longer than what came in: it says more and counts as full. Else prove '..UptoSaid'. A law counts once. -/
mutual
def uptoBulk {H : Type} : DataW H → Nat
  | .lit (.string bytes) => bytes.length + 1
  | .lit _ => 1
  | .nil => 1
  | .ptr d => uptoBulk d + 1
  | .slice elems spare => uptoBulkAll elems + uptoBulkAll spare + 1
  | .agg parts => uptoBulkAll parts + 1
  | .iface _ d => uptoBulk d + 1
  | .map entries => uptoBulkEntries entries + 1
  | .held _ => 1
def uptoBulkAll {H : Type} : List (DataW H) → Nat
  | [] => 0
  | d :: r => uptoBulk d + uptoBulkAll r
def uptoBulkEntries {H : Type} : List (Lit × DataW H) → Nat
  | [] => 0
  | x :: r => uptoBulkEntry x + uptoBulkEntries r
def uptoBulkEntry {H : Type} : Lit × DataW H → Nat
  | (.string bytes, d) => bytes.length + uptoBulk d + 1
  | (_, d) => uptoBulk d + 1
 end
def uptoSmall : (H : Type) → List (DataW H) → Bool := fun _ ds => decide (uptoBulkAll ds ≤ 1048576)
def OpenSpec.upto (s : _root_.Go.ChangeSpec) : _root_.Go.OpenSpec := { _root_.Go.OpenSpec.ofChange s with cond := some uptoSmall }

/-- 'bastillelaw28.ManifestText', WHERE WHAT IT READS IS OF BULK AT MOST 1048576: true; the input reads as it did. -/
def manifestTextUptoRow : OpenClaim := { program := "ytobbiafkmgfioaa", sum := "c8479ddd6ca45c60090ec2d7ba61538ddc6b49ca97dfc10a37ecb6b2e8c3939a", func := "bastille/bastillelaw28.ManifestText", spec := "manifestText", recurses := true, apart := false, narrowed := true }
def ManifestTextUptoSaid : Prop := manifestTextUptoRow.holds Try.pinned (OpenSpec.upto manifestTextSpec)

/-- 'bastillelaw28.ManifestReads', WHERE WHAT IT READS IS OF BULK AT MOST 1048576: true; the input reads as it did. -/
def manifestReadsUptoRow : OpenClaim := { program := "ytobbiafkmgfioaa", sum := "c8479ddd6ca45c60090ec2d7ba61538ddc6b49ca97dfc10a37ecb6b2e8c3939a", func := "bastille/bastillelaw28.ManifestReads", spec := "manifestReads", recurses := true, apart := false, narrowed := true }
def ManifestReadsUptoSaid : Prop := manifestReadsUptoRow.holds Try.pinned (OpenSpec.upto manifestReadsSpec)

/-- 'bastillelaw44.StatAdd', WHERE WHAT IT READS IS OF BULK AT MOST 1048576: true; the input reads as it did. -/
def statAddUptoRow : OpenClaim := { program := "ytobbiafkmgfioaa", sum := "c8479ddd6ca45c60090ec2d7ba61538ddc6b49ca97dfc10a37ecb6b2e8c3939a", func := "bastille/bastillelaw44.StatAdd", spec := "statAdd", unfollowed := true, recurses := true, apart := false, narrowed := true }
def StatAddUptoSaid : Prop := statAddUptoRow.holds Try.pinned (OpenSpec.upto statAddSpec)

/-- 'bastillelaw25.TreeDoes', WHERE WHAT IT READS IS OF BULK AT MOST 1048576: true; the input reads as it did. -/
def treeDoesUptoRow : OpenClaim := { program := "ytobbiafkmgfioaa", sum := "c8479ddd6ca45c60090ec2d7ba61538ddc6b49ca97dfc10a37ecb6b2e8c3939a", func := "bastille/bastillelaw25.TreeDoes", spec := "treeDoes", unfollowed := true, recurses := true, apart := false, narrowed := true }
def TreeDoesUptoSaid : Prop := treeDoesUptoRow.holds Try.pinned (OpenSpec.upto treeDoesSpec)

/-- 'bastillelaw25.TreeShape', WHERE WHAT IT READS IS OF BULK AT MOST 1048576: true; the input reads as it did. -/
def treeShapeUptoRow : OpenClaim := { program := "ytobbiafkmgfioaa", sum := "c8479ddd6ca45c60090ec2d7ba61538ddc6b49ca97dfc10a37ecb6b2e8c3939a", func := "bastille/bastillelaw25.TreeShape", spec := "treeShape", unfollowed := true, recurses := true, apart := false, narrowed := true }
def TreeShapeUptoSaid : Prop := treeShapeUptoRow.holds Try.pinned (OpenSpec.upto treeShapeSpec)

/-- 'bastillelaw44.StatFeed', WHERE WHAT IT READS IS OF BULK AT MOST 1048576: true; the input reads as it did. -/
def statFeedUptoRow : OpenClaim := { program := "ytobbiafkmgfioaa", sum := "c8479ddd6ca45c60090ec2d7ba61538ddc6b49ca97dfc10a37ecb6b2e8c3939a", func := "bastille/bastillelaw44.StatFeed", spec := "statFeed", unfollowed := true, recurses := true, apart := false, narrowed := true }
def StatFeedUptoSaid : Prop := statFeedUptoRow.holds Try.pinned (OpenSpec.upto statFeedSpec)

/-- 'bastillelaw27.RoleCalls', WHERE WHAT IT READS IS OF BULK AT MOST 1048576: true; the input reads as it did. -/
def roleCallsUptoRow : OpenClaim := { program := "ytobbiafkmgfioaa", sum := "c8479ddd6ca45c60090ec2d7ba61538ddc6b49ca97dfc10a37ecb6b2e8c3939a", func := "bastille/bastillelaw27.RoleCalls", spec := "roleCalls", unfollowed := true, recurses := true, apart := false, narrowed := true }
def RoleCallsUptoSaid : Prop := roleCallsUptoRow.holds Try.pinned (OpenSpec.upto roleCallsSpec)

/-- 'bastillelaw27.RoleStep', WHERE WHAT IT READS IS OF BULK AT MOST 1048576: true; the input reads as it did. -/
def roleStepUptoRow : OpenClaim := { program := "ytobbiafkmgfioaa", sum := "c8479ddd6ca45c60090ec2d7ba61538ddc6b49ca97dfc10a37ecb6b2e8c3939a", func := "bastille/bastillelaw27.RoleStep", spec := "roleStep", unfollowed := true, recurses := true, apart := false, narrowed := true }
def RoleStepUptoSaid : Prop := roleStepUptoRow.holds Try.pinned (OpenSpec.upto roleStepSpec)

/-- 'bastillelaw27.RoleStays', WHERE WHAT IT READS IS OF BULK AT MOST 1048576: true; the input reads as it did. -/
def roleStaysUptoRow : OpenClaim := { program := "ytobbiafkmgfioaa", sum := "c8479ddd6ca45c60090ec2d7ba61538ddc6b49ca97dfc10a37ecb6b2e8c3939a", func := "bastille/bastillelaw27.RoleStays", spec := "roleStays", unfollowed := true, recurses := true, apart := false, narrowed := true }
def RoleStaysUptoSaid : Prop := roleStaysUptoRow.holds Try.pinned (OpenSpec.upto roleStaysSpec)

end Rows
end Go.Proofs.Ytobbiafkmgfioaa
