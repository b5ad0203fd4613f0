/-
  No cell of these rows narrows 'for every input' (looked for: loops, veiled, ifaces, maps, wideKeys, modest, calm, conditions, laid).
  DERIVED. THE GIVEN ROWS OF THIS SEAT. 8 by the template 'for every input the law returns true; each argument reads behind the call as it read before'; 0 by the template 'total and deterministic' (their statements: YtekijepgmmemiaaGreatTotals.lean).
  GIVEN WITH THE SEED: the statements are not yours to turn. If you find one false, say at which input.
  Laid BY PROGRAM, IN A SANDBOX (cutbox-rows.mjs): the forced cells as the released guide's own fill.sh prints them over the translation d76d92e4a035ffa7… (all of the seat's roots in one cut). By AI agents, Wed Nov 11 2026. No macro, syntax, notation, axiom, sorry.
-/
import Derived.Test.YtekijepgmmemiaaGreatChecked
import GoSem.Claim
import GoSem.ClaimJoined
import GoSem.ClaimMapViews
import Derived.JoinedTies
import Derived.KernelRfl
namespace Go.Proofs.YtekijepgmmemiaaGreat
/- THE CELL 'sum', in the pinned program and in every row, IS THE sha256 OF THE DUMP (.gsa) THAT YtekijepgmmemiaaGreatProg.lean LOADS. Nothing in Lean hashes anything: it is a label: what it is worth is what the hold of that sum in a sandbox is worth. -/
noncomputable def Tryz.pinned : Pinned := { name := "ytekijepgmmemiaagreat", sum := "d76d92e4a035ffa729d893fd5b9187c7046c5cc8748e5aaad0391e7636139784", checked := Tryz.checked }
namespace Rows
def none {H : Type} : Left H := { results := [], args := [] }

/-- 'garrisonlaw20.LinOrders': WHATEVER THE INPUT: true; the input reads as it did. -/
def linOrdersSpec : ChangeSpec := { name := "linOrders", fn := fun _ => fun
  | [d1, d2] => { results := [.lit (.bool true)], args := [d1, d2] }
  | _ => none }
def linOrdersRow : OpenClaim := { program := "ytekijepgmmemiaagreat", sum := "d76d92e4a035ffa729d893fd5b9187c7046c5cc8748e5aaad0391e7636139784", func := "garrison/garrisonlaw20.LinOrders", spec := "linOrders", inPlace := ["slices.overlaps[garrison/api.Done]"], unfollowed := true, recurses := true, plainKeys := false, apart := false }
def LinOrdersSaid : Prop := linOrdersRow.holds Tryz.pinned (OpenSpec.ofChange linOrdersSpec)

/-- ITS FALSE NEIGHBOUR: 'it returns false'. Refute it at one input. -/
def linOrdersWrong : ChangeSpec := { name := "linOrders", fn := fun _ => fun
  | [d1, d2] => { results := [.lit (.bool false)], args := [d1, d2] }
  | _ => none }
def LinOrdersWrongFalsely : Prop := linOrdersRow.holds Tryz.pinned (OpenSpec.ofChange linOrdersWrong)

/-- 'garrisonlaw20.LinWhole': WHATEVER THE INPUT: true; the input reads as it did. -/
def linWholeSpec : ChangeSpec := { name := "linWhole", fn := fun _ => fun
  | [d1, d2] => { results := [.lit (.bool true)], args := [d1, d2] }
  | _ => none }
def linWholeRow : OpenClaim := { program := "ytekijepgmmemiaagreat", sum := "d76d92e4a035ffa729d893fd5b9187c7046c5cc8748e5aaad0391e7636139784", func := "garrison/garrisonlaw20.LinWhole", spec := "linWhole", inPlace := ["slices.overlaps[garrison/api.Done]"], unfollowed := true, recurses := true, plainKeys := false, apart := false }
def LinWholeSaid : Prop := linWholeRow.holds Tryz.pinned (OpenSpec.ofChange linWholeSpec)

/-- ITS FALSE NEIGHBOUR: 'it returns false'. Refute it at one input. -/
def linWholeWrong : ChangeSpec := { name := "linWhole", fn := fun _ => fun
  | [d1, d2] => { results := [.lit (.bool false)], args := [d1, d2] }
  | _ => none }
def LinWholeWrongFalsely : Prop := linWholeRow.holds Tryz.pinned (OpenSpec.ofChange linWholeWrong)

/-- 'garrisonlaw20.LinSpoilt': WHATEVER THE INPUT: true; the input reads as it did. -/
def linSpoiltSpec : ChangeSpec := { name := "linSpoilt", fn := fun _ => fun
  | [d1, d2, d3, d4] => { results := [.lit (.bool true)], args := [d1, d2, d3, d4] }
  | _ => none }
def linSpoiltRow : OpenClaim := { program := "ytekijepgmmemiaagreat", sum := "d76d92e4a035ffa729d893fd5b9187c7046c5cc8748e5aaad0391e7636139784", func := "garrison/garrisonlaw20.LinSpoilt", spec := "linSpoilt", inPlace := ["slices.overlaps[garrison/api.Done]"], unfollowed := true, recurses := true, plainKeys := false, apart := false }
def LinSpoiltSaid : Prop := linSpoiltRow.holds Tryz.pinned (OpenSpec.ofChange linSpoiltSpec)

/-- ITS FALSE NEIGHBOUR: 'it returns false'. Refute it at one input. -/
def linSpoiltWrong : ChangeSpec := { name := "linSpoilt", fn := fun _ => fun
  | [d1, d2, d3, d4] => { results := [.lit (.bool false)], args := [d1, d2, d3, d4] }
  | _ => none }
def LinSpoiltWrongFalsely : Prop := linSpoiltRow.holds Tryz.pinned (OpenSpec.ofChange linSpoiltWrong)

/-- 'garrisonlaw20.LinOne': WHATEVER THE INPUT: true; the input reads as it did. -/
def linOneSpec : ChangeSpec := { name := "linOne", fn := fun _ => fun
  | [d1, d2, d3] => { results := [.lit (.bool true)], args := [d1, d2, d3] }
  | _ => none }
def linOneRow : OpenClaim := { program := "ytekijepgmmemiaagreat", sum := "d76d92e4a035ffa729d893fd5b9187c7046c5cc8748e5aaad0391e7636139784", func := "garrison/garrisonlaw20.LinOne", spec := "linOne", inPlace := ["slices.overlaps[garrison/api.Done]"], unfollowed := true, recurses := true, plainKeys := false, apart := false }
def LinOneSaid : Prop := linOneRow.holds Tryz.pinned (OpenSpec.ofChange linOneSpec)

/-- ITS FALSE NEIGHBOUR: 'it returns false'. Refute it at one input. -/
def linOneWrong : ChangeSpec := { name := "linOne", fn := fun _ => fun
  | [d1, d2, d3] => { results := [.lit (.bool false)], args := [d1, d2, d3] }
  | _ => none }
def LinOneWrongFalsely : Prop := linOneRow.holds Tryz.pinned (OpenSpec.ofChange linOneWrong)

/-- 'garrisonlaw30.WingSound': WHATEVER THE INPUT: true; the input reads as it did. -/
def wingSoundSpec : ChangeSpec := { name := "wingSound", fn := fun _ => fun
  | [d1, d2, d3] => { results := [.lit (.bool true)], args := [d1, d2, d3] }
  | _ => none }
def wingSoundRow : OpenClaim := { program := "ytekijepgmmemiaagreat", sum := "d76d92e4a035ffa729d893fd5b9187c7046c5cc8748e5aaad0391e7636139784", func := "garrison/garrisonlaw30.WingSound", spec := "wingSound", inPlace := ["slices.overlaps[garrison/api.Done]"], unfollowed := true, recurses := true, plainKeys := false, apart := false }
def WingSoundSaid : Prop := wingSoundRow.holds Tryz.pinned (OpenSpec.ofChange wingSoundSpec)

/-- ITS FALSE NEIGHBOUR: 'it returns false'. Refute it at one input. -/
def wingSoundWrong : ChangeSpec := { name := "wingSound", fn := fun _ => fun
  | [d1, d2, d3] => { results := [.lit (.bool false)], args := [d1, d2, d3] }
  | _ => none }
def WingSoundWrongFalsely : Prop := wingSoundRow.holds Tryz.pinned (OpenSpec.ofChange wingSoundWrong)

/-- 'garrisonlaw30.WingOne': WHATEVER THE INPUT: true; the input reads as it did. -/
def wingOneSpec : ChangeSpec := { name := "wingOne", fn := fun _ => fun
  | [d1, d2, d3, d4] => { results := [.lit (.bool true)], args := [d1, d2, d3, d4] }
  | _ => none }
def wingOneRow : OpenClaim := { program := "ytekijepgmmemiaagreat", sum := "d76d92e4a035ffa729d893fd5b9187c7046c5cc8748e5aaad0391e7636139784", func := "garrison/garrisonlaw30.WingOne", spec := "wingOne", inPlace := ["slices.overlaps[garrison/api.Done]"], unfollowed := true, recurses := true, plainKeys := false, apart := false }
def WingOneSaid : Prop := wingOneRow.holds Tryz.pinned (OpenSpec.ofChange wingOneSpec)

/-- ITS FALSE NEIGHBOUR: 'it returns false'. Refute it at one input. -/
def wingOneWrong : ChangeSpec := { name := "wingOne", fn := fun _ => fun
  | [d1, d2, d3, d4] => { results := [.lit (.bool false)], args := [d1, d2, d3, d4] }
  | _ => none }
def WingOneWrongFalsely : Prop := wingOneRow.holds Tryz.pinned (OpenSpec.ofChange wingOneWrong)

/-- 'garrisonlaw23.LayoutLays': WHATEVER THE INPUT: true; the input reads as it did. -/
def layoutLaysSpec : ChangeSpec := { name := "layoutLays", fn := fun _ => fun
  | [d1, d2] => { results := [.lit (.bool true)], args := [d1, d2] }
  | _ => none }
def layoutLaysRow : OpenClaim := { program := "ytekijepgmmemiaagreat", sum := "d76d92e4a035ffa729d893fd5b9187c7046c5cc8748e5aaad0391e7636139784", func := "garrison/garrisonlaw23.LayoutLays", spec := "layoutLays", inPlace := ["slices.overlaps[garrison/api.Done]"], unfollowed := true, recurses := true, plainKeys := false, apart := false }
def LayoutLaysSaid : Prop := layoutLaysRow.holds Tryz.pinned (OpenSpec.ofChange layoutLaysSpec)

/-- ITS FALSE NEIGHBOUR: 'it returns false'. Refute it at one input. -/
def layoutLaysWrong : ChangeSpec := { name := "layoutLays", fn := fun _ => fun
  | [d1, d2] => { results := [.lit (.bool false)], args := [d1, d2] }
  | _ => none }
def LayoutLaysWrongFalsely : Prop := layoutLaysRow.holds Tryz.pinned (OpenSpec.ofChange layoutLaysWrong)

/-- 'garrisonlaw23.LayoutBack': WHATEVER THE INPUT: true; the input reads as it did. -/
def layoutBackSpec : ChangeSpec := { name := "layoutBack", fn := fun _ => fun
  | [d1, d2] => { results := [.lit (.bool true)], args := [d1, d2] }
  | _ => none }
def layoutBackRow : OpenClaim := { program := "ytekijepgmmemiaagreat", sum := "d76d92e4a035ffa729d893fd5b9187c7046c5cc8748e5aaad0391e7636139784", func := "garrison/garrisonlaw23.LayoutBack", spec := "layoutBack", inPlace := ["slices.overlaps[garrison/api.Done]"], unfollowed := true, recurses := true, plainKeys := false, apart := false }
def LayoutBackSaid : Prop := layoutBackRow.holds Tryz.pinned (OpenSpec.ofChange layoutBackSpec)

/-- ITS FALSE NEIGHBOUR: 'it returns false'. Refute it at one input. -/
def layoutBackWrong : ChangeSpec := { name := "layoutBack", fn := fun _ => fun
  | [d1, d2] => { results := [.lit (.bool false)], args := [d1, d2] }
  | _ => none }
def LayoutBackWrongFalsely : Prop := layoutBackRow.holds Tryz.pinned (OpenSpec.ofChange layoutBackWrong)

/- THE SECOND FORM. 'bulk': how many values and letters a reading holds, each counted each time it is reached (what is shared counts as often as it is met; a slice's spare places count too). A statement '..UptoSaid' is the law's where the arguments, and the package variables that the reading takes, are together of bulk at most 1048576: NARROWER than '..Said'. Prove '..Said' where nothing that the law and all that it calls make is longer than what came in: it says more and counts as full. Else prove '..UptoSaid'. A law counts once. -/
mutual
def uptoBulk {H : Type} : DataW H → Nat
  | .lit (.string bytes) => bytes.length + 1
  | .lit _ => 1
  | .nil => 1
  | .ptr d => uptoBulk d + 1
  | .slice elems spare => uptoBulkAll elems + uptoBulkAll spare + 1
  | .agg parts => uptoBulkAll parts + 1
  | .iface _ d => uptoBulk d + 1
  | .map entries => uptoBulkEntries entries + 1
  | .held _ => 1
def uptoBulkAll {H : Type} : List (DataW H) → Nat
  | [] => 0
  | d :: r => uptoBulk d + uptoBulkAll r
def uptoBulkEntries {H : Type} : List (Lit × DataW H) → Nat
  | [] => 0
  | x :: r => uptoBulkEntry x + uptoBulkEntries r
def uptoBulkEntry {H : Type} : Lit × DataW H → Nat
  | (.string bytes, d) => bytes.length + uptoBulk d + 1
  | (_, d) => uptoBulk d + 1
 end
def uptoSmall : (H : Type) → List (DataW H) → Bool := fun _ ds => decide (uptoBulkAll ds ≤ 1048576)
def OpenSpec.upto (s : _root_.Go.ChangeSpec) : _root_.Go.OpenSpec := { _root_.Go.OpenSpec.ofChange s with cond := some uptoSmall }

/-- 'garrisonlaw20.LinOrders', WHERE WHAT IT READS IS OF BULK AT MOST 1048576: true; the input reads as it did. -/
def linOrdersUptoRow : OpenClaim := { program := "ytekijepgmmemiaagreat", sum := "d76d92e4a035ffa729d893fd5b9187c7046c5cc8748e5aaad0391e7636139784", func := "garrison/garrisonlaw20.LinOrders", spec := "linOrders", inPlace := ["slices.overlaps[garrison/api.Done]"], unfollowed := true, recurses := true, plainKeys := false, apart := false, narrowed := true }
def LinOrdersUptoSaid : Prop := linOrdersUptoRow.holds Tryz.pinned (OpenSpec.upto linOrdersSpec)

/-- 'garrisonlaw20.LinWhole', WHERE WHAT IT READS IS OF BULK AT MOST 1048576: true; the input reads as it did. -/
def linWholeUptoRow : OpenClaim := { program := "ytekijepgmmemiaagreat", sum := "d76d92e4a035ffa729d893fd5b9187c7046c5cc8748e5aaad0391e7636139784", func := "garrison/garrisonlaw20.LinWhole", spec := "linWhole", inPlace := ["slices.overlaps[garrison/api.Done]"], unfollowed := true, recurses := true, plainKeys := false, apart := false, narrowed := true }
def LinWholeUptoSaid : Prop := linWholeUptoRow.holds Tryz.pinned (OpenSpec.upto linWholeSpec)

/-- 'garrisonlaw20.LinSpoilt', WHERE WHAT IT READS IS OF BULK AT MOST 1048576: true; the input reads as it did. -/
def linSpoiltUptoRow : OpenClaim := { program := "ytekijepgmmemiaagreat", sum := "d76d92e4a035ffa729d893fd5b9187c7046c5cc8748e5aaad0391e7636139784", func := "garrison/garrisonlaw20.LinSpoilt", spec := "linSpoilt", inPlace := ["slices.overlaps[garrison/api.Done]"], unfollowed := true, recurses := true, plainKeys := false, apart := false, narrowed := true }
def LinSpoiltUptoSaid : Prop := linSpoiltUptoRow.holds Tryz.pinned (OpenSpec.upto linSpoiltSpec)

/-- 'garrisonlaw20.LinOne', WHERE WHAT IT READS IS OF BULK AT MOST 1048576: true; the input reads as it did. -/
def linOneUptoRow : OpenClaim := { program := "ytekijepgmmemiaagreat", sum := "d76d92e4a035ffa729d893fd5b9187c7046c5cc8748e5aaad0391e7636139784", func := "garrison/garrisonlaw20.LinOne", spec := "linOne", inPlace := ["slices.overlaps[garrison/api.Done]"], unfollowed := true, recurses := true, plainKeys := false, apart := false, narrowed := true }
def LinOneUptoSaid : Prop := linOneUptoRow.holds Tryz.pinned (OpenSpec.upto linOneSpec)

/-- 'garrisonlaw30.WingSound', WHERE WHAT IT READS IS OF BULK AT MOST 1048576: true; the input reads as it did. -/
def wingSoundUptoRow : OpenClaim := { program := "ytekijepgmmemiaagreat", sum := "d76d92e4a035ffa729d893fd5b9187c7046c5cc8748e5aaad0391e7636139784", func := "garrison/garrisonlaw30.WingSound", spec := "wingSound", inPlace := ["slices.overlaps[garrison/api.Done]"], unfollowed := true, recurses := true, plainKeys := false, apart := false, narrowed := true }
def WingSoundUptoSaid : Prop := wingSoundUptoRow.holds Tryz.pinned (OpenSpec.upto wingSoundSpec)

/-- 'garrisonlaw30.WingOne', WHERE WHAT IT READS IS OF BULK AT MOST 1048576: true; the input reads as it did. -/
def wingOneUptoRow : OpenClaim := { program := "ytekijepgmmemiaagreat", sum := "d76d92e4a035ffa729d893fd5b9187c7046c5cc8748e5aaad0391e7636139784", func := "garrison/garrisonlaw30.WingOne", spec := "wingOne", inPlace := ["slices.overlaps[garrison/api.Done]"], unfollowed := true, recurses := true, plainKeys := false, apart := false, narrowed := true }
def WingOneUptoSaid : Prop := wingOneUptoRow.holds Tryz.pinned (OpenSpec.upto wingOneSpec)

/-- 'garrisonlaw23.LayoutLays', WHERE WHAT IT READS IS OF BULK AT MOST 1048576: true; the input reads as it did. -/
def layoutLaysUptoRow : OpenClaim := { program := "ytekijepgmmemiaagreat", sum := "d76d92e4a035ffa729d893fd5b9187c7046c5cc8748e5aaad0391e7636139784", func := "garrison/garrisonlaw23.LayoutLays", spec := "layoutLays", inPlace := ["slices.overlaps[garrison/api.Done]"], unfollowed := true, recurses := true, plainKeys := false, apart := false, narrowed := true }
def LayoutLaysUptoSaid : Prop := layoutLaysUptoRow.holds Tryz.pinned (OpenSpec.upto layoutLaysSpec)

/-- 'garrisonlaw23.LayoutBack', WHERE WHAT IT READS IS OF BULK AT MOST 1048576: true; the input reads as it did. -/
def layoutBackUptoRow : OpenClaim := { program := "ytekijepgmmemiaagreat", sum := "d76d92e4a035ffa729d893fd5b9187c7046c5cc8748e5aaad0391e7636139784", func := "garrison/garrisonlaw23.LayoutBack", spec := "layoutBack", inPlace := ["slices.overlaps[garrison/api.Done]"], unfollowed := true, recurses := true, plainKeys := false, apart := false, narrowed := true }
def LayoutBackUptoSaid : Prop := layoutBackUptoRow.holds Tryz.pinned (OpenSpec.upto layoutBackSpec)

end Rows
end Go.Proofs.YtekijepgmmemiaaGreat
