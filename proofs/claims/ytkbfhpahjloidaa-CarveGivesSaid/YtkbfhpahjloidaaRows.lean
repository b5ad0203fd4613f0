/-
  No cell of these rows narrows 'for every input' (looked for: loops, veiled, ifaces, maps, wideKeys, modest, calm, conditions, laid).
  DERIVED. THE GIVEN ROWS OF THIS SEAT. 6 by the template 'for every input the law returns true; each argument reads behind the call as it read before'; 0 by the template 'total and deterministic' (their statements: YtkbfhpahjloidaaTotals.lean).
  GIVEN WITH THE SEED: the statements are not yours to turn. If you find one false, say at which input.
  Laid BY PROGRAM, IN A SANDBOX (cutbox-rows.mjs): the forced cells as the released guide's own fill.sh prints them over the translation 47a96c23dbfe5a5d… (all of the seat's roots in one cut). By AI agents, Wed Nov 11 2026. No macro, syntax, notation, axiom, sorry.
-/
import Derived.Test.YtkbfhpahjloidaaChecked
import GoSem.Claim
import GoSem.ClaimJoined
import GoSem.ClaimMapViews
import Derived.JoinedTies
import Derived.KernelRfl
namespace Go.Proofs.Ytkbfhpahjloidaa
/- THE CELL 'sum', in the pinned program and in every row, IS THE sha256 OF THE DUMP (.gsa) THAT YtkbfhpahjloidaaProg.lean LOADS. Nothing in Lean hashes anything: it is a label: what it is worth is what the hold of that sum in a sandbox is worth. -/
noncomputable def Try.pinned : Pinned := { name := "ytkbfhpahjloidaa", sum := "47a96c23dbfe5a5d810ba2555f4053858758bc40ae9b236c1148daf72959b871", checked := Try.checked }
namespace Rows
def none {H : Type} : Left H := { results := [], args := [] }

/-- 'garrisonlaw10.CarveTells': WHATEVER THE INPUT: true; the input reads as it did. -/
def carveTellsSpec : ChangeSpec := { name := "carveTells", fn := fun _ => fun
  | [d1, d2, d3, d4, d5] => { results := [.lit (.bool true)], args := [d1, d2, d3, d4, d5] }
  | _ => none }
def carveTellsRow : OpenClaim := { program := "ytkbfhpahjloidaa", sum := "47a96c23dbfe5a5d810ba2555f4053858758bc40ae9b236c1148daf72959b871", func := "garrison/garrisonlaw10.CarveTells", spec := "carveTells", apart := false }
def CarveTellsSaid : Prop := carveTellsRow.holds Try.pinned (OpenSpec.ofChange carveTellsSpec)

/-- ITS FALSE NEIGHBOUR: 'it returns false'. Refute it at one input. -/
def carveTellsWrong : ChangeSpec := { name := "carveTells", fn := fun _ => fun
  | [d1, d2, d3, d4, d5] => { results := [.lit (.bool false)], args := [d1, d2, d3, d4, d5] }
  | _ => none }
def CarveTellsWrongFalsely : Prop := carveTellsRow.holds Try.pinned (OpenSpec.ofChange carveTellsWrong)

/-- 'garrisonlaw10.CarveGives': WHATEVER THE INPUT: true; the input reads as it did. -/
def carveGivesSpec : ChangeSpec := { name := "carveGives", fn := fun _ => fun
  | [d1, d2, d3, d4, d5] => { results := [.lit (.bool true)], args := [d1, d2, d3, d4, d5] }
  | _ => none }
def carveGivesRow : OpenClaim := { program := "ytkbfhpahjloidaa", sum := "47a96c23dbfe5a5d810ba2555f4053858758bc40ae9b236c1148daf72959b871", func := "garrison/garrisonlaw10.CarveGives", spec := "carveGives", apart := false }
def CarveGivesSaid : Prop := carveGivesRow.holds Try.pinned (OpenSpec.ofChange carveGivesSpec)

/-- ITS FALSE NEIGHBOUR: 'it returns false'. Refute it at one input. -/
def carveGivesWrong : ChangeSpec := { name := "carveGives", fn := fun _ => fun
  | [d1, d2, d3, d4, d5] => { results := [.lit (.bool false)], args := [d1, d2, d3, d4, d5] }
  | _ => none }
def CarveGivesWrongFalsely : Prop := carveGivesRow.holds Try.pinned (OpenSpec.ofChange carveGivesWrong)

/-- 'garrisonlaw10.CarveApart': WHATEVER THE INPUT: true; the input reads as it did. -/
def carveApartSpec : ChangeSpec := { name := "carveApart", fn := fun _ => fun
  | [d1, d2, d3] => { results := [.lit (.bool true)], args := [d1, d2, d3] }
  | _ => none }
def carveApartRow : OpenClaim := { program := "ytkbfhpahjloidaa", sum := "47a96c23dbfe5a5d810ba2555f4053858758bc40ae9b236c1148daf72959b871", func := "garrison/garrisonlaw10.CarveApart", spec := "carveApart", apart := false }
def CarveApartSaid : Prop := carveApartRow.holds Try.pinned (OpenSpec.ofChange carveApartSpec)

/-- ITS FALSE NEIGHBOUR: 'it returns false'. Refute it at one input. -/
def carveApartWrong : ChangeSpec := { name := "carveApart", fn := fun _ => fun
  | [d1, d2, d3] => { results := [.lit (.bool false)], args := [d1, d2, d3] }
  | _ => none }
def CarveApartWrongFalsely : Prop := carveApartRow.holds Try.pinned (OpenSpec.ofChange carveApartWrong)

/-- 'garrisonlaw10.CarveAgain': WHATEVER THE INPUT: true; the input reads as it did. -/
def carveAgainSpec : ChangeSpec := { name := "carveAgain", fn := fun _ => fun
  | [d1, d2, d3, d4] => { results := [.lit (.bool true)], args := [d1, d2, d3, d4] }
  | _ => none }
def carveAgainRow : OpenClaim := { program := "ytkbfhpahjloidaa", sum := "47a96c23dbfe5a5d810ba2555f4053858758bc40ae9b236c1148daf72959b871", func := "garrison/garrisonlaw10.CarveAgain", spec := "carveAgain", apart := false }
def CarveAgainSaid : Prop := carveAgainRow.holds Try.pinned (OpenSpec.ofChange carveAgainSpec)

/-- ITS FALSE NEIGHBOUR: 'it returns false'. Refute it at one input. -/
def carveAgainWrong : ChangeSpec := { name := "carveAgain", fn := fun _ => fun
  | [d1, d2, d3, d4] => { results := [.lit (.bool false)], args := [d1, d2, d3, d4] }
  | _ => none }
def CarveAgainWrongFalsely : Prop := carveAgainRow.holds Try.pinned (OpenSpec.ofChange carveAgainWrong)

/-- 'garrisonlaw10.CarveOrder': WHATEVER THE INPUT: true; the input reads as it did. -/
def carveOrderSpec : ChangeSpec := { name := "carveOrder", fn := fun _ => fun
  | [d1, d2, d3] => { results := [.lit (.bool true)], args := [d1, d2, d3] }
  | _ => none }
def carveOrderRow : OpenClaim := { program := "ytkbfhpahjloidaa", sum := "47a96c23dbfe5a5d810ba2555f4053858758bc40ae9b236c1148daf72959b871", func := "garrison/garrisonlaw10.CarveOrder", spec := "carveOrder", apart := false }
def CarveOrderSaid : Prop := carveOrderRow.holds Try.pinned (OpenSpec.ofChange carveOrderSpec)

/-- ITS FALSE NEIGHBOUR: 'it returns false'. Refute it at one input. -/
def carveOrderWrong : ChangeSpec := { name := "carveOrder", fn := fun _ => fun
  | [d1, d2, d3] => { results := [.lit (.bool false)], args := [d1, d2, d3] }
  | _ => none }
def CarveOrderWrongFalsely : Prop := carveOrderRow.holds Try.pinned (OpenSpec.ofChange carveOrderWrong)

/-- 'garrisonlaw10.CarveAligns': WHATEVER THE INPUT: true; the input reads as it did. -/
def carveAlignsSpec : ChangeSpec := { name := "carveAligns", fn := fun _ => fun
  | [d1, d2, d3] => { results := [.lit (.bool true)], args := [d1, d2, d3] }
  | _ => none }
def carveAlignsRow : OpenClaim := { program := "ytkbfhpahjloidaa", sum := "47a96c23dbfe5a5d810ba2555f4053858758bc40ae9b236c1148daf72959b871", func := "garrison/garrisonlaw10.CarveAligns", spec := "carveAligns", apart := false }
def CarveAlignsSaid : Prop := carveAlignsRow.holds Try.pinned (OpenSpec.ofChange carveAlignsSpec)

/-- ITS FALSE NEIGHBOUR: 'it returns false'. Refute it at one input. -/
def carveAlignsWrong : ChangeSpec := { name := "carveAligns", fn := fun _ => fun
  | [d1, d2, d3] => { results := [.lit (.bool false)], args := [d1, d2, d3] }
  | _ => none }
def CarveAlignsWrongFalsely : Prop := carveAlignsRow.holds Try.pinned (OpenSpec.ofChange carveAlignsWrong)

/- THE SECOND FORM. 'bulk': how many values and letters a reading holds, each counted each time it is reached (what is shared counts as often as it is met; a slice's spare places count too). A statement '..UptoSaid' is the law's where the arguments, and the package variables that the reading takes, are together of bulk at most 1048576: NARROWER than '..Said'. Prove '..Said' where nothing that the law and all that it calls make is longer than what came in: it says more and counts as full. Else prove '..UptoSaid'. A law counts once. -/
mutual
def uptoBulk {H : Type} : DataW H → Nat
  | .lit (.string bytes) => bytes.length + 1
  | .lit _ => 1
  | .nil => 1
  | .ptr d => uptoBulk d + 1
  | .slice elems spare => uptoBulkAll elems + uptoBulkAll spare + 1
  | .agg parts => uptoBulkAll parts + 1
  | .iface _ d => uptoBulk d + 1
  | .map entries => uptoBulkEntries entries + 1
  | .held _ => 1
def uptoBulkAll {H : Type} : List (DataW H) → Nat
  | [] => 0
  | d :: r => uptoBulk d + uptoBulkAll r
def uptoBulkEntries {H : Type} : List (Lit × DataW H) → Nat
  | [] => 0
  | x :: r => uptoBulkEntry x + uptoBulkEntries r
def uptoBulkEntry {H : Type} : Lit × DataW H → Nat
  | (.string bytes, d) => bytes.length + uptoBulk d + 1
  | (_, d) => uptoBulk d + 1
 end
def uptoSmall : (H : Type) → List (DataW H) → Bool := fun _ ds => decide (uptoBulkAll ds ≤ 1048576)
def OpenSpec.upto (s : _root_.Go.ChangeSpec) : _root_.Go.OpenSpec := { _root_.Go.OpenSpec.ofChange s with cond := some uptoSmall }

/-- 'garrisonlaw10.CarveTells', WHERE WHAT IT READS IS OF BULK AT MOST 1048576: true; the input reads as it did. -/
def carveTellsUptoRow : OpenClaim := { program := "ytkbfhpahjloidaa", sum := "47a96c23dbfe5a5d810ba2555f4053858758bc40ae9b236c1148daf72959b871", func := "garrison/garrisonlaw10.CarveTells", spec := "carveTells", apart := false, narrowed := true }
def CarveTellsUptoSaid : Prop := carveTellsUptoRow.holds Try.pinned (OpenSpec.upto carveTellsSpec)

/-- 'garrisonlaw10.CarveGives', WHERE WHAT IT READS IS OF BULK AT MOST 1048576: true; the input reads as it did. -/
def carveGivesUptoRow : OpenClaim := { program := "ytkbfhpahjloidaa", sum := "47a96c23dbfe5a5d810ba2555f4053858758bc40ae9b236c1148daf72959b871", func := "garrison/garrisonlaw10.CarveGives", spec := "carveGives", apart := false, narrowed := true }
def CarveGivesUptoSaid : Prop := carveGivesUptoRow.holds Try.pinned (OpenSpec.upto carveGivesSpec)

/-- 'garrisonlaw10.CarveApart', WHERE WHAT IT READS IS OF BULK AT MOST 1048576: true; the input reads as it did. -/
def carveApartUptoRow : OpenClaim := { program := "ytkbfhpahjloidaa", sum := "47a96c23dbfe5a5d810ba2555f4053858758bc40ae9b236c1148daf72959b871", func := "garrison/garrisonlaw10.CarveApart", spec := "carveApart", apart := false, narrowed := true }
def CarveApartUptoSaid : Prop := carveApartUptoRow.holds Try.pinned (OpenSpec.upto carveApartSpec)

/-- 'garrisonlaw10.CarveAgain', WHERE WHAT IT READS IS OF BULK AT MOST 1048576: true; the input reads as it did. -/
def carveAgainUptoRow : OpenClaim := { program := "ytkbfhpahjloidaa", sum := "47a96c23dbfe5a5d810ba2555f4053858758bc40ae9b236c1148daf72959b871", func := "garrison/garrisonlaw10.CarveAgain", spec := "carveAgain", apart := false, narrowed := true }
def CarveAgainUptoSaid : Prop := carveAgainUptoRow.holds Try.pinned (OpenSpec.upto carveAgainSpec)

/-- 'garrisonlaw10.CarveOrder', WHERE WHAT IT READS IS OF BULK AT MOST 1048576: true; the input reads as it did. -/
def carveOrderUptoRow : OpenClaim := { program := "ytkbfhpahjloidaa", sum := "47a96c23dbfe5a5d810ba2555f4053858758bc40ae9b236c1148daf72959b871", func := "garrison/garrisonlaw10.CarveOrder", spec := "carveOrder", apart := false, narrowed := true }
def CarveOrderUptoSaid : Prop := carveOrderUptoRow.holds Try.pinned (OpenSpec.upto carveOrderSpec)

/-- 'garrisonlaw10.CarveAligns', WHERE WHAT IT READS IS OF BULK AT MOST 1048576: true; the input reads as it did. -/
def carveAlignsUptoRow : OpenClaim := { program := "ytkbfhpahjloidaa", sum := "47a96c23dbfe5a5d810ba2555f4053858758bc40ae9b236c1148daf72959b871", func := "garrison/garrisonlaw10.CarveAligns", spec := "carveAligns", apart := false, narrowed := true }
def CarveAlignsUptoSaid : Prop := carveAlignsUptoRow.holds Try.pinned (OpenSpec.upto carveAlignsSpec)

end Rows
end Go.Proofs.Ytkbfhpahjloidaa
