/-
  No cell of these rows narrows 'for every input' (looked for: loops, veiled, ifaces, maps, wideKeys, modest, calm, conditions, laid).
  DERIVED. THE GIVEN ROWS OF THIS SEAT. 3 by the template 'for every input the law returns true; each argument reads behind the call as it read before'; 0 by the template 'total and deterministic' (their statements: YtbaedfpimlfonaaTotals.lean).
  GIVEN WITH THE SEED: the statements are not yours to turn. If you find one false, say at which input.
  Laid BY PROGRAM, IN A SANDBOX (cutbox-rows.mjs): the forced cells as the released guide's own fill.sh prints them over the translation 7d2198b3fe71ad93… (all of the seat's roots in one cut). By AI agents, Wed Nov 11 2026. No macro, syntax, notation, axiom, sorry.
-/
import Derived.Test.YtbaedfpimlfonaaChecked
import GoSem.Claim
import GoSem.ClaimJoined
import GoSem.ClaimMapViews
import Derived.JoinedTies
import Derived.KernelRfl
namespace Go.Proofs.Ytbaedfpimlfonaa
/- THE CELL 'sum', in the pinned program and in every row, IS THE sha256 OF THE DUMP (.gsa) THAT YtbaedfpimlfonaaProg.lean LOADS. Nothing in Lean hashes anything: it is a label: what it is worth is what the hold of that sum in a sandbox is worth. -/
noncomputable def Try.pinned : Pinned := { name := "ytbaedfpimlfonaa", sum := "7d2198b3fe71ad93ecc1dc6114dd263cc4bba0d162aeef734805285f0395e95e", checked := Try.checked }
namespace Rows
def none {H : Type} : Left H := { results := [], args := [] }

/-- 'slipwaytop.TopFields': WHATEVER THE INPUT: true; the input reads as it did. -/
def topFieldsSpec : ChangeSpec := { name := "topFields", fn := fun _ => fun
  | [d1, d2, d3] => { results := [.lit (.bool true)], args := [d1, d2, d3] }
  | _ => none }
def topFieldsRow : OpenClaim := { program := "ytbaedfpimlfonaa", sum := "7d2198b3fe71ad93ecc1dc6114dd263cc4bba0d162aeef734805285f0395e95e", func := "slipway/slipwaytop.TopFields", spec := "topFields", unfollowed := true, recurses := true, apart := false }
def TopFieldsSaid : Prop := topFieldsRow.holds Try.pinned (OpenSpec.ofChange topFieldsSpec)

/-- ITS FALSE NEIGHBOUR: 'it returns false'. Refute it at one input. -/
def topFieldsWrong : ChangeSpec := { name := "topFields", fn := fun _ => fun
  | [d1, d2, d3] => { results := [.lit (.bool false)], args := [d1, d2, d3] }
  | _ => none }
def TopFieldsWrongFalsely : Prop := topFieldsRow.holds Try.pinned (OpenSpec.ofChange topFieldsWrong)

/-- 'slipwaytop.TopSeals': WHATEVER THE INPUT: true; the input reads as it did. -/
def topSealsSpec : ChangeSpec := { name := "topSeals", fn := fun _ => fun
  | [d1, d2, d3] => { results := [.lit (.bool true)], args := [d1, d2, d3] }
  | _ => none }
def topSealsRow : OpenClaim := { program := "ytbaedfpimlfonaa", sum := "7d2198b3fe71ad93ecc1dc6114dd263cc4bba0d162aeef734805285f0395e95e", func := "slipway/slipwaytop.TopSeals", spec := "topSeals", apart := false }
def TopSealsSaid : Prop := topSealsRow.holds Try.pinned (OpenSpec.ofChange topSealsSpec)

/-- ITS FALSE NEIGHBOUR: 'it returns false'. Refute it at one input. -/
def topSealsWrong : ChangeSpec := { name := "topSeals", fn := fun _ => fun
  | [d1, d2, d3] => { results := [.lit (.bool false)], args := [d1, d2, d3] }
  | _ => none }
def TopSealsWrongFalsely : Prop := topSealsRow.holds Try.pinned (OpenSpec.ofChange topSealsWrong)

/-- 'slipwaytop.TopHeaders': WHATEVER THE INPUT: true; the input reads as it did. -/
def topHeadersSpec : ChangeSpec := { name := "topHeaders", fn := fun _ => fun
  | [d1, d2, d3, d4] => { results := [.lit (.bool true)], args := [d1, d2, d3, d4] }
  | _ => none }
def topHeadersRow : OpenClaim := { program := "ytbaedfpimlfonaa", sum := "7d2198b3fe71ad93ecc1dc6114dd263cc4bba0d162aeef734805285f0395e95e", func := "slipway/slipwaytop.TopHeaders", spec := "topHeaders", inPlace := ["slices.overlaps[int]"], unfollowed := true, recurses := true, apart := false }
def TopHeadersSaid : Prop := topHeadersRow.holds Try.pinned (OpenSpec.ofChange topHeadersSpec)

/-- ITS FALSE NEIGHBOUR: 'it returns false'. Refute it at one input. -/
def topHeadersWrong : ChangeSpec := { name := "topHeaders", fn := fun _ => fun
  | [d1, d2, d3, d4] => { results := [.lit (.bool false)], args := [d1, d2, d3, d4] }
  | _ => none }
def TopHeadersWrongFalsely : Prop := topHeadersRow.holds Try.pinned (OpenSpec.ofChange topHeadersWrong)

/- THE SECOND FORM. 'bulk': how many values and letters a reading holds, each counted each time it is reached (what is shared counts as often as it is met; a slice's spare places count too). A statement '..UptoSaid' is the law's where the arguments, and the package variables that the reading takes, are together of bulk at most 1048576: NARROWER than '..Said'. Prove '..Said' where nothing that the law and all that it calls make is longer than what came in: it says more and counts as full. Else prove '..UptoSaid'. A law counts once. -/
mutual
def uptoBulk {H : Type} : DataW H → Nat
  | .lit (.string bytes) => bytes.length + 1
  | .lit _ => 1
  | .nil => 1
  | .ptr d => uptoBulk d + 1
  | .slice elems spare => uptoBulkAll elems + uptoBulkAll spare + 1
  | .agg parts => uptoBulkAll parts + 1
  | .iface _ d => uptoBulk d + 1
  | .map entries => uptoBulkEntries entries + 1
  | .held _ => 1
def uptoBulkAll {H : Type} : List (DataW H) → Nat
  | [] => 0
  | d :: r => uptoBulk d + uptoBulkAll r
def uptoBulkEntries {H : Type} : List (Lit × DataW H) → Nat
  | [] => 0
  | x :: r => uptoBulkEntry x + uptoBulkEntries r
def uptoBulkEntry {H : Type} : Lit × DataW H → Nat
  | (.string bytes, d) => bytes.length + uptoBulk d + 1
  | (_, d) => uptoBulk d + 1
 end
def uptoSmall : (H : Type) → List (DataW H) → Bool := fun _ ds => decide (uptoBulkAll ds ≤ 1048576)
def OpenSpec.upto (s : _root_.Go.ChangeSpec) : _root_.Go.OpenSpec := { _root_.Go.OpenSpec.ofChange s with cond := some uptoSmall }

/-- 'slipwaytop.TopFields', WHERE WHAT IT READS IS OF BULK AT MOST 1048576: true; the input reads as it did. -/
def topFieldsUptoRow : OpenClaim := { program := "ytbaedfpimlfonaa", sum := "7d2198b3fe71ad93ecc1dc6114dd263cc4bba0d162aeef734805285f0395e95e", func := "slipway/slipwaytop.TopFields", spec := "topFields", unfollowed := true, recurses := true, apart := false, narrowed := true }
def TopFieldsUptoSaid : Prop := topFieldsUptoRow.holds Try.pinned (OpenSpec.upto topFieldsSpec)

/-- 'slipwaytop.TopSeals', WHERE WHAT IT READS IS OF BULK AT MOST 1048576: true; the input reads as it did. -/
def topSealsUptoRow : OpenClaim := { program := "ytbaedfpimlfonaa", sum := "7d2198b3fe71ad93ecc1dc6114dd263cc4bba0d162aeef734805285f0395e95e", func := "slipway/slipwaytop.TopSeals", spec := "topSeals", apart := false, narrowed := true }
def TopSealsUptoSaid : Prop := topSealsUptoRow.holds Try.pinned (OpenSpec.upto topSealsSpec)

/-- 'slipwaytop.TopHeaders', WHERE WHAT IT READS IS OF BULK AT MOST 1048576: true; the input reads as it did. -/
def topHeadersUptoRow : OpenClaim := { program := "ytbaedfpimlfonaa", sum := "7d2198b3fe71ad93ecc1dc6114dd263cc4bba0d162aeef734805285f0395e95e", func := "slipway/slipwaytop.TopHeaders", spec := "topHeaders", inPlace := ["slices.overlaps[int]"], unfollowed := true, recurses := true, apart := false, narrowed := true }
def TopHeadersUptoSaid : Prop := topHeadersUptoRow.holds Try.pinned (OpenSpec.upto topHeadersSpec)

end Rows
end Go.Proofs.Ytbaedfpimlfonaa
