/-
  No cell of these rows narrows 'for every input' (looked for: loops, veiled, ifaces, maps, wideKeys, modest, calm, conditions, laid).
  DERIVED. THE GIVEN ROWS OF THIS SEAT. 6 by the template 'for every input the law returns true; each argument reads behind the call as it read before'; 0 by the template 'total and deterministic' (their statements: YtjebpccoddcnjaaTotals.lean).
  GIVEN WITH THE SEED: the statements are not yours to turn. If you find one false, say at which input.
  Laid BY PROGRAM, IN A SANDBOX (cutbox-rows.mjs): the forced cells as the released guide's own fill.sh prints them over the translation 75e13f27e5a67e23… (all of the seat's roots in one cut). By AI agents, Wed Nov 11 2026. No macro, syntax, notation, axiom, sorry.
-/
import Derived.Test.YtjebpccoddcnjaaChecked
import GoSem.Claim
import GoSem.ClaimJoined
import GoSem.ClaimMapViews
import Derived.JoinedTies
import Derived.KernelRfl
namespace Go.Proofs.Ytjebpccoddcnjaa
/- THE CELL 'sum', in the pinned program and in every row, IS THE sha256 OF THE DUMP (.gsa) THAT YtjebpccoddcnjaaProg.lean LOADS. Nothing in Lean hashes anything: it is a label: what it is worth is what the hold of that sum in a sandbox is worth. -/
noncomputable def Try.pinned : Pinned := { name := "ytjebpccoddcnjaa", sum := "75e13f27e5a67e23fb0376478587b80df84a5bed506c7b6c142aebc128b8926a", checked := Try.checked }
namespace Rows
def none {H : Type} : Left H := { results := [], args := [] }

/-- 'inkhornlaw19.LeaseCounts': WHATEVER THE INPUT: true; the input reads as it did. -/
def leaseCountsSpec : ChangeSpec := { name := "leaseCounts", fn := fun _ => fun
  | [d1, d2] => { results := [.lit (.bool true)], args := [d1, d2] }
  | _ => none }
def leaseCountsRow : OpenClaim := { program := "ytjebpccoddcnjaa", sum := "75e13f27e5a67e23fb0376478587b80df84a5bed506c7b6c142aebc128b8926a", func := "inkhorn/inkhornlaw19.LeaseCounts", spec := "leaseCounts", apart := false }
def LeaseCountsSaid : Prop := leaseCountsRow.holds Try.pinned (OpenSpec.ofChange leaseCountsSpec)

/-- ITS FALSE NEIGHBOUR: 'it returns false'. Refute it at one input. -/
def leaseCountsWrong : ChangeSpec := { name := "leaseCounts", fn := fun _ => fun
  | [d1, d2] => { results := [.lit (.bool false)], args := [d1, d2] }
  | _ => none }
def LeaseCountsWrongFalsely : Prop := leaseCountsRow.holds Try.pinned (OpenSpec.ofChange leaseCountsWrong)

/-- 'inkhornlaw19.LeaseLives': WHATEVER THE INPUT: true; the input reads as it did. -/
def leaseLivesSpec : ChangeSpec := { name := "leaseLives", fn := fun _ => fun
  | [d1, d2, d3, d4] => { results := [.lit (.bool true)], args := [d1, d2, d3, d4] }
  | _ => none }
def leaseLivesRow : OpenClaim := { program := "ytjebpccoddcnjaa", sum := "75e13f27e5a67e23fb0376478587b80df84a5bed506c7b6c142aebc128b8926a", func := "inkhorn/inkhornlaw19.LeaseLives", spec := "leaseLives", apart := false }
def LeaseLivesSaid : Prop := leaseLivesRow.holds Try.pinned (OpenSpec.ofChange leaseLivesSpec)

/-- ITS FALSE NEIGHBOUR: 'it returns false'. Refute it at one input. -/
def leaseLivesWrong : ChangeSpec := { name := "leaseLives", fn := fun _ => fun
  | [d1, d2, d3, d4] => { results := [.lit (.bool false)], args := [d1, d2, d3, d4] }
  | _ => none }
def LeaseLivesWrongFalsely : Prop := leaseLivesRow.holds Try.pinned (OpenSpec.ofChange leaseLivesWrong)

/-- 'inkhornlaw19.LeaseScript': WHATEVER THE INPUT: true; the input reads as it did. -/
def leaseScriptSpec : ChangeSpec := { name := "leaseScript", fn := fun _ => fun
  | [d1, d2, d3, d4] => { results := [.lit (.bool true)], args := [d1, d2, d3, d4] }
  | _ => none }
def leaseScriptRow : OpenClaim := { program := "ytjebpccoddcnjaa", sum := "75e13f27e5a67e23fb0376478587b80df84a5bed506c7b6c142aebc128b8926a", func := "inkhorn/inkhornlaw19.LeaseScript", spec := "leaseScript", apart := false }
def LeaseScriptSaid : Prop := leaseScriptRow.holds Try.pinned (OpenSpec.ofChange leaseScriptSpec)

/-- ITS FALSE NEIGHBOUR: 'it returns false'. Refute it at one input. -/
def leaseScriptWrong : ChangeSpec := { name := "leaseScript", fn := fun _ => fun
  | [d1, d2, d3, d4] => { results := [.lit (.bool false)], args := [d1, d2, d3, d4] }
  | _ => none }
def LeaseScriptWrongFalsely : Prop := leaseScriptRow.holds Try.pinned (OpenSpec.ofChange leaseScriptWrong)

/-- 'inkhornlaw19.LeaseRises': WHATEVER THE INPUT: true; the input reads as it did. -/
def leaseRisesSpec : ChangeSpec := { name := "leaseRises", fn := fun _ => fun
  | [d] => { results := [.lit (.bool true)], args := [d] }
  | _ => none }
def leaseRisesRow : OpenClaim := { program := "ytjebpccoddcnjaa", sum := "75e13f27e5a67e23fb0376478587b80df84a5bed506c7b6c142aebc128b8926a", func := "inkhorn/inkhornlaw19.LeaseRises", spec := "leaseRises", apart := false }
def LeaseRisesSaid : Prop := leaseRisesRow.holds Try.pinned (OpenSpec.ofChange leaseRisesSpec)

/-- ITS FALSE NEIGHBOUR: 'it returns false'. Refute it at one input. -/
def leaseRisesWrong : ChangeSpec := { name := "leaseRises", fn := fun _ => fun
  | [d] => { results := [.lit (.bool false)], args := [d] }
  | _ => none }
def LeaseRisesWrongFalsely : Prop := leaseRisesRow.holds Try.pinned (OpenSpec.ofChange leaseRisesWrong)

/-- 'inkhornlaw19.LeaseNone': WHATEVER THE INPUT: true; the input reads as it did. -/
def leaseNoneSpec : ChangeSpec := { name := "leaseNone", fn := fun _ => fun
  | [d] => { results := [.lit (.bool true)], args := [d] }
  | _ => none }
def leaseNoneRow : OpenClaim := { program := "ytjebpccoddcnjaa", sum := "75e13f27e5a67e23fb0376478587b80df84a5bed506c7b6c142aebc128b8926a", func := "inkhorn/inkhornlaw19.LeaseNone", spec := "leaseNone", apart := false }
def LeaseNoneSaid : Prop := leaseNoneRow.holds Try.pinned (OpenSpec.ofChange leaseNoneSpec)

/-- ITS FALSE NEIGHBOUR: 'it returns false'. Refute it at one input. -/
def leaseNoneWrong : ChangeSpec := { name := "leaseNone", fn := fun _ => fun
  | [d] => { results := [.lit (.bool false)], args := [d] }
  | _ => none }
def LeaseNoneWrongFalsely : Prop := leaseNoneRow.holds Try.pinned (OpenSpec.ofChange leaseNoneWrong)

/-- 'inkhornlaw19.LeaseApart': WHATEVER THE INPUT: true; the input reads as it did. -/
def leaseApartSpec : ChangeSpec := { name := "leaseApart", fn := fun _ => fun
  | [d1, d2] => { results := [.lit (.bool true)], args := [d1, d2] }
  | _ => none }
def leaseApartRow : OpenClaim := { program := "ytjebpccoddcnjaa", sum := "75e13f27e5a67e23fb0376478587b80df84a5bed506c7b6c142aebc128b8926a", func := "inkhorn/inkhornlaw19.LeaseApart", spec := "leaseApart", apart := false }
def LeaseApartSaid : Prop := leaseApartRow.holds Try.pinned (OpenSpec.ofChange leaseApartSpec)

/-- ITS FALSE NEIGHBOUR: 'it returns false'. Refute it at one input. -/
def leaseApartWrong : ChangeSpec := { name := "leaseApart", fn := fun _ => fun
  | [d1, d2] => { results := [.lit (.bool false)], args := [d1, d2] }
  | _ => none }
def LeaseApartWrongFalsely : Prop := leaseApartRow.holds Try.pinned (OpenSpec.ofChange leaseApartWrong)

/- THE SECOND FORM. 'bulk': how many values and letters a reading holds, each counted each time it is reached (what is shared counts as often as it is met; a slice's spare places count too). A statement '..UptoSaid' is the law's where the arguments, and the package variables that the reading takes, are together of bulk at most 1048576: NARROWER than '..Said'. Prove '..Said' where nothing that the law and all that it calls make is longer than what came in: it says more and counts as full. Else prove '..UptoSaid'. A law counts once. -/
mutual
def uptoBulk {H : Type} : DataW H → Nat
  | .lit (.string bytes) => bytes.length + 1
  | .lit _ => 1
  | .nil => 1
  | .ptr d => uptoBulk d + 1
  | .slice elems spare => uptoBulkAll elems + uptoBulkAll spare + 1
  | .agg parts => uptoBulkAll parts + 1
  | .iface _ d => uptoBulk d + 1
  | .map entries => uptoBulkEntries entries + 1
  | .held _ => 1
def uptoBulkAll {H : Type} : List (DataW H) → Nat
  | [] => 0
  | d :: r => uptoBulk d + uptoBulkAll r
def uptoBulkEntries {H : Type} : List (Lit × DataW H) → Nat
  | [] => 0
  | x :: r => uptoBulkEntry x + uptoBulkEntries r
def uptoBulkEntry {H : Type} : Lit × DataW H → Nat
  | (.string bytes, d) => bytes.length + uptoBulk d + 1
  | (_, d) => uptoBulk d + 1
 end
def uptoSmall : (H : Type) → List (DataW H) → Bool := fun _ ds => decide (uptoBulkAll ds ≤ 1048576)
def OpenSpec.upto (s : _root_.Go.ChangeSpec) : _root_.Go.OpenSpec := { _root_.Go.OpenSpec.ofChange s with cond := some uptoSmall }

/-- 'inkhornlaw19.LeaseCounts', WHERE WHAT IT READS IS OF BULK AT MOST 1048576: true; the input reads as it did. -/
def leaseCountsUptoRow : OpenClaim := { program := "ytjebpccoddcnjaa", sum := "75e13f27e5a67e23fb0376478587b80df84a5bed506c7b6c142aebc128b8926a", func := "inkhorn/inkhornlaw19.LeaseCounts", spec := "leaseCounts", apart := false, narrowed := true }
def LeaseCountsUptoSaid : Prop := leaseCountsUptoRow.holds Try.pinned (OpenSpec.upto leaseCountsSpec)

/-- 'inkhornlaw19.LeaseLives', WHERE WHAT IT READS IS OF BULK AT MOST 1048576: true; the input reads as it did. -/
def leaseLivesUptoRow : OpenClaim := { program := "ytjebpccoddcnjaa", sum := "75e13f27e5a67e23fb0376478587b80df84a5bed506c7b6c142aebc128b8926a", func := "inkhorn/inkhornlaw19.LeaseLives", spec := "leaseLives", apart := false, narrowed := true }
def LeaseLivesUptoSaid : Prop := leaseLivesUptoRow.holds Try.pinned (OpenSpec.upto leaseLivesSpec)

/-- 'inkhornlaw19.LeaseScript', WHERE WHAT IT READS IS OF BULK AT MOST 1048576: true; the input reads as it did. -/
def leaseScriptUptoRow : OpenClaim := { program := "ytjebpccoddcnjaa", sum := "75e13f27e5a67e23fb0376478587b80df84a5bed506c7b6c142aebc128b8926a", func := "inkhorn/inkhornlaw19.LeaseScript", spec := "leaseScript", apart := false, narrowed := true }
def LeaseScriptUptoSaid : Prop := leaseScriptUptoRow.holds Try.pinned (OpenSpec.upto leaseScriptSpec)

/-- 'inkhornlaw19.LeaseRises', WHERE WHAT IT READS IS OF BULK AT MOST 1048576: true; the input reads as it did. -/
def leaseRisesUptoRow : OpenClaim := { program := "ytjebpccoddcnjaa", sum := "75e13f27e5a67e23fb0376478587b80df84a5bed506c7b6c142aebc128b8926a", func := "inkhorn/inkhornlaw19.LeaseRises", spec := "leaseRises", apart := false, narrowed := true }
def LeaseRisesUptoSaid : Prop := leaseRisesUptoRow.holds Try.pinned (OpenSpec.upto leaseRisesSpec)

/-- 'inkhornlaw19.LeaseNone', WHERE WHAT IT READS IS OF BULK AT MOST 1048576: true; the input reads as it did. -/
def leaseNoneUptoRow : OpenClaim := { program := "ytjebpccoddcnjaa", sum := "75e13f27e5a67e23fb0376478587b80df84a5bed506c7b6c142aebc128b8926a", func := "inkhorn/inkhornlaw19.LeaseNone", spec := "leaseNone", apart := false, narrowed := true }
def LeaseNoneUptoSaid : Prop := leaseNoneUptoRow.holds Try.pinned (OpenSpec.upto leaseNoneSpec)

/-- 'inkhornlaw19.LeaseApart', WHERE WHAT IT READS IS OF BULK AT MOST 1048576: true; the input reads as it did. -/
def leaseApartUptoRow : OpenClaim := { program := "ytjebpccoddcnjaa", sum := "75e13f27e5a67e23fb0376478587b80df84a5bed506c7b6c142aebc128b8926a", func := "inkhorn/inkhornlaw19.LeaseApart", spec := "leaseApart", apart := false, narrowed := true }
def LeaseApartUptoSaid : Prop := leaseApartUptoRow.holds Try.pinned (OpenSpec.upto leaseApartSpec)

end Rows
end Go.Proofs.Ytjebpccoddcnjaa
