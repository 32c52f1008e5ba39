/-
  No cell of these rows narrows 'for every input' (looked for: loops, veiled, ifaces, maps, wideKeys, modest, calm, conditions, laid).
  DERIVED. THE GIVEN ROWS OF THIS SEAT. 12 by the template 'for every input the law returns true; each argument reads behind the call as it read before'; 0 by the template 'total and deterministic' (their statements: YtcfphoffpbncmaaTotals.lean).
  GIVEN WITH THE SEED: the statements are not yours to turn. If you find one false, say at which input.
  Laid BY PROGRAM, IN A SANDBOX (cutbox-rows.mjs): the forced cells as the released guide's own fill.sh prints them over the translation a2b95fbfdbced871… (all of the seat's roots in one cut). By AI agents, Wed Nov 11 2026. No macro, syntax, notation, axiom, sorry.
-/
import Derived.Test.YtcfphoffpbncmaaChecked
import GoSem.Claim
import GoSem.ClaimJoined
import GoSem.ClaimMapViews
import Derived.JoinedTies
import Derived.KernelRfl
namespace Go.Proofs.Ytcfphoffpbncmaa
/- THE CELL 'sum', in the pinned program and in every row, IS THE sha256 OF THE DUMP (.gsa) THAT YtcfphoffpbncmaaProg.lean LOADS. Nothing in Lean hashes anything: it is a label: what it is worth is what the hold of that sum in a sandbox is worth. -/
noncomputable def Try.pinned : Pinned := { name := "ytcfphoffpbncmaa", sum := "a2b95fbfdbced87121658195c86c74115737009778f81861b0bb7944a7a9198f", checked := Try.checked }
namespace Rows
def none {H : Type} : Left H := { results := [], args := [] }

/-- 'charterlaw09.NamePlains': WHATEVER THE INPUT: true; the input reads as it did. -/
def namePlainsSpec : ChangeSpec := { name := "namePlains", fn := fun _ => fun
  | [d] => { results := [.lit (.bool true)], args := [d] }
  | _ => none }
def namePlainsRow : OpenClaim := { program := "ytcfphoffpbncmaa", sum := "a2b95fbfdbced87121658195c86c74115737009778f81861b0bb7944a7a9198f", func := "charter/charterlaw09.NamePlains", spec := "namePlains", unfollowed := true, recurses := true, apart := false }
def NamePlainsSaid : Prop := namePlainsRow.holds Try.pinned (OpenSpec.ofChange namePlainsSpec)

/-- ITS FALSE NEIGHBOUR: 'it returns false'. Refute it at one input. -/
def namePlainsWrong : ChangeSpec := { name := "namePlains", fn := fun _ => fun
  | [d] => { results := [.lit (.bool false)], args := [d] }
  | _ => none }
def NamePlainsWrongFalsely : Prop := namePlainsRow.holds Try.pinned (OpenSpec.ofChange namePlainsWrong)

/-- 'charterlaw09.NameAlike': WHATEVER THE INPUT: true; the input reads as it did. -/
def nameAlikeSpec : ChangeSpec := { name := "nameAlike", fn := fun _ => fun
  | [d1, d2] => { results := [.lit (.bool true)], args := [d1, d2] }
  | _ => none }
def nameAlikeRow : OpenClaim := { program := "ytcfphoffpbncmaa", sum := "a2b95fbfdbced87121658195c86c74115737009778f81861b0bb7944a7a9198f", func := "charter/charterlaw09.NameAlike", spec := "nameAlike", unfollowed := true, recurses := true, apart := false }
def NameAlikeSaid : Prop := nameAlikeRow.holds Try.pinned (OpenSpec.ofChange nameAlikeSpec)

/-- ITS FALSE NEIGHBOUR: 'it returns false'. Refute it at one input. -/
def nameAlikeWrong : ChangeSpec := { name := "nameAlike", fn := fun _ => fun
  | [d1, d2] => { results := [.lit (.bool false)], args := [d1, d2] }
  | _ => none }
def NameAlikeWrongFalsely : Prop := nameAlikeRow.holds Try.pinned (OpenSpec.ofChange nameAlikeWrong)

/-- 'charterlaw09.NameOrder': WHATEVER THE INPUT: true; the input reads as it did. -/
def nameOrderSpec : ChangeSpec := { name := "nameOrder", fn := fun _ => fun
  | [d1, d2, d3] => { results := [.lit (.bool true)], args := [d1, d2, d3] }
  | _ => none }
def nameOrderRow : OpenClaim := { program := "ytcfphoffpbncmaa", sum := "a2b95fbfdbced87121658195c86c74115737009778f81861b0bb7944a7a9198f", func := "charter/charterlaw09.NameOrder", spec := "nameOrder", unfollowed := true, recurses := true, apart := false }
def NameOrderSaid : Prop := nameOrderRow.holds Try.pinned (OpenSpec.ofChange nameOrderSpec)

/-- ITS FALSE NEIGHBOUR: 'it returns false'. Refute it at one input. -/
def nameOrderWrong : ChangeSpec := { name := "nameOrder", fn := fun _ => fun
  | [d1, d2, d3] => { results := [.lit (.bool false)], args := [d1, d2, d3] }
  | _ => none }
def NameOrderWrongFalsely : Prop := nameOrderRow.holds Try.pinned (OpenSpec.ofChange nameOrderWrong)

/-- 'charterlaw07.TlvHeads': WHATEVER THE INPUT: true; the input reads as it did. -/
def tlvHeadsSpec : ChangeSpec := { name := "tlvHeads", fn := fun _ => fun
  | [d1, d2] => { results := [.lit (.bool true)], args := [d1, d2] }
  | _ => none }
def tlvHeadsRow : OpenClaim := { program := "ytcfphoffpbncmaa", sum := "a2b95fbfdbced87121658195c86c74115737009778f81861b0bb7944a7a9198f", func := "charter/charterlaw07.TlvHeads", spec := "tlvHeads", apart := false }
def TlvHeadsSaid : Prop := tlvHeadsRow.holds Try.pinned (OpenSpec.ofChange tlvHeadsSpec)

/-- ITS FALSE NEIGHBOUR: 'it returns false'. Refute it at one input. -/
def tlvHeadsWrong : ChangeSpec := { name := "tlvHeads", fn := fun _ => fun
  | [d1, d2] => { results := [.lit (.bool false)], args := [d1, d2] }
  | _ => none }
def TlvHeadsWrongFalsely : Prop := tlvHeadsRow.holds Try.pinned (OpenSpec.ofChange tlvHeadsWrong)

/-- 'charterlaw07.TlvWrites': WHATEVER THE INPUT: true; the input reads as it did. -/
def tlvWritesSpec : ChangeSpec := { name := "tlvWrites", fn := fun _ => fun
  | [d] => { results := [.lit (.bool true)], args := [d] }
  | _ => none }
def tlvWritesRow : OpenClaim := { program := "ytcfphoffpbncmaa", sum := "a2b95fbfdbced87121658195c86c74115737009778f81861b0bb7944a7a9198f", func := "charter/charterlaw07.TlvWrites", spec := "tlvWrites", apart := false }
def TlvWritesSaid : Prop := tlvWritesRow.holds Try.pinned (OpenSpec.ofChange tlvWritesSpec)

/-- ITS FALSE NEIGHBOUR: 'it returns false'. Refute it at one input. -/
def tlvWritesWrong : ChangeSpec := { name := "tlvWrites", fn := fun _ => fun
  | [d] => { results := [.lit (.bool false)], args := [d] }
  | _ => none }
def TlvWritesWrongFalsely : Prop := tlvWritesRow.holds Try.pinned (OpenSpec.ofChange tlvWritesWrong)

/-- 'charterlaw07.TlvBack': WHATEVER THE INPUT: true; the input reads as it did. -/
def tlvBackSpec : ChangeSpec := { name := "tlvBack", fn := fun _ => fun
  | [d] => { results := [.lit (.bool true)], args := [d] }
  | _ => none }
def tlvBackRow : OpenClaim := { program := "ytcfphoffpbncmaa", sum := "a2b95fbfdbced87121658195c86c74115737009778f81861b0bb7944a7a9198f", func := "charter/charterlaw07.TlvBack", spec := "tlvBack", recurses := true, apart := false }
def TlvBackSaid : Prop := tlvBackRow.holds Try.pinned (OpenSpec.ofChange tlvBackSpec)

/-- ITS FALSE NEIGHBOUR: 'it returns false'. Refute it at one input. -/
def tlvBackWrong : ChangeSpec := { name := "tlvBack", fn := fun _ => fun
  | [d] => { results := [.lit (.bool false)], args := [d] }
  | _ => none }
def TlvBackWrongFalsely : Prop := tlvBackRow.holds Try.pinned (OpenSpec.ofChange tlvBackWrong)

/-- 'charterlaw08.PrimSorts': WHATEVER THE INPUT: true; the input reads as it did. -/
def primSortsSpec : ChangeSpec := { name := "primSorts", fn := fun _ => fun
  | [d] => { results := [.lit (.bool true)], args := [d] }
  | _ => none }
def primSortsRow : OpenClaim := { program := "ytcfphoffpbncmaa", sum := "a2b95fbfdbced87121658195c86c74115737009778f81861b0bb7944a7a9198f", func := "charter/charterlaw08.PrimSorts", spec := "primSorts", inPlace := ["internal/bytealg.Compare"], unfollowed := true, recurses := true, apart := false }
def PrimSortsSaid : Prop := primSortsRow.holds Try.pinned (OpenSpec.ofChange primSortsSpec)

/-- ITS FALSE NEIGHBOUR: 'it returns false'. Refute it at one input. -/
def primSortsWrong : ChangeSpec := { name := "primSorts", fn := fun _ => fun
  | [d] => { results := [.lit (.bool false)], args := [d] }
  | _ => none }
def PrimSortsWrongFalsely : Prop := primSortsRow.holds Try.pinned (OpenSpec.ofChange primSortsWrong)

/-- 'charterlaw09.NameWrites': WHATEVER THE INPUT: true; the input reads as it did. -/
def nameWritesSpec : ChangeSpec := { name := "nameWrites", fn := fun _ => fun
  | [d] => { results := [.lit (.bool true)], args := [d] }
  | _ => none }
def nameWritesRow : OpenClaim := { program := "ytcfphoffpbncmaa", sum := "a2b95fbfdbced87121658195c86c74115737009778f81861b0bb7944a7a9198f", func := "charter/charterlaw09.NameWrites", spec := "nameWrites", inPlace := ["internal/bytealg.IndexByteString", "internal/bytealg.Compare"], unfollowed := true, recurses := true, apart := false }
def NameWritesSaid : Prop := nameWritesRow.holds Try.pinned (OpenSpec.ofChange nameWritesSpec)

/-- ITS FALSE NEIGHBOUR: 'it returns false'. Refute it at one input. -/
def nameWritesWrong : ChangeSpec := { name := "nameWrites", fn := fun _ => fun
  | [d] => { results := [.lit (.bool false)], args := [d] }
  | _ => none }
def NameWritesWrongFalsely : Prop := nameWritesRow.holds Try.pinned (OpenSpec.ofChange nameWritesWrong)

/-- 'charterlaw08.PrimStays': WHATEVER THE INPUT: true; the input reads as it did. -/
def primStaysSpec : ChangeSpec := { name := "primStays", fn := fun _ => fun
  | [d1, d2, d3] => { results := [.lit (.bool true)], args := [d1, d2, d3] }
  | _ => none }
def primStaysRow : OpenClaim := { program := "ytcfphoffpbncmaa", sum := "a2b95fbfdbced87121658195c86c74115737009778f81861b0bb7944a7a9198f", func := "charter/charterlaw08.PrimStays", spec := "primStays", inPlace := ["internal/bytealg.Compare"], unfollowed := true, recurses := true, apart := false }
def PrimStaysSaid : Prop := primStaysRow.holds Try.pinned (OpenSpec.ofChange primStaysSpec)

/-- ITS FALSE NEIGHBOUR: 'it returns false'. Refute it at one input. -/
def primStaysWrong : ChangeSpec := { name := "primStays", fn := fun _ => fun
  | [d1, d2, d3] => { results := [.lit (.bool false)], args := [d1, d2, d3] }
  | _ => none }
def PrimStaysWrongFalsely : Prop := primStaysRow.holds Try.pinned (OpenSpec.ofChange primStaysWrong)

/-- 'charterlaw09.NameReads': WHATEVER THE INPUT: true; the input reads as it did. -/
def nameReadsSpec : ChangeSpec := { name := "nameReads", fn := fun _ => fun
  | [d] => { results := [.lit (.bool true)], args := [d] }
  | _ => none }
def nameReadsRow : OpenClaim := { program := "ytcfphoffpbncmaa", sum := "a2b95fbfdbced87121658195c86c74115737009778f81861b0bb7944a7a9198f", func := "charter/charterlaw09.NameReads", spec := "nameReads", inPlace := ["internal/bytealg.IndexByteString", "internal/bytealg.Compare"], unfollowed := true, recurses := true, apart := false }
def NameReadsSaid : Prop := nameReadsRow.holds Try.pinned (OpenSpec.ofChange nameReadsSpec)

/-- ITS FALSE NEIGHBOUR: 'it returns false'. Refute it at one input. -/
def nameReadsWrong : ChangeSpec := { name := "nameReads", fn := fun _ => fun
  | [d] => { results := [.lit (.bool false)], args := [d] }
  | _ => none }
def NameReadsWrongFalsely : Prop := nameReadsRow.holds Try.pinned (OpenSpec.ofChange nameReadsWrong)

/-- 'charterlaw09.NameBack': WHATEVER THE INPUT: true; the input reads as it did. -/
def nameBackSpec : ChangeSpec := { name := "nameBack", fn := fun _ => fun
  | [d1, d2] => { results := [.lit (.bool true)], args := [d1, d2] }
  | _ => none }
def nameBackRow : OpenClaim := { program := "ytcfphoffpbncmaa", sum := "a2b95fbfdbced87121658195c86c74115737009778f81861b0bb7944a7a9198f", func := "charter/charterlaw09.NameBack", spec := "nameBack", inPlace := ["internal/bytealg.IndexByteString", "internal/bytealg.Compare"], unfollowed := true, recurses := true, apart := false }
def NameBackSaid : Prop := nameBackRow.holds Try.pinned (OpenSpec.ofChange nameBackSpec)

/-- ITS FALSE NEIGHBOUR: 'it returns false'. Refute it at one input. -/
def nameBackWrong : ChangeSpec := { name := "nameBack", fn := fun _ => fun
  | [d1, d2] => { results := [.lit (.bool false)], args := [d1, d2] }
  | _ => none }
def NameBackWrongFalsely : Prop := nameBackRow.holds Try.pinned (OpenSpec.ofChange nameBackWrong)

/-- 'charterlaw09.NameStays': WHATEVER THE INPUT: true; the input reads as it did. -/
def nameStaysSpec : ChangeSpec := { name := "nameStays", fn := fun _ => fun
  | [d1, d2] => { results := [.lit (.bool true)], args := [d1, d2] }
  | _ => none }
def nameStaysRow : OpenClaim := { program := "ytcfphoffpbncmaa", sum := "a2b95fbfdbced87121658195c86c74115737009778f81861b0bb7944a7a9198f", func := "charter/charterlaw09.NameStays", spec := "nameStays", inPlace := ["internal/bytealg.IndexByteString", "internal/bytealg.Compare"], unfollowed := true, recurses := true, apart := false }
def NameStaysSaid : Prop := nameStaysRow.holds Try.pinned (OpenSpec.ofChange nameStaysSpec)

/-- ITS FALSE NEIGHBOUR: 'it returns false'. Refute it at one input. -/
def nameStaysWrong : ChangeSpec := { name := "nameStays", fn := fun _ => fun
  | [d1, d2] => { results := [.lit (.bool false)], args := [d1, d2] }
  | _ => none }
def NameStaysWrongFalsely : Prop := nameStaysRow.holds Try.pinned (OpenSpec.ofChange nameStaysWrong)

/- THE SECOND FORM. 'bulk': how many values and letters a reading holds, each counted each time it is reached (what is shared counts as often as it is met; a slice's spare places count too). A statement '..UptoSaid' is the law's where the arguments, and the package variables that the reading takes, are together of bulk at most 1048576: NARROWER than '..Said'. Prove '..Said' where nothing that the law and all that it calls make is longer than what came in: it says more and counts as full. Else prove '..UptoSaid'. A law counts once. -/
mutual
def uptoBulk {H : Type} : DataW H → Nat
  | .lit (.string bytes) => bytes.length + 1
  | .lit _ => 1
  | .nil => 1
  | .ptr d => uptoBulk d + 1
  | .slice elems spare => uptoBulkAll elems + uptoBulkAll spare + 1
  | .agg parts => uptoBulkAll parts + 1
  | .iface _ d => uptoBulk d + 1
  | .map entries => uptoBulkEntries entries + 1
  | .held _ => 1
def uptoBulkAll {H : Type} : List (DataW H) → Nat
  | [] => 0
  | d :: r => uptoBulk d + uptoBulkAll r
def uptoBulkEntries {H : Type} : List (Lit × DataW H) → Nat
  | [] => 0
  | x :: r => uptoBulkEntry x + uptoBulkEntries r
def uptoBulkEntry {H : Type} : Lit × DataW H → Nat
  | (.string bytes, d) => bytes.length + uptoBulk d + 1
  | (_, d) => uptoBulk d + 1
 end
def uptoSmall : (H : Type) → List (DataW H) → Bool := fun _ ds => decide (uptoBulkAll ds ≤ 1048576)
def OpenSpec.upto (s : _root_.Go.ChangeSpec) : _root_.Go.OpenSpec := { _root_.Go.OpenSpec.ofChange s with cond := some uptoSmall }

/-- 'charterlaw09.NamePlains', WHERE WHAT IT READS IS OF BULK AT MOST 1048576: true; the input reads as it did. -/
def namePlainsUptoRow : OpenClaim := { program := "ytcfphoffpbncmaa", sum := "a2b95fbfdbced87121658195c86c74115737009778f81861b0bb7944a7a9198f", func := "charter/charterlaw09.NamePlains", spec := "namePlains", unfollowed := true, recurses := true, apart := false, narrowed := true }
def NamePlainsUptoSaid : Prop := namePlainsUptoRow.holds Try.pinned (OpenSpec.upto namePlainsSpec)

/-- 'charterlaw09.NameAlike', WHERE WHAT IT READS IS OF BULK AT MOST 1048576: true; the input reads as it did. -/
def nameAlikeUptoRow : OpenClaim := { program := "ytcfphoffpbncmaa", sum := "a2b95fbfdbced87121658195c86c74115737009778f81861b0bb7944a7a9198f", func := "charter/charterlaw09.NameAlike", spec := "nameAlike", unfollowed := true, recurses := true, apart := false, narrowed := true }
def NameAlikeUptoSaid : Prop := nameAlikeUptoRow.holds Try.pinned (OpenSpec.upto nameAlikeSpec)

/-- 'charterlaw09.NameOrder', WHERE WHAT IT READS IS OF BULK AT MOST 1048576: true; the input reads as it did. -/
def nameOrderUptoRow : OpenClaim := { program := "ytcfphoffpbncmaa", sum := "a2b95fbfdbced87121658195c86c74115737009778f81861b0bb7944a7a9198f", func := "charter/charterlaw09.NameOrder", spec := "nameOrder", unfollowed := true, recurses := true, apart := false, narrowed := true }
def NameOrderUptoSaid : Prop := nameOrderUptoRow.holds Try.pinned (OpenSpec.upto nameOrderSpec)

/-- 'charterlaw07.TlvHeads', WHERE WHAT IT READS IS OF BULK AT MOST 1048576: true; the input reads as it did. -/
def tlvHeadsUptoRow : OpenClaim := { program := "ytcfphoffpbncmaa", sum := "a2b95fbfdbced87121658195c86c74115737009778f81861b0bb7944a7a9198f", func := "charter/charterlaw07.TlvHeads", spec := "tlvHeads", apart := false, narrowed := true }
def TlvHeadsUptoSaid : Prop := tlvHeadsUptoRow.holds Try.pinned (OpenSpec.upto tlvHeadsSpec)

/-- 'charterlaw07.TlvWrites', WHERE WHAT IT READS IS OF BULK AT MOST 1048576: true; the input reads as it did. -/
def tlvWritesUptoRow : OpenClaim := { program := "ytcfphoffpbncmaa", sum := "a2b95fbfdbced87121658195c86c74115737009778f81861b0bb7944a7a9198f", func := "charter/charterlaw07.TlvWrites", spec := "tlvWrites", apart := false, narrowed := true }
def TlvWritesUptoSaid : Prop := tlvWritesUptoRow.holds Try.pinned (OpenSpec.upto tlvWritesSpec)

/-- 'charterlaw07.TlvBack', WHERE WHAT IT READS IS OF BULK AT MOST 1048576: true; the input reads as it did. -/
def tlvBackUptoRow : OpenClaim := { program := "ytcfphoffpbncmaa", sum := "a2b95fbfdbced87121658195c86c74115737009778f81861b0bb7944a7a9198f", func := "charter/charterlaw07.TlvBack", spec := "tlvBack", recurses := true, apart := false, narrowed := true }
def TlvBackUptoSaid : Prop := tlvBackUptoRow.holds Try.pinned (OpenSpec.upto tlvBackSpec)

/-- 'charterlaw08.PrimSorts', WHERE WHAT IT READS IS OF BULK AT MOST 1048576: true; the input reads as it did. -/
def primSortsUptoRow : OpenClaim := { program := "ytcfphoffpbncmaa", sum := "a2b95fbfdbced87121658195c86c74115737009778f81861b0bb7944a7a9198f", func := "charter/charterlaw08.PrimSorts", spec := "primSorts", inPlace := ["internal/bytealg.Compare"], unfollowed := true, recurses := true, apart := false, narrowed := true }
def PrimSortsUptoSaid : Prop := primSortsUptoRow.holds Try.pinned (OpenSpec.upto primSortsSpec)

/-- 'charterlaw09.NameWrites', WHERE WHAT IT READS IS OF BULK AT MOST 1048576: true; the input reads as it did. -/
def nameWritesUptoRow : OpenClaim := { program := "ytcfphoffpbncmaa", sum := "a2b95fbfdbced87121658195c86c74115737009778f81861b0bb7944a7a9198f", func := "charter/charterlaw09.NameWrites", spec := "nameWrites", inPlace := ["internal/bytealg.IndexByteString", "internal/bytealg.Compare"], unfollowed := true, recurses := true, apart := false, narrowed := true }
def NameWritesUptoSaid : Prop := nameWritesUptoRow.holds Try.pinned (OpenSpec.upto nameWritesSpec)

/-- 'charterlaw08.PrimStays', WHERE WHAT IT READS IS OF BULK AT MOST 1048576: true; the input reads as it did. -/
def primStaysUptoRow : OpenClaim := { program := "ytcfphoffpbncmaa", sum := "a2b95fbfdbced87121658195c86c74115737009778f81861b0bb7944a7a9198f", func := "charter/charterlaw08.PrimStays", spec := "primStays", inPlace := ["internal/bytealg.Compare"], unfollowed := true, recurses := true, apart := false, narrowed := true }
def PrimStaysUptoSaid : Prop := primStaysUptoRow.holds Try.pinned (OpenSpec.upto primStaysSpec)

/-- 'charterlaw09.NameReads', WHERE WHAT IT READS IS OF BULK AT MOST 1048576: true; the input reads as it did. -/
def nameReadsUptoRow : OpenClaim := { program := "ytcfphoffpbncmaa", sum := "a2b95fbfdbced87121658195c86c74115737009778f81861b0bb7944a7a9198f", func := "charter/charterlaw09.NameReads", spec := "nameReads", inPlace := ["internal/bytealg.IndexByteString", "internal/bytealg.Compare"], unfollowed := true, recurses := true, apart := false, narrowed := true }
def NameReadsUptoSaid : Prop := nameReadsUptoRow.holds Try.pinned (OpenSpec.upto nameReadsSpec)

/-- 'charterlaw09.NameBack', WHERE WHAT IT READS IS OF BULK AT MOST 1048576: true; the input reads as it did. -/
def nameBackUptoRow : OpenClaim := { program := "ytcfphoffpbncmaa", sum := "a2b95fbfdbced87121658195c86c74115737009778f81861b0bb7944a7a9198f", func := "charter/charterlaw09.NameBack", spec := "nameBack", inPlace := ["internal/bytealg.IndexByteString", "internal/bytealg.Compare"], unfollowed := true, recurses := true, apart := false, narrowed := true }
def NameBackUptoSaid : Prop := nameBackUptoRow.holds Try.pinned (OpenSpec.upto nameBackSpec)

/-- 'charterlaw09.NameStays', WHERE WHAT IT READS IS OF BULK AT MOST 1048576: true; the input reads as it did. -/
def nameStaysUptoRow : OpenClaim := { program := "ytcfphoffpbncmaa", sum := "a2b95fbfdbced87121658195c86c74115737009778f81861b0bb7944a7a9198f", func := "charter/charterlaw09.NameStays", spec := "nameStays", inPlace := ["internal/bytealg.IndexByteString", "internal/bytealg.Compare"], unfollowed := true, recurses := true, apart := false, narrowed := true }
def NameStaysUptoSaid : Prop := nameStaysUptoRow.holds Try.pinned (OpenSpec.upto nameStaysSpec)

end Rows
end Go.Proofs.Ytcfphoffpbncmaa
