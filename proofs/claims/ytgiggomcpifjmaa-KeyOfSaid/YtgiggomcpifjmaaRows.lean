/-
  No cell of these rows narrows 'for every input' (looked for: loops, veiled, ifaces, maps, wideKeys, modest, calm, conditions, laid).
  DERIVED. THE GIVEN ROWS OF THIS SEAT. 8 by the template 'for every input the law returns true; each argument reads behind the call as it read before'; 0 by the template 'total and deterministic' (their statements: YtgiggomcpifjmaaTotals.lean).
  GIVEN WITH THE SEED: the statements are not yours to turn. If you find one false, say at which input.
  Laid BY PROGRAM, IN A SANDBOX (cutbox-rows.mjs): the forced cells as the released guide's own fill.sh prints them over the translation 69e91b3ae0b538c2… (all of the seat's roots in one cut). By AI agents, Wed Nov 11 2026. No macro, syntax, notation, axiom, sorry.
-/
import Derived.Test.YtgiggomcpifjmaaChecked
import GoSem.Claim
import GoSem.ClaimJoined
import GoSem.ClaimMapViews
import Derived.JoinedTies
import Derived.KernelRfl
namespace Go.Proofs.Ytgiggomcpifjmaa
/- THE CELL 'sum', in the pinned program and in every row, IS THE sha256 OF THE DUMP (.gsa) THAT YtgiggomcpifjmaaProg.lean LOADS. Nothing in Lean hashes anything: it is a label: what it is worth is what the hold of that sum in a sandbox is worth. -/
noncomputable def Try.pinned : Pinned := { name := "ytgiggomcpifjmaa", sum := "69e91b3ae0b538c2b297d4c58b4deea06d38246551ed68471a339a629a9ae5b2", checked := Try.checked }
namespace Rows
def none {H : Type} : Left H := { results := [], args := [] }

/-- 'plummetlaw13.KeySplit': WHATEVER THE INPUT: true; the input reads as it did. -/
def keySplitSpec : ChangeSpec := { name := "keySplit", fn := fun _ => fun
  | [d1, d2] => { results := [.lit (.bool true)], args := [d1, d2] }
  | _ => none }
def keySplitRow : OpenClaim := { program := "ytgiggomcpifjmaa", sum := "69e91b3ae0b538c2b297d4c58b4deea06d38246551ed68471a339a629a9ae5b2", func := "plummet/plummetlaw13.KeySplit", spec := "keySplit", inPlace := ["math/bits.Sub64", "math/bits.Add64"], unfollowed := true, recurses := true, apart := false }
def KeySplitSaid : Prop := keySplitRow.holds Try.pinned (OpenSpec.ofChange keySplitSpec)

/-- ITS FALSE NEIGHBOUR: 'it returns false'. Refute it at one input. -/
def keySplitWrong : ChangeSpec := { name := "keySplit", fn := fun _ => fun
  | [d1, d2] => { results := [.lit (.bool false)], args := [d1, d2] }
  | _ => none }
def KeySplitWrongFalsely : Prop := keySplitRow.holds Try.pinned (OpenSpec.ofChange keySplitWrong)

/-- 'plummetlaw13.KeyApart': WHATEVER THE INPUT: true; the input reads as it did. -/
def keyApartSpec : ChangeSpec := { name := "keyApart", fn := fun _ => fun
  | [d1, d2, d3] => { results := [.lit (.bool true)], args := [d1, d2, d3] }
  | _ => none }
def keyApartRow : OpenClaim := { program := "ytgiggomcpifjmaa", sum := "69e91b3ae0b538c2b297d4c58b4deea06d38246551ed68471a339a629a9ae5b2", func := "plummet/plummetlaw13.KeyApart", spec := "keyApart", inPlace := ["math/bits.Sub64", "math/bits.Add64"], unfollowed := true, recurses := true, apart := false }
def KeyApartSaid : Prop := keyApartRow.holds Try.pinned (OpenSpec.ofChange keyApartSpec)

/-- ITS FALSE NEIGHBOUR: 'it returns false'. Refute it at one input. -/
def keyApartWrong : ChangeSpec := { name := "keyApart", fn := fun _ => fun
  | [d1, d2, d3] => { results := [.lit (.bool false)], args := [d1, d2, d3] }
  | _ => none }
def KeyApartWrongFalsely : Prop := keyApartRow.holds Try.pinned (OpenSpec.ofChange keyApartWrong)

/-- 'plummetlaw13.KeyOf': WHATEVER THE INPUT: true; the input reads as it did. -/
def keyOfSpec : ChangeSpec := { name := "keyOf", fn := fun _ => fun
  | [d1, d2] => { results := [.lit (.bool true)], args := [d1, d2] }
  | _ => none }
def keyOfRow : OpenClaim := { program := "ytgiggomcpifjmaa", sum := "69e91b3ae0b538c2b297d4c58b4deea06d38246551ed68471a339a629a9ae5b2", func := "plummet/plummetlaw13.KeyOf", spec := "keyOf", inPlace := ["math/bits.Sub64", "math/bits.Add64"], unfollowed := true, recurses := true, apart := false }
def KeyOfSaid : Prop := keyOfRow.holds Try.pinned (OpenSpec.ofChange keyOfSpec)

/-- ITS FALSE NEIGHBOUR: 'it returns false'. Refute it at one input. -/
def keyOfWrong : ChangeSpec := { name := "keyOf", fn := fun _ => fun
  | [d1, d2] => { results := [.lit (.bool false)], args := [d1, d2] }
  | _ => none }
def KeyOfWrongFalsely : Prop := keyOfRow.holds Try.pinned (OpenSpec.ofChange keyOfWrong)

/-- 'plummetlaw13.KeyCanon': WHATEVER THE INPUT: true; the input reads as it did. -/
def keyCanonSpec : ChangeSpec := { name := "keyCanon", fn := fun _ => fun
  | [d1, d2] => { results := [.lit (.bool true)], args := [d1, d2] }
  | _ => none }
def keyCanonRow : OpenClaim := { program := "ytgiggomcpifjmaa", sum := "69e91b3ae0b538c2b297d4c58b4deea06d38246551ed68471a339a629a9ae5b2", func := "plummet/plummetlaw13.KeyCanon", spec := "keyCanon", inPlace := ["math/bits.Sub64", "math/bits.Add64"], unfollowed := true, recurses := true, apart := false }
def KeyCanonSaid : Prop := keyCanonRow.holds Try.pinned (OpenSpec.ofChange keyCanonSpec)

/-- ITS FALSE NEIGHBOUR: 'it returns false'. Refute it at one input. -/
def keyCanonWrong : ChangeSpec := { name := "keyCanon", fn := fun _ => fun
  | [d1, d2] => { results := [.lit (.bool false)], args := [d1, d2] }
  | _ => none }
def KeyCanonWrongFalsely : Prop := keyCanonRow.holds Try.pinned (OpenSpec.ofChange keyCanonWrong)

/-- 'plummetlaw41.StorePlays': WHATEVER THE INPUT: true; the input reads as it did. -/
def storePlaysSpec : ChangeSpec := { name := "storePlays", fn := fun _ => fun
  | [d] => { results := [.lit (.bool true)], args := [d] }
  | _ => none }
def storePlaysRow : OpenClaim := { program := "ytgiggomcpifjmaa", sum := "69e91b3ae0b538c2b297d4c58b4deea06d38246551ed68471a339a629a9ae5b2", func := "plummet/plummetlaw41.StorePlays", spec := "storePlays", unfollowed := true, recurses := true, apart := false }
def StorePlaysSaid : Prop := storePlaysRow.holds Try.pinned (OpenSpec.ofChange storePlaysSpec)

/-- ITS FALSE NEIGHBOUR: 'it returns false'. Refute it at one input. -/
def storePlaysWrong : ChangeSpec := { name := "storePlays", fn := fun _ => fun
  | [d] => { results := [.lit (.bool false)], args := [d] }
  | _ => none }
def StorePlaysWrongFalsely : Prop := storePlaysRow.holds Try.pinned (OpenSpec.ofChange storePlaysWrong)

/-- 'plummetlaw41.StoreOwn': WHATEVER THE INPUT: true; the input reads as it did. -/
def storeOwnSpec : ChangeSpec := { name := "storeOwn", fn := fun _ => fun
  | [d1, d2, d3] => { results := [.lit (.bool true)], args := [d1, d2, d3] }
  | _ => none }
def storeOwnRow : OpenClaim := { program := "ytgiggomcpifjmaa", sum := "69e91b3ae0b538c2b297d4c58b4deea06d38246551ed68471a339a629a9ae5b2", func := "plummet/plummetlaw41.StoreOwn", spec := "storeOwn", unfollowed := true, recurses := true, apart := false }
def StoreOwnSaid : Prop := storeOwnRow.holds Try.pinned (OpenSpec.ofChange storeOwnSpec)

/-- ITS FALSE NEIGHBOUR: 'it returns false'. Refute it at one input. -/
def storeOwnWrong : ChangeSpec := { name := "storeOwn", fn := fun _ => fun
  | [d1, d2, d3] => { results := [.lit (.bool false)], args := [d1, d2, d3] }
  | _ => none }
def StoreOwnWrongFalsely : Prop := storeOwnRow.holds Try.pinned (OpenSpec.ofChange storeOwnWrong)

/-- 'plummetlaw41.StoreLong': WHATEVER THE INPUT: true; the input reads as it did. -/
def storeLongSpec : ChangeSpec := { name := "storeLong", fn := fun _ => fun
  | [d1, d2] => { results := [.lit (.bool true)], args := [d1, d2] }
  | _ => none }
def storeLongRow : OpenClaim := { program := "ytgiggomcpifjmaa", sum := "69e91b3ae0b538c2b297d4c58b4deea06d38246551ed68471a339a629a9ae5b2", func := "plummet/plummetlaw41.StoreLong", spec := "storeLong", unfollowed := true, recurses := true, apart := false }
def StoreLongSaid : Prop := storeLongRow.holds Try.pinned (OpenSpec.ofChange storeLongSpec)

/-- ITS FALSE NEIGHBOUR: 'it returns false'. Refute it at one input. -/
def storeLongWrong : ChangeSpec := { name := "storeLong", fn := fun _ => fun
  | [d1, d2] => { results := [.lit (.bool false)], args := [d1, d2] }
  | _ => none }
def StoreLongWrongFalsely : Prop := storeLongRow.holds Try.pinned (OpenSpec.ofChange storeLongWrong)

/-- 'plummetlaw41.StoreNone': WHATEVER THE INPUT: true; the input reads as it did. -/
def storeNoneSpec : ChangeSpec := { name := "storeNone", fn := fun _ => fun
  | [d] => { results := [.lit (.bool true)], args := [d] }
  | _ => none }
def storeNoneRow : OpenClaim := { program := "ytgiggomcpifjmaa", sum := "69e91b3ae0b538c2b297d4c58b4deea06d38246551ed68471a339a629a9ae5b2", func := "plummet/plummetlaw41.StoreNone", spec := "storeNone", unfollowed := true, recurses := true, apart := false }
def StoreNoneSaid : Prop := storeNoneRow.holds Try.pinned (OpenSpec.ofChange storeNoneSpec)

/-- ITS FALSE NEIGHBOUR: 'it returns false'. Refute it at one input. -/
def storeNoneWrong : ChangeSpec := { name := "storeNone", fn := fun _ => fun
  | [d] => { results := [.lit (.bool false)], args := [d] }
  | _ => none }
def StoreNoneWrongFalsely : Prop := storeNoneRow.holds Try.pinned (OpenSpec.ofChange storeNoneWrong)

/- THE SECOND FORM. 'bulk': how many values and letters a reading holds, each counted each time it is reached (what is shared counts as often as it is met; a slice's spare places count too). A statement '..UptoSaid' is the law's where the arguments, and the package variables that the reading takes, are together of bulk at most 1048576: NARROWER than '..Said'. Prove '..Said' where nothing that the law and all that it calls make is longer than what came in: it says more and counts as full. Else prove '..UptoSaid'. A law counts once. -/
mutual
def uptoBulk {H : Type} : DataW H → Nat
  | .lit (.string bytes) => bytes.length + 1
  | .lit _ => 1
  | .nil => 1
  | .ptr d => uptoBulk d + 1
  | .slice elems spare => uptoBulkAll elems + uptoBulkAll spare + 1
  | .agg parts => uptoBulkAll parts + 1
  | .iface _ d => uptoBulk d + 1
  | .map entries => uptoBulkEntries entries + 1
  | .held _ => 1
def uptoBulkAll {H : Type} : List (DataW H) → Nat
  | [] => 0
  | d :: r => uptoBulk d + uptoBulkAll r
def uptoBulkEntries {H : Type} : List (Lit × DataW H) → Nat
  | [] => 0
  | x :: r => uptoBulkEntry x + uptoBulkEntries r
def uptoBulkEntry {H : Type} : Lit × DataW H → Nat
  | (.string bytes, d) => bytes.length + uptoBulk d + 1
  | (_, d) => uptoBulk d + 1
 end
def uptoSmall : (H : Type) → List (DataW H) → Bool := fun _ ds => decide (uptoBulkAll ds ≤ 1048576)
def OpenSpec.upto (s : _root_.Go.ChangeSpec) : _root_.Go.OpenSpec := { _root_.Go.OpenSpec.ofChange s with cond := some uptoSmall }

/-- 'plummetlaw13.KeySplit', WHERE WHAT IT READS IS OF BULK AT MOST 1048576: true; the input reads as it did. -/
def keySplitUptoRow : OpenClaim := { program := "ytgiggomcpifjmaa", sum := "69e91b3ae0b538c2b297d4c58b4deea06d38246551ed68471a339a629a9ae5b2", func := "plummet/plummetlaw13.KeySplit", spec := "keySplit", inPlace := ["math/bits.Sub64", "math/bits.Add64"], unfollowed := true, recurses := true, apart := false, narrowed := true }
def KeySplitUptoSaid : Prop := keySplitUptoRow.holds Try.pinned (OpenSpec.upto keySplitSpec)

/-- 'plummetlaw13.KeyApart', WHERE WHAT IT READS IS OF BULK AT MOST 1048576: true; the input reads as it did. -/
def keyApartUptoRow : OpenClaim := { program := "ytgiggomcpifjmaa", sum := "69e91b3ae0b538c2b297d4c58b4deea06d38246551ed68471a339a629a9ae5b2", func := "plummet/plummetlaw13.KeyApart", spec := "keyApart", inPlace := ["math/bits.Sub64", "math/bits.Add64"], unfollowed := true, recurses := true, apart := false, narrowed := true }
def KeyApartUptoSaid : Prop := keyApartUptoRow.holds Try.pinned (OpenSpec.upto keyApartSpec)

/-- 'plummetlaw13.KeyOf', WHERE WHAT IT READS IS OF BULK AT MOST 1048576: true; the input reads as it did. -/
def keyOfUptoRow : OpenClaim := { program := "ytgiggomcpifjmaa", sum := "69e91b3ae0b538c2b297d4c58b4deea06d38246551ed68471a339a629a9ae5b2", func := "plummet/plummetlaw13.KeyOf", spec := "keyOf", inPlace := ["math/bits.Sub64", "math/bits.Add64"], unfollowed := true, recurses := true, apart := false, narrowed := true }
def KeyOfUptoSaid : Prop := keyOfUptoRow.holds Try.pinned (OpenSpec.upto keyOfSpec)

/-- 'plummetlaw13.KeyCanon', WHERE WHAT IT READS IS OF BULK AT MOST 1048576: true; the input reads as it did. -/
def keyCanonUptoRow : OpenClaim := { program := "ytgiggomcpifjmaa", sum := "69e91b3ae0b538c2b297d4c58b4deea06d38246551ed68471a339a629a9ae5b2", func := "plummet/plummetlaw13.KeyCanon", spec := "keyCanon", inPlace := ["math/bits.Sub64", "math/bits.Add64"], unfollowed := true, recurses := true, apart := false, narrowed := true }
def KeyCanonUptoSaid : Prop := keyCanonUptoRow.holds Try.pinned (OpenSpec.upto keyCanonSpec)

/-- 'plummetlaw41.StorePlays', WHERE WHAT IT READS IS OF BULK AT MOST 1048576: true; the input reads as it did. -/
def storePlaysUptoRow : OpenClaim := { program := "ytgiggomcpifjmaa", sum := "69e91b3ae0b538c2b297d4c58b4deea06d38246551ed68471a339a629a9ae5b2", func := "plummet/plummetlaw41.StorePlays", spec := "storePlays", unfollowed := true, recurses := true, apart := false, narrowed := true }
def StorePlaysUptoSaid : Prop := storePlaysUptoRow.holds Try.pinned (OpenSpec.upto storePlaysSpec)

/-- 'plummetlaw41.StoreOwn', WHERE WHAT IT READS IS OF BULK AT MOST 1048576: true; the input reads as it did. -/
def storeOwnUptoRow : OpenClaim := { program := "ytgiggomcpifjmaa", sum := "69e91b3ae0b538c2b297d4c58b4deea06d38246551ed68471a339a629a9ae5b2", func := "plummet/plummetlaw41.StoreOwn", spec := "storeOwn", unfollowed := true, recurses := true, apart := false, narrowed := true }
def StoreOwnUptoSaid : Prop := storeOwnUptoRow.holds Try.pinned (OpenSpec.upto storeOwnSpec)

/-- 'plummetlaw41.StoreLong', WHERE WHAT IT READS IS OF BULK AT MOST 1048576: true; the input reads as it did. -/
def storeLongUptoRow : OpenClaim := { program := "ytgiggomcpifjmaa", sum := "69e91b3ae0b538c2b297d4c58b4deea06d38246551ed68471a339a629a9ae5b2", func := "plummet/plummetlaw41.StoreLong", spec := "storeLong", unfollowed := true, recurses := true, apart := false, narrowed := true }
def StoreLongUptoSaid : Prop := storeLongUptoRow.holds Try.pinned (OpenSpec.upto storeLongSpec)

/-- 'plummetlaw41.StoreNone', WHERE WHAT IT READS IS OF BULK AT MOST 1048576: true; the input reads as it did. -/
def storeNoneUptoRow : OpenClaim := { program := "ytgiggomcpifjmaa", sum := "69e91b3ae0b538c2b297d4c58b4deea06d38246551ed68471a339a629a9ae5b2", func := "plummet/plummetlaw41.StoreNone", spec := "storeNone", unfollowed := true, recurses := true, apart := false, narrowed := true }
def StoreNoneUptoSaid : Prop := storeNoneUptoRow.holds Try.pinned (OpenSpec.upto storeNoneSpec)

end Rows
end Go.Proofs.Ytgiggomcpifjmaa
