/-
  No cell of these rows narrows 'for every input' (looked for: loops, veiled, ifaces, maps, wideKeys, modest, calm, conditions, laid).
  DERIVED. THE GIVEN ROWS OF THIS SEAT. 3 by the template 'for every input the law returns true; each argument reads behind the call as it read before'; 0 by the template 'total and deterministic' (their statements: YtkmikgajmopcbaaTotals.lean).
  GIVEN WITH THE SEED: the statements are not yours to turn. If you find one false, say at which input.
  Laid BY PROGRAM, IN A SANDBOX (cutbox-rows.mjs): the forced cells as the released guide's own fill.sh prints them over the translation 6ee722edbe2cc417… (all of the seat's roots in one cut). By AI agents, Wed Nov 11 2026. No macro, syntax, notation, axiom, sorry.
-/
import Derived.Test.YtkmikgajmopcbaaChecked
import GoSem.Claim
import GoSem.ClaimJoined
import GoSem.ClaimMapViews
import Derived.JoinedTies
import Derived.KernelRfl
namespace Go.Proofs.Ytkmikgajmopcbaa
/- THE CELL 'sum', in the pinned program and in every row, IS THE sha256 OF THE DUMP (.gsa) THAT YtkmikgajmopcbaaProg.lean LOADS. Nothing in Lean hashes anything: it is a label: what it is worth is what the hold of that sum in a sandbox is worth. -/
noncomputable def Try.pinned : Pinned := { name := "ytkmikgajmopcbaa", sum := "6ee722edbe2cc4177c195ea39f5f04ff46c478941c47c542d4d65ad002f8c794", checked := Try.checked }
namespace Rows
def none {H : Type} : Left H := { results := [], args := [] }

/-- 'handcartlaw28.BlobComes': WHATEVER THE INPUT: true; the input reads as it did. -/
def blobComesSpec : ChangeSpec := { name := "blobComes", fn := fun _ => fun
  | [d1, d2] => { results := [.lit (.bool true)], args := [d1, d2] }
  | _ => none }
def blobComesRow : OpenClaim := { program := "ytkmikgajmopcbaa", sum := "6ee722edbe2cc4177c195ea39f5f04ff46c478941c47c542d4d65ad002f8c794", func := "handcart/handcartlaw28.BlobComes", spec := "blobComes", unfollowed := true, recurses := true, apart := false }
def BlobComesSaid : Prop := blobComesRow.holds Try.pinned (OpenSpec.ofChange blobComesSpec)

/-- ITS FALSE NEIGHBOUR: 'it returns false'. Refute it at one input. -/
def blobComesWrong : ChangeSpec := { name := "blobComes", fn := fun _ => fun
  | [d1, d2] => { results := [.lit (.bool false)], args := [d1, d2] }
  | _ => none }
def BlobComesWrongFalsely : Prop := blobComesRow.holds Try.pinned (OpenSpec.ofChange blobComesWrong)

/-- 'handcartlaw28.BlobPieces': WHATEVER THE INPUT: true; the input reads as it did. -/
def blobPiecesSpec : ChangeSpec := { name := "blobPieces", fn := fun _ => fun
  | [d1, d2, d3] => { results := [.lit (.bool true)], args := [d1, d2, d3] }
  | _ => none }
def blobPiecesRow : OpenClaim := { program := "ytkmikgajmopcbaa", sum := "6ee722edbe2cc4177c195ea39f5f04ff46c478941c47c542d4d65ad002f8c794", func := "handcart/handcartlaw28.BlobPieces", spec := "blobPieces", unfollowed := true, recurses := true, apart := false }
def BlobPiecesSaid : Prop := blobPiecesRow.holds Try.pinned (OpenSpec.ofChange blobPiecesSpec)

/-- ITS FALSE NEIGHBOUR: 'it returns false'. Refute it at one input. -/
def blobPiecesWrong : ChangeSpec := { name := "blobPieces", fn := fun _ => fun
  | [d1, d2, d3] => { results := [.lit (.bool false)], args := [d1, d2, d3] }
  | _ => none }
def BlobPiecesWrongFalsely : Prop := blobPiecesRow.holds Try.pinned (OpenSpec.ofChange blobPiecesWrong)

/-- 'handcartlaw28.BlobBack': WHATEVER THE INPUT: true; the input reads as it did. -/
def blobBackSpec : ChangeSpec := { name := "blobBack", fn := fun _ => fun
  | [d1, d2] => { results := [.lit (.bool true)], args := [d1, d2] }
  | _ => none }
def blobBackRow : OpenClaim := { program := "ytkmikgajmopcbaa", sum := "6ee722edbe2cc4177c195ea39f5f04ff46c478941c47c542d4d65ad002f8c794", func := "handcart/handcartlaw28.BlobBack", spec := "blobBack", unfollowed := true, recurses := true, apart := false }
def BlobBackSaid : Prop := blobBackRow.holds Try.pinned (OpenSpec.ofChange blobBackSpec)

/-- ITS FALSE NEIGHBOUR: 'it returns false'. Refute it at one input. -/
def blobBackWrong : ChangeSpec := { name := "blobBack", fn := fun _ => fun
  | [d1, d2] => { results := [.lit (.bool false)], args := [d1, d2] }
  | _ => none }
def BlobBackWrongFalsely : Prop := blobBackRow.holds Try.pinned (OpenSpec.ofChange blobBackWrong)

/- THE SECOND FORM. 'bulk': how many values and letters a reading holds, each counted each time it is reached (what is shared counts as often as it is met; a slice's spare places count too). A statement '..UptoSaid' is the law's where the arguments, and the package variables that the reading takes, are together of bulk at most 1048576: NARROWER than '..Said'. Prove '..Said' where nothing that the law and all that it calls make is longer than what came in: it says more and counts as full. Else prove '..UptoSaid'. A law counts once. -/
mutual
def uptoBulk {H : Type} : DataW H → Nat
  | .lit (.string bytes) => bytes.length + 1
  | .lit _ => 1
  | .nil => 1
  | .ptr d => uptoBulk d + 1
  | .slice elems spare => uptoBulkAll elems + uptoBulkAll spare + 1
  | .agg parts => uptoBulkAll parts + 1
  | .iface _ d => uptoBulk d + 1
  | .map entries => uptoBulkEntries entries + 1
  | .held _ => 1
def uptoBulkAll {H : Type} : List (DataW H) → Nat
  | [] => 0
  | d :: r => uptoBulk d + uptoBulkAll r
def uptoBulkEntries {H : Type} : List (Lit × DataW H) → Nat
  | [] => 0
  | x :: r => uptoBulkEntry x + uptoBulkEntries r
def uptoBulkEntry {H : Type} : Lit × DataW H → Nat
  | (.string bytes, d) => bytes.length + uptoBulk d + 1
  | (_, d) => uptoBulk d + 1
 end
def uptoSmall : (H : Type) → List (DataW H) → Bool := fun _ ds => decide (uptoBulkAll ds ≤ 1048576)
def OpenSpec.upto (s : _root_.Go.ChangeSpec) : _root_.Go.OpenSpec := { _root_.Go.OpenSpec.ofChange s with cond := some uptoSmall }

/-- 'handcartlaw28.BlobComes', WHERE WHAT IT READS IS OF BULK AT MOST 1048576: true; the input reads as it did. -/
def blobComesUptoRow : OpenClaim := { program := "ytkmikgajmopcbaa", sum := "6ee722edbe2cc4177c195ea39f5f04ff46c478941c47c542d4d65ad002f8c794", func := "handcart/handcartlaw28.BlobComes", spec := "blobComes", unfollowed := true, recurses := true, apart := false, narrowed := true }
def BlobComesUptoSaid : Prop := blobComesUptoRow.holds Try.pinned (OpenSpec.upto blobComesSpec)

/-- 'handcartlaw28.BlobPieces', WHERE WHAT IT READS IS OF BULK AT MOST 1048576: true; the input reads as it did. -/
def blobPiecesUptoRow : OpenClaim := { program := "ytkmikgajmopcbaa", sum := "6ee722edbe2cc4177c195ea39f5f04ff46c478941c47c542d4d65ad002f8c794", func := "handcart/handcartlaw28.BlobPieces", spec := "blobPieces", unfollowed := true, recurses := true, apart := false, narrowed := true }
def BlobPiecesUptoSaid : Prop := blobPiecesUptoRow.holds Try.pinned (OpenSpec.upto blobPiecesSpec)

/-- 'handcartlaw28.BlobBack', WHERE WHAT IT READS IS OF BULK AT MOST 1048576: true; the input reads as it did. -/
def blobBackUptoRow : OpenClaim := { program := "ytkmikgajmopcbaa", sum := "6ee722edbe2cc4177c195ea39f5f04ff46c478941c47c542d4d65ad002f8c794", func := "handcart/handcartlaw28.BlobBack", spec := "blobBack", unfollowed := true, recurses := true, apart := false, narrowed := true }
def BlobBackUptoSaid : Prop := blobBackUptoRow.holds Try.pinned (OpenSpec.upto blobBackSpec)

end Rows
end Go.Proofs.Ytkmikgajmopcbaa
