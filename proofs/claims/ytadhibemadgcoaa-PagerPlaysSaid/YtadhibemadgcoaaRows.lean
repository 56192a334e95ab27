/-
  No cell of these rows narrows 'for every input' (looked for: loops, veiled, ifaces, maps, wideKeys, modest, calm, conditions, laid).
  DERIVED. THE GIVEN ROWS OF THIS SEAT. 17 by the template 'for every input the law returns true; each argument reads behind the call as it read before'; 0 by the template 'total and deterministic' (their statements: YtadhibemadgcoaaTotals.lean).
  GIVEN WITH THE SEED: the statements are not yours to turn. If you find one false, say at which input.
  Laid BY PROGRAM, IN A SANDBOX (cutbox-rows.mjs): the forced cells as the released guide's own fill.sh prints them over the translation 8de44f2baddd0ee8… (all of the seat's roots in one cut). By AI agents, Wed Nov 11 2026. No macro, syntax, notation, axiom, sorry.
-/
import Derived.Test.YtadhibemadgcoaaChecked
import GoSem.Claim
import GoSem.ClaimJoined
import GoSem.ClaimMapViews
import Derived.JoinedTies
import Derived.KernelRfl
namespace Go.Proofs.Ytadhibemadgcoaa
/- THE CELL 'sum', in the pinned program and in every row, IS THE sha256 OF THE DUMP (.gsa) THAT YtadhibemadgcoaaProg.lean LOADS. Nothing in Lean hashes anything: it is a label: what it is worth is what the hold of that sum in a sandbox is worth. -/
noncomputable def Try.pinned : Pinned := { name := "ytadhibemadgcoaa", sum := "8de44f2baddd0ee85a09c6d07315e6373bd404448e01d3203d155ba043babe07", checked := Try.checked }
namespace Rows
def none {H : Type} : Left H := { results := [], args := [] }

/-- 'haversacklaw01.DiskPieces': WHATEVER THE INPUT: true; the input reads as it did. -/
def diskPiecesSpec : ChangeSpec := { name := "diskPieces", fn := fun _ => fun
  | [d1, d2, d3, d4] => { results := [.lit (.bool true)], args := [d1, d2, d3, d4] }
  | _ => none }
def diskPiecesRow : OpenClaim := { program := "ytadhibemadgcoaa", sum := "8de44f2baddd0ee85a09c6d07315e6373bd404448e01d3203d155ba043babe07", func := "haversack/haversacklaw01.DiskPieces", spec := "diskPieces", apart := false }
def DiskPiecesSaid : Prop := diskPiecesRow.holds Try.pinned (OpenSpec.ofChange diskPiecesSpec)

/-- ITS FALSE NEIGHBOUR: 'it returns false'. Refute it at one input. -/
def diskPiecesWrong : ChangeSpec := { name := "diskPieces", fn := fun _ => fun
  | [d1, d2, d3, d4] => { results := [.lit (.bool false)], args := [d1, d2, d3, d4] }
  | _ => none }
def DiskPiecesWrongFalsely : Prop := diskPiecesRow.holds Try.pinned (OpenSpec.ofChange diskPiecesWrong)

/-- 'haversacklaw02.PageSums': WHATEVER THE INPUT: true; the input reads as it did. -/
def pageSumsSpec : ChangeSpec := { name := "pageSums", fn := fun _ => fun
  | [d] => { results := [.lit (.bool true)], args := [d] }
  | _ => none }
def pageSumsRow : OpenClaim := { program := "ytadhibemadgcoaa", sum := "8de44f2baddd0ee85a09c6d07315e6373bd404448e01d3203d155ba043babe07", func := "haversack/haversacklaw02.PageSums", spec := "pageSums", apart := false }
def PageSumsSaid : Prop := pageSumsRow.holds Try.pinned (OpenSpec.ofChange pageSumsSpec)

/-- ITS FALSE NEIGHBOUR: 'it returns false'. Refute it at one input. -/
def pageSumsWrong : ChangeSpec := { name := "pageSums", fn := fun _ => fun
  | [d] => { results := [.lit (.bool false)], args := [d] }
  | _ => none }
def PageSumsWrongFalsely : Prop := pageSumsRow.holds Try.pinned (OpenSpec.ofChange pageSumsWrong)

/-- 'haversacklaw02.PageSeals': WHATEVER THE INPUT: true; the input reads as it did. -/
def pageSealsSpec : ChangeSpec := { name := "pageSeals", fn := fun _ => fun
  | [d1, d2, d3] => { results := [.lit (.bool true)], args := [d1, d2, d3] }
  | _ => none }
def pageSealsRow : OpenClaim := { program := "ytadhibemadgcoaa", sum := "8de44f2baddd0ee85a09c6d07315e6373bd404448e01d3203d155ba043babe07", func := "haversack/haversacklaw02.PageSeals", spec := "pageSeals", apart := false }
def PageSealsSaid : Prop := pageSealsRow.holds Try.pinned (OpenSpec.ofChange pageSealsSpec)

/-- ITS FALSE NEIGHBOUR: 'it returns false'. Refute it at one input. -/
def pageSealsWrong : ChangeSpec := { name := "pageSeals", fn := fun _ => fun
  | [d1, d2, d3] => { results := [.lit (.bool false)], args := [d1, d2, d3] }
  | _ => none }
def PageSealsWrongFalsely : Prop := pageSealsRow.holds Try.pinned (OpenSpec.ofChange pageSealsWrong)

/-- 'haversacklaw02.PageOpens': WHATEVER THE INPUT: true; the input reads as it did. -/
def pageOpensSpec : ChangeSpec := { name := "pageOpens", fn := fun _ => fun
  | [d] => { results := [.lit (.bool true)], args := [d] }
  | _ => none }
def pageOpensRow : OpenClaim := { program := "ytadhibemadgcoaa", sum := "8de44f2baddd0ee85a09c6d07315e6373bd404448e01d3203d155ba043babe07", func := "haversack/haversacklaw02.PageOpens", spec := "pageOpens", apart := false }
def PageOpensSaid : Prop := pageOpensRow.holds Try.pinned (OpenSpec.ofChange pageOpensSpec)

/-- ITS FALSE NEIGHBOUR: 'it returns false'. Refute it at one input. -/
def pageOpensWrong : ChangeSpec := { name := "pageOpens", fn := fun _ => fun
  | [d] => { results := [.lit (.bool false)], args := [d] }
  | _ => none }
def PageOpensWrongFalsely : Prop := pageOpensRow.holds Try.pinned (OpenSpec.ofChange pageOpensWrong)

/-- 'haversacklaw02.PageBack': WHATEVER THE INPUT: true; the input reads as it did. -/
def pageBackSpec : ChangeSpec := { name := "pageBack", fn := fun _ => fun
  | [d1, d2, d3, d4] => { results := [.lit (.bool true)], args := [d1, d2, d3, d4] }
  | _ => none }
def pageBackRow : OpenClaim := { program := "ytadhibemadgcoaa", sum := "8de44f2baddd0ee85a09c6d07315e6373bd404448e01d3203d155ba043babe07", func := "haversack/haversacklaw02.PageBack", spec := "pageBack", apart := false }
def PageBackSaid : Prop := pageBackRow.holds Try.pinned (OpenSpec.ofChange pageBackSpec)

/-- ITS FALSE NEIGHBOUR: 'it returns false'. Refute it at one input. -/
def pageBackWrong : ChangeSpec := { name := "pageBack", fn := fun _ => fun
  | [d1, d2, d3, d4] => { results := [.lit (.bool false)], args := [d1, d2, d3, d4] }
  | _ => none }
def PageBackWrongFalsely : Prop := pageBackRow.holds Try.pinned (OpenSpec.ofChange pageBackWrong)

/-- 'haversacklaw02.PageTorn': WHATEVER THE INPUT: true; the input reads as it did. -/
def pageTornSpec : ChangeSpec := { name := "pageTorn", fn := fun _ => fun
  | [d1, d2, d3, d4, d5] => { results := [.lit (.bool true)], args := [d1, d2, d3, d4, d5] }
  | _ => none }
def pageTornRow : OpenClaim := { program := "ytadhibemadgcoaa", sum := "8de44f2baddd0ee85a09c6d07315e6373bd404448e01d3203d155ba043babe07", func := "haversack/haversacklaw02.PageTorn", spec := "pageTorn", apart := false }
def PageTornSaid : Prop := pageTornRow.holds Try.pinned (OpenSpec.ofChange pageTornSpec)

/-- ITS FALSE NEIGHBOUR: 'it returns false'. Refute it at one input. -/
def pageTornWrong : ChangeSpec := { name := "pageTorn", fn := fun _ => fun
  | [d1, d2, d3, d4, d5] => { results := [.lit (.bool false)], args := [d1, d2, d3, d4, d5] }
  | _ => none }
def PageTornWrongFalsely : Prop := pageTornRow.holds Try.pinned (OpenSpec.ofChange pageTornWrong)

/-- 'haversacklaw01.DiskAll': WHATEVER THE INPUT: true; the input reads as it did. -/
def diskAllSpec : ChangeSpec := { name := "diskAll", fn := fun _ => fun
  | [d1, d2] => { results := [.lit (.bool true)], args := [d1, d2] }
  | _ => none }
def diskAllRow : OpenClaim := { program := "ytadhibemadgcoaa", sum := "8de44f2baddd0ee85a09c6d07315e6373bd404448e01d3203d155ba043babe07", func := "haversack/haversacklaw01.DiskAll", spec := "diskAll", apart := false }
def DiskAllSaid : Prop := diskAllRow.holds Try.pinned (OpenSpec.ofChange diskAllSpec)

/-- ITS FALSE NEIGHBOUR: 'it returns false'. Refute it at one input. -/
def diskAllWrong : ChangeSpec := { name := "diskAll", fn := fun _ => fun
  | [d1, d2] => { results := [.lit (.bool false)], args := [d1, d2] }
  | _ => none }
def DiskAllWrongFalsely : Prop := diskAllRow.holds Try.pinned (OpenSpec.ofChange diskAllWrong)

/-- 'haversacklaw01.DiskFuses': WHATEVER THE INPUT: true; the input reads as it did. -/
def diskFusesSpec : ChangeSpec := { name := "diskFuses", fn := fun _ => fun
  | [d1, d2, d3] => { results := [.lit (.bool true)], args := [d1, d2, d3] }
  | _ => none }
def diskFusesRow : OpenClaim := { program := "ytadhibemadgcoaa", sum := "8de44f2baddd0ee85a09c6d07315e6373bd404448e01d3203d155ba043babe07", func := "haversack/haversacklaw01.DiskFuses", spec := "diskFuses", apart := false }
def DiskFusesSaid : Prop := diskFusesRow.holds Try.pinned (OpenSpec.ofChange diskFusesSpec)

/-- ITS FALSE NEIGHBOUR: 'it returns false'. Refute it at one input. -/
def diskFusesWrong : ChangeSpec := { name := "diskFuses", fn := fun _ => fun
  | [d1, d2, d3] => { results := [.lit (.bool false)], args := [d1, d2, d3] }
  | _ => none }
def DiskFusesWrongFalsely : Prop := diskFusesRow.holds Try.pinned (OpenSpec.ofChange diskFusesWrong)

/-- 'haversacklaw01.DiskFlushed': WHATEVER THE INPUT: true; the input reads as it did. -/
def diskFlushedSpec : ChangeSpec := { name := "diskFlushed", fn := fun _ => fun
  | [d1, d2, d3] => { results := [.lit (.bool true)], args := [d1, d2, d3] }
  | _ => none }
def diskFlushedRow : OpenClaim := { program := "ytadhibemadgcoaa", sum := "8de44f2baddd0ee85a09c6d07315e6373bd404448e01d3203d155ba043babe07", func := "haversack/haversacklaw01.DiskFlushed", spec := "diskFlushed", apart := false }
def DiskFlushedSaid : Prop := diskFlushedRow.holds Try.pinned (OpenSpec.ofChange diskFlushedSpec)

/-- ITS FALSE NEIGHBOUR: 'it returns false'. Refute it at one input. -/
def diskFlushedWrong : ChangeSpec := { name := "diskFlushed", fn := fun _ => fun
  | [d1, d2, d3] => { results := [.lit (.bool false)], args := [d1, d2, d3] }
  | _ => none }
def DiskFlushedWrongFalsely : Prop := diskFlushedRow.holds Try.pinned (OpenSpec.ofChange diskFlushedWrong)

/-- 'haversacklaw01.DiskPlays': WHATEVER THE INPUT: true; the input reads as it did. -/
def diskPlaysSpec : ChangeSpec := { name := "diskPlays", fn := fun _ => fun
  | [d1, d2] => { results := [.lit (.bool true)], args := [d1, d2] }
  | _ => none }
def diskPlaysRow : OpenClaim := { program := "ytadhibemadgcoaa", sum := "8de44f2baddd0ee85a09c6d07315e6373bd404448e01d3203d155ba043babe07", func := "haversack/haversacklaw01.DiskPlays", spec := "diskPlays", apart := false }
def DiskPlaysSaid : Prop := diskPlaysRow.holds Try.pinned (OpenSpec.ofChange diskPlaysSpec)

/-- ITS FALSE NEIGHBOUR: 'it returns false'. Refute it at one input. -/
def diskPlaysWrong : ChangeSpec := { name := "diskPlays", fn := fun _ => fun
  | [d1, d2] => { results := [.lit (.bool false)], args := [d1, d2] }
  | _ => none }
def DiskPlaysWrongFalsely : Prop := diskPlaysRow.holds Try.pinned (OpenSpec.ofChange diskPlaysWrong)

/-- 'haversacklaw01.DiskNil': WHATEVER THE INPUT: true; the input reads as it did. -/
def diskNilSpec : ChangeSpec := { name := "diskNil", fn := fun _ => fun
  | [d1, d2, d3] => { results := [.lit (.bool true)], args := [d1, d2, d3] }
  | _ => none }
def diskNilRow : OpenClaim := { program := "ytadhibemadgcoaa", sum := "8de44f2baddd0ee85a09c6d07315e6373bd404448e01d3203d155ba043babe07", func := "haversack/haversacklaw01.DiskNil", spec := "diskNil", apart := false }
def DiskNilSaid : Prop := diskNilRow.holds Try.pinned (OpenSpec.ofChange diskNilSpec)

/-- ITS FALSE NEIGHBOUR: 'it returns false'. Refute it at one input. -/
def diskNilWrong : ChangeSpec := { name := "diskNil", fn := fun _ => fun
  | [d1, d2, d3] => { results := [.lit (.bool false)], args := [d1, d2, d3] }
  | _ => none }
def DiskNilWrongFalsely : Prop := diskNilRow.holds Try.pinned (OpenSpec.ofChange diskNilWrong)

/-- 'haversacklaw03.PagerRoom': WHATEVER THE INPUT: true; the input reads as it did. -/
def pagerRoomSpec : ChangeSpec := { name := "pagerRoom", fn := fun _ => fun
  | [d1, d2] => { results := [.lit (.bool true)], args := [d1, d2] }
  | _ => none }
def pagerRoomRow : OpenClaim := { program := "ytadhibemadgcoaa", sum := "8de44f2baddd0ee85a09c6d07315e6373bd404448e01d3203d155ba043babe07", func := "haversack/haversacklaw03.PagerRoom", spec := "pagerRoom", unfollowed := true, recurses := true, apart := false }
def PagerRoomSaid : Prop := pagerRoomRow.holds Try.pinned (OpenSpec.ofChange pagerRoomSpec)

/-- ITS FALSE NEIGHBOUR: 'it returns false'. Refute it at one input. -/
def pagerRoomWrong : ChangeSpec := { name := "pagerRoom", fn := fun _ => fun
  | [d1, d2] => { results := [.lit (.bool false)], args := [d1, d2] }
  | _ => none }
def PagerRoomWrongFalsely : Prop := pagerRoomRow.holds Try.pinned (OpenSpec.ofChange pagerRoomWrong)

/-- 'haversacklaw03.PagerAborts': WHATEVER THE INPUT: true; the input reads as it did. -/
def pagerAbortsSpec : ChangeSpec := { name := "pagerAborts", fn := fun _ => fun
  | [d1, d2, d3] => { results := [.lit (.bool true)], args := [d1, d2, d3] }
  | _ => none }
def pagerAbortsRow : OpenClaim := { program := "ytadhibemadgcoaa", sum := "8de44f2baddd0ee85a09c6d07315e6373bd404448e01d3203d155ba043babe07", func := "haversack/haversacklaw03.PagerAborts", spec := "pagerAborts", unfollowed := true, recurses := true, apart := false }
def PagerAbortsSaid : Prop := pagerAbortsRow.holds Try.pinned (OpenSpec.ofChange pagerAbortsSpec)

/-- ITS FALSE NEIGHBOUR: 'it returns false'. Refute it at one input. -/
def pagerAbortsWrong : ChangeSpec := { name := "pagerAborts", fn := fun _ => fun
  | [d1, d2, d3] => { results := [.lit (.bool false)], args := [d1, d2, d3] }
  | _ => none }
def PagerAbortsWrongFalsely : Prop := pagerAbortsRow.holds Try.pinned (OpenSpec.ofChange pagerAbortsWrong)

/-- 'haversacklaw03.PagerPinned': WHATEVER THE INPUT: true; the input reads as it did. -/
def pagerPinnedSpec : ChangeSpec := { name := "pagerPinned", fn := fun _ => fun
  | [d1, d2] => { results := [.lit (.bool true)], args := [d1, d2] }
  | _ => none }
def pagerPinnedRow : OpenClaim := { program := "ytadhibemadgcoaa", sum := "8de44f2baddd0ee85a09c6d07315e6373bd404448e01d3203d155ba043babe07", func := "haversack/haversacklaw03.PagerPinned", spec := "pagerPinned", unfollowed := true, recurses := true, apart := false }
def PagerPinnedSaid : Prop := pagerPinnedRow.holds Try.pinned (OpenSpec.ofChange pagerPinnedSpec)

/-- ITS FALSE NEIGHBOUR: 'it returns false'. Refute it at one input. -/
def pagerPinnedWrong : ChangeSpec := { name := "pagerPinned", fn := fun _ => fun
  | [d1, d2] => { results := [.lit (.bool false)], args := [d1, d2] }
  | _ => none }
def PagerPinnedWrongFalsely : Prop := pagerPinnedRow.holds Try.pinned (OpenSpec.ofChange pagerPinnedWrong)

/-- 'haversacklaw03.PagerWhole': WHATEVER THE INPUT: true; the input reads as it did. -/
def pagerWholeSpec : ChangeSpec := { name := "pagerWhole", fn := fun _ => fun
  | [d1, d2, d3, d4, d5] => { results := [.lit (.bool true)], args := [d1, d2, d3, d4, d5] }
  | _ => none }
def pagerWholeRow : OpenClaim := { program := "ytadhibemadgcoaa", sum := "8de44f2baddd0ee85a09c6d07315e6373bd404448e01d3203d155ba043babe07", func := "haversack/haversacklaw03.PagerWhole", spec := "pagerWhole", unfollowed := true, recurses := true, apart := false }
def PagerWholeSaid : Prop := pagerWholeRow.holds Try.pinned (OpenSpec.ofChange pagerWholeSpec)

/-- ITS FALSE NEIGHBOUR: 'it returns false'. Refute it at one input. -/
def pagerWholeWrong : ChangeSpec := { name := "pagerWhole", fn := fun _ => fun
  | [d1, d2, d3, d4, d5] => { results := [.lit (.bool false)], args := [d1, d2, d3, d4, d5] }
  | _ => none }
def PagerWholeWrongFalsely : Prop := pagerWholeRow.holds Try.pinned (OpenSpec.ofChange pagerWholeWrong)

/-- 'haversacklaw03.PagerNil': WHATEVER THE INPUT: true; the input reads as it did. -/
def pagerNilSpec : ChangeSpec := { name := "pagerNil", fn := fun _ => fun
  | [d1, d2] => { results := [.lit (.bool true)], args := [d1, d2] }
  | _ => none }
def pagerNilRow : OpenClaim := { program := "ytadhibemadgcoaa", sum := "8de44f2baddd0ee85a09c6d07315e6373bd404448e01d3203d155ba043babe07", func := "haversack/haversacklaw03.PagerNil", spec := "pagerNil", unfollowed := true, recurses := true, apart := false }
def PagerNilSaid : Prop := pagerNilRow.holds Try.pinned (OpenSpec.ofChange pagerNilSpec)

/-- ITS FALSE NEIGHBOUR: 'it returns false'. Refute it at one input. -/
def pagerNilWrong : ChangeSpec := { name := "pagerNil", fn := fun _ => fun
  | [d1, d2] => { results := [.lit (.bool false)], args := [d1, d2] }
  | _ => none }
def PagerNilWrongFalsely : Prop := pagerNilRow.holds Try.pinned (OpenSpec.ofChange pagerNilWrong)

/-- 'haversacklaw03.PagerPlays': WHATEVER THE INPUT: true; the input reads as it did. -/
def pagerPlaysSpec : ChangeSpec := { name := "pagerPlays", fn := fun _ => fun
  | [d1, d2, d3] => { results := [.lit (.bool true)], args := [d1, d2, d3] }
  | _ => none }
def pagerPlaysRow : OpenClaim := { program := "ytadhibemadgcoaa", sum := "8de44f2baddd0ee85a09c6d07315e6373bd404448e01d3203d155ba043babe07", func := "haversack/haversacklaw03.PagerPlays", spec := "pagerPlays", unfollowed := true, recurses := true, apart := false }
def PagerPlaysSaid : Prop := pagerPlaysRow.holds Try.pinned (OpenSpec.ofChange pagerPlaysSpec)

/-- ITS FALSE NEIGHBOUR: 'it returns false'. Refute it at one input. -/
def pagerPlaysWrong : ChangeSpec := { name := "pagerPlays", fn := fun _ => fun
  | [d1, d2, d3] => { results := [.lit (.bool false)], args := [d1, d2, d3] }
  | _ => none }
def PagerPlaysWrongFalsely : Prop := pagerPlaysRow.holds Try.pinned (OpenSpec.ofChange pagerPlaysWrong)

/- THE SECOND FORM. 'bulk': how many values and letters a reading holds, each counted each time it is reached (what is shared counts as often as it is met; a slice's spare places count too). A statement '..UptoSaid' is the law's where the arguments, and the package variables that the reading takes, are together of bulk at most 1048576: NARROWER than '..Said'. Prove '..Said' where nothing that the law and all that it calls make is longer than what came in: it says more and counts as full. Else prove '..UptoSaid'. A law counts once. -/
mutual
def uptoBulk {H : Type} : DataW H → Nat
  | .lit (.string bytes) => bytes.length + 1
  | .lit _ => 1
  | .nil => 1
  | .ptr d => uptoBulk d + 1
  | .slice elems spare => uptoBulkAll elems + uptoBulkAll spare + 1
  | .agg parts => uptoBulkAll parts + 1
  | .iface _ d => uptoBulk d + 1
  | .map entries => uptoBulkEntries entries + 1
  | .held _ => 1
def uptoBulkAll {H : Type} : List (DataW H) → Nat
  | [] => 0
  | d :: r => uptoBulk d + uptoBulkAll r
def uptoBulkEntries {H : Type} : List (Lit × DataW H) → Nat
  | [] => 0
  | x :: r => uptoBulkEntry x + uptoBulkEntries r
def uptoBulkEntry {H : Type} : Lit × DataW H → Nat
  | (.string bytes, d) => bytes.length + uptoBulk d + 1
  | (_, d) => uptoBulk d + 1
 end
def uptoSmall : (H : Type) → List (DataW H) → Bool := fun _ ds => decide (uptoBulkAll ds ≤ 1048576)
def OpenSpec.upto (s : _root_.Go.ChangeSpec) : _root_.Go.OpenSpec := { _root_.Go.OpenSpec.ofChange s with cond := some uptoSmall }

/-- 'haversacklaw01.DiskPieces', WHERE WHAT IT READS IS OF BULK AT MOST 1048576: true; the input reads as it did. -/
def diskPiecesUptoRow : OpenClaim := { program := "ytadhibemadgcoaa", sum := "8de44f2baddd0ee85a09c6d07315e6373bd404448e01d3203d155ba043babe07", func := "haversack/haversacklaw01.DiskPieces", spec := "diskPieces", apart := false, narrowed := true }
def DiskPiecesUptoSaid : Prop := diskPiecesUptoRow.holds Try.pinned (OpenSpec.upto diskPiecesSpec)

/-- 'haversacklaw02.PageSums', WHERE WHAT IT READS IS OF BULK AT MOST 1048576: true; the input reads as it did. -/
def pageSumsUptoRow : OpenClaim := { program := "ytadhibemadgcoaa", sum := "8de44f2baddd0ee85a09c6d07315e6373bd404448e01d3203d155ba043babe07", func := "haversack/haversacklaw02.PageSums", spec := "pageSums", apart := false, narrowed := true }
def PageSumsUptoSaid : Prop := pageSumsUptoRow.holds Try.pinned (OpenSpec.upto pageSumsSpec)

/-- 'haversacklaw02.PageSeals', WHERE WHAT IT READS IS OF BULK AT MOST 1048576: true; the input reads as it did. -/
def pageSealsUptoRow : OpenClaim := { program := "ytadhibemadgcoaa", sum := "8de44f2baddd0ee85a09c6d07315e6373bd404448e01d3203d155ba043babe07", func := "haversack/haversacklaw02.PageSeals", spec := "pageSeals", apart := false, narrowed := true }
def PageSealsUptoSaid : Prop := pageSealsUptoRow.holds Try.pinned (OpenSpec.upto pageSealsSpec)

/-- 'haversacklaw02.PageOpens', WHERE WHAT IT READS IS OF BULK AT MOST 1048576: true; the input reads as it did. -/
def pageOpensUptoRow : OpenClaim := { program := "ytadhibemadgcoaa", sum := "8de44f2baddd0ee85a09c6d07315e6373bd404448e01d3203d155ba043babe07", func := "haversack/haversacklaw02.PageOpens", spec := "pageOpens", apart := false, narrowed := true }
def PageOpensUptoSaid : Prop := pageOpensUptoRow.holds Try.pinned (OpenSpec.upto pageOpensSpec)

/-- 'haversacklaw02.PageBack', WHERE WHAT IT READS IS OF BULK AT MOST 1048576: true; the input reads as it did. -/
def pageBackUptoRow : OpenClaim := { program := "ytadhibemadgcoaa", sum := "8de44f2baddd0ee85a09c6d07315e6373bd404448e01d3203d155ba043babe07", func := "haversack/haversacklaw02.PageBack", spec := "pageBack", apart := false, narrowed := true }
def PageBackUptoSaid : Prop := pageBackUptoRow.holds Try.pinned (OpenSpec.upto pageBackSpec)

/-- 'haversacklaw02.PageTorn', WHERE WHAT IT READS IS OF BULK AT MOST 1048576: true; the input reads as it did. -/
def pageTornUptoRow : OpenClaim := { program := "ytadhibemadgcoaa", sum := "8de44f2baddd0ee85a09c6d07315e6373bd404448e01d3203d155ba043babe07", func := "haversack/haversacklaw02.PageTorn", spec := "pageTorn", apart := false, narrowed := true }
def PageTornUptoSaid : Prop := pageTornUptoRow.holds Try.pinned (OpenSpec.upto pageTornSpec)

/-- 'haversacklaw01.DiskAll', WHERE WHAT IT READS IS OF BULK AT MOST 1048576: true; the input reads as it did. -/
def diskAllUptoRow : OpenClaim := { program := "ytadhibemadgcoaa", sum := "8de44f2baddd0ee85a09c6d07315e6373bd404448e01d3203d155ba043babe07", func := "haversack/haversacklaw01.DiskAll", spec := "diskAll", apart := false, narrowed := true }
def DiskAllUptoSaid : Prop := diskAllUptoRow.holds Try.pinned (OpenSpec.upto diskAllSpec)

/-- 'haversacklaw01.DiskFuses', WHERE WHAT IT READS IS OF BULK AT MOST 1048576: true; the input reads as it did. -/
def diskFusesUptoRow : OpenClaim := { program := "ytadhibemadgcoaa", sum := "8de44f2baddd0ee85a09c6d07315e6373bd404448e01d3203d155ba043babe07", func := "haversack/haversacklaw01.DiskFuses", spec := "diskFuses", apart := false, narrowed := true }
def DiskFusesUptoSaid : Prop := diskFusesUptoRow.holds Try.pinned (OpenSpec.upto diskFusesSpec)

/-- 'haversacklaw01.DiskFlushed', WHERE WHAT IT READS IS OF BULK AT MOST 1048576: true; the input reads as it did. -/
def diskFlushedUptoRow : OpenClaim := { program := "ytadhibemadgcoaa", sum := "8de44f2baddd0ee85a09c6d07315e6373bd404448e01d3203d155ba043babe07", func := "haversack/haversacklaw01.DiskFlushed", spec := "diskFlushed", apart := false, narrowed := true }
def DiskFlushedUptoSaid : Prop := diskFlushedUptoRow.holds Try.pinned (OpenSpec.upto diskFlushedSpec)

/-- 'haversacklaw01.DiskPlays', WHERE WHAT IT READS IS OF BULK AT MOST 1048576: true; the input reads as it did. -/
def diskPlaysUptoRow : OpenClaim := { program := "ytadhibemadgcoaa", sum := "8de44f2baddd0ee85a09c6d07315e6373bd404448e01d3203d155ba043babe07", func := "haversack/haversacklaw01.DiskPlays", spec := "diskPlays", apart := false, narrowed := true }
def DiskPlaysUptoSaid : Prop := diskPlaysUptoRow.holds Try.pinned (OpenSpec.upto diskPlaysSpec)

/-- 'haversacklaw01.DiskNil', WHERE WHAT IT READS IS OF BULK AT MOST 1048576: true; the input reads as it did. -/
def diskNilUptoRow : OpenClaim := { program := "ytadhibemadgcoaa", sum := "8de44f2baddd0ee85a09c6d07315e6373bd404448e01d3203d155ba043babe07", func := "haversack/haversacklaw01.DiskNil", spec := "diskNil", apart := false, narrowed := true }
def DiskNilUptoSaid : Prop := diskNilUptoRow.holds Try.pinned (OpenSpec.upto diskNilSpec)

/-- 'haversacklaw03.PagerRoom', WHERE WHAT IT READS IS OF BULK AT MOST 1048576: true; the input reads as it did. -/
def pagerRoomUptoRow : OpenClaim := { program := "ytadhibemadgcoaa", sum := "8de44f2baddd0ee85a09c6d07315e6373bd404448e01d3203d155ba043babe07", func := "haversack/haversacklaw03.PagerRoom", spec := "pagerRoom", unfollowed := true, recurses := true, apart := false, narrowed := true }
def PagerRoomUptoSaid : Prop := pagerRoomUptoRow.holds Try.pinned (OpenSpec.upto pagerRoomSpec)

/-- 'haversacklaw03.PagerAborts', WHERE WHAT IT READS IS OF BULK AT MOST 1048576: true; the input reads as it did. -/
def pagerAbortsUptoRow : OpenClaim := { program := "ytadhibemadgcoaa", sum := "8de44f2baddd0ee85a09c6d07315e6373bd404448e01d3203d155ba043babe07", func := "haversack/haversacklaw03.PagerAborts", spec := "pagerAborts", unfollowed := true, recurses := true, apart := false, narrowed := true }
def PagerAbortsUptoSaid : Prop := pagerAbortsUptoRow.holds Try.pinned (OpenSpec.upto pagerAbortsSpec)

/-- 'haversacklaw03.PagerPinned', WHERE WHAT IT READS IS OF BULK AT MOST 1048576: true; the input reads as it did. -/
def pagerPinnedUptoRow : OpenClaim := { program := "ytadhibemadgcoaa", sum := "8de44f2baddd0ee85a09c6d07315e6373bd404448e01d3203d155ba043babe07", func := "haversack/haversacklaw03.PagerPinned", spec := "pagerPinned", unfollowed := true, recurses := true, apart := false, narrowed := true }
def PagerPinnedUptoSaid : Prop := pagerPinnedUptoRow.holds Try.pinned (OpenSpec.upto pagerPinnedSpec)

/-- 'haversacklaw03.PagerWhole', WHERE WHAT IT READS IS OF BULK AT MOST 1048576: true; the input reads as it did. -/
def pagerWholeUptoRow : OpenClaim := { program := "ytadhibemadgcoaa", sum := "8de44f2baddd0ee85a09c6d07315e6373bd404448e01d3203d155ba043babe07", func := "haversack/haversacklaw03.PagerWhole", spec := "pagerWhole", unfollowed := true, recurses := true, apart := false, narrowed := true }
def PagerWholeUptoSaid : Prop := pagerWholeUptoRow.holds Try.pinned (OpenSpec.upto pagerWholeSpec)

/-- 'haversacklaw03.PagerNil', WHERE WHAT IT READS IS OF BULK AT MOST 1048576: true; the input reads as it did. -/
def pagerNilUptoRow : OpenClaim := { program := "ytadhibemadgcoaa", sum := "8de44f2baddd0ee85a09c6d07315e6373bd404448e01d3203d155ba043babe07", func := "haversack/haversacklaw03.PagerNil", spec := "pagerNil", unfollowed := true, recurses := true, apart := false, narrowed := true }
def PagerNilUptoSaid : Prop := pagerNilUptoRow.holds Try.pinned (OpenSpec.upto pagerNilSpec)

/-- 'haversacklaw03.PagerPlays', WHERE WHAT IT READS IS OF BULK AT MOST 1048576: true; the input reads as it did. -/
def pagerPlaysUptoRow : OpenClaim := { program := "ytadhibemadgcoaa", sum := "8de44f2baddd0ee85a09c6d07315e6373bd404448e01d3203d155ba043babe07", func := "haversack/haversacklaw03.PagerPlays", spec := "pagerPlays", unfollowed := true, recurses := true, apart := false, narrowed := true }
def PagerPlaysUptoSaid : Prop := pagerPlaysUptoRow.holds Try.pinned (OpenSpec.upto pagerPlaysSpec)

end Rows
end Go.Proofs.Ytadhibemadgcoaa
