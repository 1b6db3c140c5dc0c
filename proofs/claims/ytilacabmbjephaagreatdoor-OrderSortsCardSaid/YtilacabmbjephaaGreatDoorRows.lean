/-
  NARROWER THAN 'FOR EVERY INPUT', by the rows' own cells (each row's printed sentence says how): OrderSorts: laid · OrderDeletes: laid · OrderLowers: laid · OrderSwaps: laid · OrderShares: laid · OrderNeighbors: laid · OrderSmaller: laid · OrderRanks: laid.
  DERIVED. THE GIVEN ROWS OF THIS SEAT. 8 by the template 'for every input the law returns true; each argument reads behind the call as it read before'; 0 by the template 'total and deterministic' (their statements: YtilacabmbjephaaGreatDoorTotals.lean).
  GIVEN WITH THE SEED: the statements are not yours to turn. If you find one false, say at which input.
  Laid BY PROGRAM, IN A SANDBOX (cutbox-rows.mjs): the forced cells as the released guide's own fill.sh prints them over the translation 7edee191ab1cfda2… (all of the seat's roots in one cut). By AI agents, Wed Nov 11 2026. No macro, syntax, notation, axiom, sorry.
-/
import Derived.Test.YtilacabmbjephaaGreatDoorChecked
import GoSem.PinnedTables
import GoSem.Claim
import GoSem.ClaimJoined
import GoSem.ClaimMapViews
import Derived.JoinedTies
import Derived.KernelRfl
namespace Go.Proofs.YtilacabmbjephaaGreatDoor
/- THE CELL 'sum', in the pinned program and in every row, IS THE sha256 OF THE DUMP (.gsa) THAT YtilacabmbjephaaGreatDoorProg.lean LOADS. Nothing in Lean hashes anything: it is a label: what it is worth is what the hold of that sum in a sandbox is worth. -/
noncomputable def Tryz.pinned : Pinned := { name := "ytilacabmbjephaagreatdoor", sum := "7edee191ab1cfda20082822088a66d055e2cb4400e3fcf32bb3ad1e0eb8f5dd0", checked := Tryz.checked }
namespace Rows
def none {H : Type} : Left H := { results := [], args := [] }

/- WHAT THE LISTED PACKAGE-LEVEL VARIABLES READ AS WHEN THE CALL BEGINS. Each datum BY PROGRAM (the guide's laid-datum.mjs) off the statement by which the dump's own 'gosem.cut.vars' lays the variable. In a bare row this is a premise. The card (YtilacabmbjephaaGreatDoorCards.lean) ties it to the program's text. -/
def laid_unicode_utf8_acceptRanges {H : Type} : DataW H := .agg [.agg [.lit (.int .u8 128), .lit (.int .u8 191)], .agg [.lit (.int .u8 160), .lit (.int .u8 191)], .agg [.lit (.int .u8 128), .lit (.int .u8 159)], .agg [.lit (.int .u8 144), .lit (.int .u8 191)], .agg [.lit (.int .u8 128), .lit (.int .u8 143)], .agg [.lit (.int .u8 0), .lit (.int .u8 0)], .agg [.lit (.int .u8 0), .lit (.int .u8 0)], .agg [.lit (.int .u8 0), .lit (.int .u8 0)], .agg [.lit (.int .u8 0), .lit (.int .u8 0)], .agg [.lit (.int .u8 0), .lit (.int .u8 0)], .agg [.lit (.int .u8 0), .lit (.int .u8 0)], .agg [.lit (.int .u8 0), .lit (.int .u8 0)], .agg [.lit (.int .u8 0), .lit (.int .u8 0)], .agg [.lit (.int .u8 0), .lit (.int .u8 0)], .agg [.lit (.int .u8 0), .lit (.int .u8 0)], .agg [.lit (.int .u8 0), .lit (.int .u8 0)]]
def laid_refuter_tree_used {H : Type} : DataW H := .agg [.agg [.lit (.bool false), .lit (.bool false), .lit (.bool false), .lit (.bool false), .lit (.bool false), .lit (.bool true)], .agg [.lit (.bool false), .lit (.bool true), .lit (.bool false), .lit (.bool false), .lit (.bool false), .lit (.bool false)], .agg [.lit (.bool false), .lit (.bool false), .lit (.bool true), .lit (.bool false), .lit (.bool true), .lit (.bool false)], .agg [.lit (.bool true), .lit (.bool false), .lit (.bool false), .lit (.bool false), .lit (.bool true), .lit (.bool false)], .agg [.lit (.bool false), .lit (.bool false), .lit (.bool false), .lit (.bool true), .lit (.bool true), .lit (.bool false)]]
/-- One of Go's own tables, pinned by name: the form's constant. -/
def laid_unicode_utf8_first : DataW Unit := Go.Pinned.utf8First

/-- 'refuterlaw21.OrderSorts': WHATEVER THE INPUT: true; the input reads as it did. -/
def orderSortsSpec : ChangeSpec := { name := "orderSorts", fn := fun _ => fun
  | [d1, d2, d3] => { results := [.lit (.bool true)], args := [d1, d2, d3] }
  | _ => none }
def orderSortsRow : OpenClaim := { program := "ytilacabmbjephaagreatdoor", sum := "7edee191ab1cfda20082822088a66d055e2cb4400e3fcf32bb3ad1e0eb8f5dd0", func := "refuter/refuterlaw21.OrderSorts", spec := "orderSorts", inPlace := ["internal/bytealg.IndexByteString", "internal/bytealg.IndexString", "internal/bytealg.abigen_runtime_cmpstring"], unfollowed := true, recurses := true, named := ["refuter/tree.used", "unicode/utf8.first", "unicode/utf8.acceptRanges", "internal/bytealg.MaxLen"], apart := false, laid := [("unicode/utf8.acceptRanges", laid_unicode_utf8_acceptRanges), ("refuter/tree.used", laid_refuter_tree_used), ("unicode/utf8.first", laid_unicode_utf8_first)] }
def OrderSortsSaid : Prop := orderSortsRow.holds Tryz.pinned (OpenSpec.ofChange orderSortsSpec)

/-- ITS FALSE NEIGHBOUR: 'it returns false'. Refute it at one input. -/
def orderSortsWrong : ChangeSpec := { name := "orderSorts", fn := fun _ => fun
  | [d1, d2, d3] => { results := [.lit (.bool false)], args := [d1, d2, d3] }
  | _ => none }
def OrderSortsWrongFalsely : Prop := orderSortsRow.holds Tryz.pinned (OpenSpec.ofChange orderSortsWrong)

/-- 'refuterlaw21.OrderDeletes': WHATEVER THE INPUT: true; the input reads as it did. -/
def orderDeletesSpec : ChangeSpec := { name := "orderDeletes", fn := fun _ => fun
  | [d1, d2, d3, d4, d5] => { results := [.lit (.bool true)], args := [d1, d2, d3, d4, d5] }
  | _ => none }
def orderDeletesRow : OpenClaim := { program := "ytilacabmbjephaagreatdoor", sum := "7edee191ab1cfda20082822088a66d055e2cb4400e3fcf32bb3ad1e0eb8f5dd0", func := "refuter/refuterlaw21.OrderDeletes", spec := "orderDeletes", inPlace := ["internal/bytealg.IndexByteString", "internal/bytealg.IndexString", "internal/bytealg.abigen_runtime_cmpstring"], unfollowed := true, recurses := true, named := ["refuter/tree.used", "unicode/utf8.first", "unicode/utf8.acceptRanges", "internal/bytealg.MaxLen"], apart := false, laid := [("unicode/utf8.acceptRanges", laid_unicode_utf8_acceptRanges), ("refuter/tree.used", laid_refuter_tree_used), ("unicode/utf8.first", laid_unicode_utf8_first)] }
def OrderDeletesSaid : Prop := orderDeletesRow.holds Tryz.pinned (OpenSpec.ofChange orderDeletesSpec)

/-- ITS FALSE NEIGHBOUR: 'it returns false'. Refute it at one input. -/
def orderDeletesWrong : ChangeSpec := { name := "orderDeletes", fn := fun _ => fun
  | [d1, d2, d3, d4, d5] => { results := [.lit (.bool false)], args := [d1, d2, d3, d4, d5] }
  | _ => none }
def OrderDeletesWrongFalsely : Prop := orderDeletesRow.holds Tryz.pinned (OpenSpec.ofChange orderDeletesWrong)

/-- 'refuterlaw21.OrderLowers': WHATEVER THE INPUT: true; the input reads as it did. -/
def orderLowersSpec : ChangeSpec := { name := "orderLowers", fn := fun _ => fun
  | [d1, d2, d3, d4, d5] => { results := [.lit (.bool true)], args := [d1, d2, d3, d4, d5] }
  | _ => none }
def orderLowersRow : OpenClaim := { program := "ytilacabmbjephaagreatdoor", sum := "7edee191ab1cfda20082822088a66d055e2cb4400e3fcf32bb3ad1e0eb8f5dd0", func := "refuter/refuterlaw21.OrderLowers", spec := "orderLowers", inPlace := ["internal/bytealg.IndexByteString", "internal/bytealg.IndexString", "internal/bytealg.abigen_runtime_cmpstring"], unfollowed := true, recurses := true, named := ["refuter/tree.used", "unicode/utf8.first", "unicode/utf8.acceptRanges", "internal/bytealg.MaxLen"], apart := false, laid := [("unicode/utf8.acceptRanges", laid_unicode_utf8_acceptRanges), ("refuter/tree.used", laid_refuter_tree_used), ("unicode/utf8.first", laid_unicode_utf8_first)] }
def OrderLowersSaid : Prop := orderLowersRow.holds Tryz.pinned (OpenSpec.ofChange orderLowersSpec)

/-- ITS FALSE NEIGHBOUR: 'it returns false'. Refute it at one input. -/
def orderLowersWrong : ChangeSpec := { name := "orderLowers", fn := fun _ => fun
  | [d1, d2, d3, d4, d5] => { results := [.lit (.bool false)], args := [d1, d2, d3, d4, d5] }
  | _ => none }
def OrderLowersWrongFalsely : Prop := orderLowersRow.holds Tryz.pinned (OpenSpec.ofChange orderLowersWrong)

/-- 'refuterlaw21.OrderSwaps': WHATEVER THE INPUT: true; the input reads as it did. -/
def orderSwapsSpec : ChangeSpec := { name := "orderSwaps", fn := fun _ => fun
  | [d1, d2, d3, d4, d5] => { results := [.lit (.bool true)], args := [d1, d2, d3, d4, d5] }
  | _ => none }
def orderSwapsRow : OpenClaim := { program := "ytilacabmbjephaagreatdoor", sum := "7edee191ab1cfda20082822088a66d055e2cb4400e3fcf32bb3ad1e0eb8f5dd0", func := "refuter/refuterlaw21.OrderSwaps", spec := "orderSwaps", inPlace := ["internal/bytealg.IndexByteString", "internal/bytealg.IndexString", "internal/bytealg.abigen_runtime_cmpstring"], unfollowed := true, recurses := true, named := ["refuter/tree.used", "unicode/utf8.first", "unicode/utf8.acceptRanges", "internal/bytealg.MaxLen"], apart := false, laid := [("unicode/utf8.acceptRanges", laid_unicode_utf8_acceptRanges), ("refuter/tree.used", laid_refuter_tree_used), ("unicode/utf8.first", laid_unicode_utf8_first)] }
def OrderSwapsSaid : Prop := orderSwapsRow.holds Tryz.pinned (OpenSpec.ofChange orderSwapsSpec)

/-- ITS FALSE NEIGHBOUR: 'it returns false'. Refute it at one input. -/
def orderSwapsWrong : ChangeSpec := { name := "orderSwaps", fn := fun _ => fun
  | [d1, d2, d3, d4, d5] => { results := [.lit (.bool false)], args := [d1, d2, d3, d4, d5] }
  | _ => none }
def OrderSwapsWrongFalsely : Prop := orderSwapsRow.holds Tryz.pinned (OpenSpec.ofChange orderSwapsWrong)

/-- 'refuterlaw21.OrderShares': WHATEVER THE INPUT: true; the input reads as it did. -/
def orderSharesSpec : ChangeSpec := { name := "orderShares", fn := fun _ => fun
  | [d1, d2, d3, d4, d5] => { results := [.lit (.bool true)], args := [d1, d2, d3, d4, d5] }
  | _ => none }
def orderSharesRow : OpenClaim := { program := "ytilacabmbjephaagreatdoor", sum := "7edee191ab1cfda20082822088a66d055e2cb4400e3fcf32bb3ad1e0eb8f5dd0", func := "refuter/refuterlaw21.OrderShares", spec := "orderShares", inPlace := ["internal/bytealg.IndexByteString", "internal/bytealg.IndexString", "internal/bytealg.abigen_runtime_cmpstring"], unfollowed := true, recurses := true, named := ["refuter/tree.used", "unicode/utf8.first", "unicode/utf8.acceptRanges", "internal/bytealg.MaxLen"], apart := false, laid := [("unicode/utf8.acceptRanges", laid_unicode_utf8_acceptRanges), ("refuter/tree.used", laid_refuter_tree_used), ("unicode/utf8.first", laid_unicode_utf8_first)] }
def OrderSharesSaid : Prop := orderSharesRow.holds Tryz.pinned (OpenSpec.ofChange orderSharesSpec)

/-- ITS FALSE NEIGHBOUR: 'it returns false'. Refute it at one input. -/
def orderSharesWrong : ChangeSpec := { name := "orderShares", fn := fun _ => fun
  | [d1, d2, d3, d4, d5] => { results := [.lit (.bool false)], args := [d1, d2, d3, d4, d5] }
  | _ => none }
def OrderSharesWrongFalsely : Prop := orderSharesRow.holds Tryz.pinned (OpenSpec.ofChange orderSharesWrong)

/-- 'refuterlaw21.OrderNeighbors': WHATEVER THE INPUT: true; the input reads as it did. -/
def orderNeighborsSpec : ChangeSpec := { name := "orderNeighbors", fn := fun _ => fun
  | [d1, d2, d3, d4, d5] => { results := [.lit (.bool true)], args := [d1, d2, d3, d4, d5] }
  | _ => none }
def orderNeighborsRow : OpenClaim := { program := "ytilacabmbjephaagreatdoor", sum := "7edee191ab1cfda20082822088a66d055e2cb4400e3fcf32bb3ad1e0eb8f5dd0", func := "refuter/refuterlaw21.OrderNeighbors", spec := "orderNeighbors", inPlace := ["internal/bytealg.IndexByteString", "internal/bytealg.IndexString", "internal/bytealg.abigen_runtime_cmpstring"], unfollowed := true, recurses := true, named := ["refuter/tree.used", "unicode/utf8.first", "unicode/utf8.acceptRanges", "internal/bytealg.MaxLen"], apart := false, laid := [("unicode/utf8.acceptRanges", laid_unicode_utf8_acceptRanges), ("refuter/tree.used", laid_refuter_tree_used), ("unicode/utf8.first", laid_unicode_utf8_first)] }
def OrderNeighborsSaid : Prop := orderNeighborsRow.holds Tryz.pinned (OpenSpec.ofChange orderNeighborsSpec)

/-- ITS FALSE NEIGHBOUR: 'it returns false'. Refute it at one input. -/
def orderNeighborsWrong : ChangeSpec := { name := "orderNeighbors", fn := fun _ => fun
  | [d1, d2, d3, d4, d5] => { results := [.lit (.bool false)], args := [d1, d2, d3, d4, d5] }
  | _ => none }
def OrderNeighborsWrongFalsely : Prop := orderNeighborsRow.holds Tryz.pinned (OpenSpec.ofChange orderNeighborsWrong)

/-- 'refuterlaw21.OrderSmaller': WHATEVER THE INPUT: true; the input reads as it did. -/
def orderSmallerSpec : ChangeSpec := { name := "orderSmaller", fn := fun _ => fun
  | [d1, d2] => { results := [.lit (.bool true)], args := [d1, d2] }
  | _ => none }
def orderSmallerRow : OpenClaim := { program := "ytilacabmbjephaagreatdoor", sum := "7edee191ab1cfda20082822088a66d055e2cb4400e3fcf32bb3ad1e0eb8f5dd0", func := "refuter/refuterlaw21.OrderSmaller", spec := "orderSmaller", inPlace := ["internal/bytealg.IndexByteString", "internal/bytealg.IndexString", "internal/bytealg.abigen_runtime_cmpstring"], unfollowed := true, recurses := true, named := ["refuter/tree.used", "unicode/utf8.first", "unicode/utf8.acceptRanges", "internal/bytealg.MaxLen"], apart := false, laid := [("unicode/utf8.acceptRanges", laid_unicode_utf8_acceptRanges), ("refuter/tree.used", laid_refuter_tree_used), ("unicode/utf8.first", laid_unicode_utf8_first)] }
def OrderSmallerSaid : Prop := orderSmallerRow.holds Tryz.pinned (OpenSpec.ofChange orderSmallerSpec)

/-- ITS FALSE NEIGHBOUR: 'it returns false'. Refute it at one input. -/
def orderSmallerWrong : ChangeSpec := { name := "orderSmaller", fn := fun _ => fun
  | [d1, d2] => { results := [.lit (.bool false)], args := [d1, d2] }
  | _ => none }
def OrderSmallerWrongFalsely : Prop := orderSmallerRow.holds Tryz.pinned (OpenSpec.ofChange orderSmallerWrong)

/-- 'refuterlaw21.OrderRanks': WHATEVER THE INPUT: true; the input reads as it did. -/
def orderRanksSpec : ChangeSpec := { name := "orderRanks", fn := fun _ => fun
  | [d1, d2, d3] => { results := [.lit (.bool true)], args := [d1, d2, d3] }
  | _ => none }
def orderRanksRow : OpenClaim := { program := "ytilacabmbjephaagreatdoor", sum := "7edee191ab1cfda20082822088a66d055e2cb4400e3fcf32bb3ad1e0eb8f5dd0", func := "refuter/refuterlaw21.OrderRanks", spec := "orderRanks", inPlace := ["internal/bytealg.IndexByteString", "internal/bytealg.IndexString", "internal/bytealg.abigen_runtime_cmpstring"], unfollowed := true, recurses := true, named := ["refuter/tree.used", "unicode/utf8.first", "unicode/utf8.acceptRanges", "internal/bytealg.MaxLen"], apart := false, laid := [("unicode/utf8.acceptRanges", laid_unicode_utf8_acceptRanges), ("refuter/tree.used", laid_refuter_tree_used), ("unicode/utf8.first", laid_unicode_utf8_first)] }
def OrderRanksSaid : Prop := orderRanksRow.holds Tryz.pinned (OpenSpec.ofChange orderRanksSpec)

/-- ITS FALSE NEIGHBOUR: 'it returns false'. Refute it at one input. -/
def orderRanksWrong : ChangeSpec := { name := "orderRanks", fn := fun _ => fun
  | [d1, d2, d3] => { results := [.lit (.bool false)], args := [d1, d2, d3] }
  | _ => none }
def OrderRanksWrongFalsely : Prop := orderRanksRow.holds Tryz.pinned (OpenSpec.ofChange orderRanksWrong)

/- THE SECOND FORM. 'bulk': how many values and letters a reading holds, each counted each time it is reached (what is shared counts as often as it is met; a slice's spare places count too). A statement '..UptoSaid' is the law's where the arguments, and the package variables that the reading takes, are together of bulk at most 1048576: NARROWER than '..Said'. Prove '..Said' where nothing that the law and all that it calls make is longer than what came in: it says more and counts as full. Else prove '..UptoSaid'. A law counts once. -/
mutual
def uptoBulk {H : Type} : DataW H → Nat
  | .lit (.string bytes) => bytes.length + 1
  | .lit _ => 1
  | .nil => 1
  | .ptr d => uptoBulk d + 1
  | .slice elems spare => uptoBulkAll elems + uptoBulkAll spare + 1
  | .agg parts => uptoBulkAll parts + 1
  | .iface _ d => uptoBulk d + 1
  | .map entries => uptoBulkEntries entries + 1
  | .held _ => 1
def uptoBulkAll {H : Type} : List (DataW H) → Nat
  | [] => 0
  | d :: r => uptoBulk d + uptoBulkAll r
def uptoBulkEntries {H : Type} : List (Lit × DataW H) → Nat
  | [] => 0
  | x :: r => uptoBulkEntry x + uptoBulkEntries r
def uptoBulkEntry {H : Type} : Lit × DataW H → Nat
  | (.string bytes, d) => bytes.length + uptoBulk d + 1
  | (_, d) => uptoBulk d + 1
 end
def uptoSmall : (H : Type) → List (DataW H) → Bool := fun _ ds => decide (uptoBulkAll ds ≤ 1048576)
def OpenSpec.upto (s : _root_.Go.ChangeSpec) : _root_.Go.OpenSpec := { _root_.Go.OpenSpec.ofChange s with cond := some uptoSmall }

/-- 'refuterlaw21.OrderSorts', WHERE WHAT IT READS IS OF BULK AT MOST 1048576: true; the input reads as it did. -/
def orderSortsUptoRow : OpenClaim := { program := "ytilacabmbjephaagreatdoor", sum := "7edee191ab1cfda20082822088a66d055e2cb4400e3fcf32bb3ad1e0eb8f5dd0", func := "refuter/refuterlaw21.OrderSorts", spec := "orderSorts", inPlace := ["internal/bytealg.IndexByteString", "internal/bytealg.IndexString", "internal/bytealg.abigen_runtime_cmpstring"], unfollowed := true, recurses := true, named := ["refuter/tree.used", "unicode/utf8.first", "unicode/utf8.acceptRanges", "internal/bytealg.MaxLen"], apart := false, laid := [("unicode/utf8.acceptRanges", laid_unicode_utf8_acceptRanges), ("refuter/tree.used", laid_refuter_tree_used), ("unicode/utf8.first", laid_unicode_utf8_first)], narrowed := true }
def OrderSortsUptoSaid : Prop := orderSortsUptoRow.holds Tryz.pinned (OpenSpec.upto orderSortsSpec)

/-- 'refuterlaw21.OrderDeletes', WHERE WHAT IT READS IS OF BULK AT MOST 1048576: true; the input reads as it did. -/
def orderDeletesUptoRow : OpenClaim := { program := "ytilacabmbjephaagreatdoor", sum := "7edee191ab1cfda20082822088a66d055e2cb4400e3fcf32bb3ad1e0eb8f5dd0", func := "refuter/refuterlaw21.OrderDeletes", spec := "orderDeletes", inPlace := ["internal/bytealg.IndexByteString", "internal/bytealg.IndexString", "internal/bytealg.abigen_runtime_cmpstring"], unfollowed := true, recurses := true, named := ["refuter/tree.used", "unicode/utf8.first", "unicode/utf8.acceptRanges", "internal/bytealg.MaxLen"], apart := false, laid := [("unicode/utf8.acceptRanges", laid_unicode_utf8_acceptRanges), ("refuter/tree.used", laid_refuter_tree_used), ("unicode/utf8.first", laid_unicode_utf8_first)], narrowed := true }
def OrderDeletesUptoSaid : Prop := orderDeletesUptoRow.holds Tryz.pinned (OpenSpec.upto orderDeletesSpec)

/-- 'refuterlaw21.OrderLowers', WHERE WHAT IT READS IS OF BULK AT MOST 1048576: true; the input reads as it did. -/
def orderLowersUptoRow : OpenClaim := { program := "ytilacabmbjephaagreatdoor", sum := "7edee191ab1cfda20082822088a66d055e2cb4400e3fcf32bb3ad1e0eb8f5dd0", func := "refuter/refuterlaw21.OrderLowers", spec := "orderLowers", inPlace := ["internal/bytealg.IndexByteString", "internal/bytealg.IndexString", "internal/bytealg.abigen_runtime_cmpstring"], unfollowed := true, recurses := true, named := ["refuter/tree.used", "unicode/utf8.first", "unicode/utf8.acceptRanges", "internal/bytealg.MaxLen"], apart := false, laid := [("unicode/utf8.acceptRanges", laid_unicode_utf8_acceptRanges), ("refuter/tree.used", laid_refuter_tree_used), ("unicode/utf8.first", laid_unicode_utf8_first)], narrowed := true }
def OrderLowersUptoSaid : Prop := orderLowersUptoRow.holds Tryz.pinned (OpenSpec.upto orderLowersSpec)

/-- 'refuterlaw21.OrderSwaps', WHERE WHAT IT READS IS OF BULK AT MOST 1048576: true; the input reads as it did. -/
def orderSwapsUptoRow : OpenClaim := { program := "ytilacabmbjephaagreatdoor", sum := "7edee191ab1cfda20082822088a66d055e2cb4400e3fcf32bb3ad1e0eb8f5dd0", func := "refuter/refuterlaw21.OrderSwaps", spec := "orderSwaps", inPlace := ["internal/bytealg.IndexByteString", "internal/bytealg.IndexString", "internal/bytealg.abigen_runtime_cmpstring"], unfollowed := true, recurses := true, named := ["refuter/tree.used", "unicode/utf8.first", "unicode/utf8.acceptRanges", "internal/bytealg.MaxLen"], apart := false, laid := [("unicode/utf8.acceptRanges", laid_unicode_utf8_acceptRanges), ("refuter/tree.used", laid_refuter_tree_used), ("unicode/utf8.first", laid_unicode_utf8_first)], narrowed := true }
def OrderSwapsUptoSaid : Prop := orderSwapsUptoRow.holds Tryz.pinned (OpenSpec.upto orderSwapsSpec)

/-- 'refuterlaw21.OrderShares', WHERE WHAT IT READS IS OF BULK AT MOST 1048576: true; the input reads as it did. -/
def orderSharesUptoRow : OpenClaim := { program := "ytilacabmbjephaagreatdoor", sum := "7edee191ab1cfda20082822088a66d055e2cb4400e3fcf32bb3ad1e0eb8f5dd0", func := "refuter/refuterlaw21.OrderShares", spec := "orderShares", inPlace := ["internal/bytealg.IndexByteString", "internal/bytealg.IndexString", "internal/bytealg.abigen_runtime_cmpstring"], unfollowed := true, recurses := true, named := ["refuter/tree.used", "unicode/utf8.first", "unicode/utf8.acceptRanges", "internal/bytealg.MaxLen"], apart := false, laid := [("unicode/utf8.acceptRanges", laid_unicode_utf8_acceptRanges), ("refuter/tree.used", laid_refuter_tree_used), ("unicode/utf8.first", laid_unicode_utf8_first)], narrowed := true }
def OrderSharesUptoSaid : Prop := orderSharesUptoRow.holds Tryz.pinned (OpenSpec.upto orderSharesSpec)

/-- 'refuterlaw21.OrderNeighbors', WHERE WHAT IT READS IS OF BULK AT MOST 1048576: true; the input reads as it did. -/
def orderNeighborsUptoRow : OpenClaim := { program := "ytilacabmbjephaagreatdoor", sum := "7edee191ab1cfda20082822088a66d055e2cb4400e3fcf32bb3ad1e0eb8f5dd0", func := "refuter/refuterlaw21.OrderNeighbors", spec := "orderNeighbors", inPlace := ["internal/bytealg.IndexByteString", "internal/bytealg.IndexString", "internal/bytealg.abigen_runtime_cmpstring"], unfollowed := true, recurses := true, named := ["refuter/tree.used", "unicode/utf8.first", "unicode/utf8.acceptRanges", "internal/bytealg.MaxLen"], apart := false, laid := [("unicode/utf8.acceptRanges", laid_unicode_utf8_acceptRanges), ("refuter/tree.used", laid_refuter_tree_used), ("unicode/utf8.first", laid_unicode_utf8_first)], narrowed := true }
def OrderNeighborsUptoSaid : Prop := orderNeighborsUptoRow.holds Tryz.pinned (OpenSpec.upto orderNeighborsSpec)

/-- 'refuterlaw21.OrderSmaller', WHERE WHAT IT READS IS OF BULK AT MOST 1048576: true; the input reads as it did. -/
def orderSmallerUptoRow : OpenClaim := { program := "ytilacabmbjephaagreatdoor", sum := "7edee191ab1cfda20082822088a66d055e2cb4400e3fcf32bb3ad1e0eb8f5dd0", func := "refuter/refuterlaw21.OrderSmaller", spec := "orderSmaller", inPlace := ["internal/bytealg.IndexByteString", "internal/bytealg.IndexString", "internal/bytealg.abigen_runtime_cmpstring"], unfollowed := true, recurses := true, named := ["refuter/tree.used", "unicode/utf8.first", "unicode/utf8.acceptRanges", "internal/bytealg.MaxLen"], apart := false, laid := [("unicode/utf8.acceptRanges", laid_unicode_utf8_acceptRanges), ("refuter/tree.used", laid_refuter_tree_used), ("unicode/utf8.first", laid_unicode_utf8_first)], narrowed := true }
def OrderSmallerUptoSaid : Prop := orderSmallerUptoRow.holds Tryz.pinned (OpenSpec.upto orderSmallerSpec)

/-- 'refuterlaw21.OrderRanks', WHERE WHAT IT READS IS OF BULK AT MOST 1048576: true; the input reads as it did. -/
def orderRanksUptoRow : OpenClaim := { program := "ytilacabmbjephaagreatdoor", sum := "7edee191ab1cfda20082822088a66d055e2cb4400e3fcf32bb3ad1e0eb8f5dd0", func := "refuter/refuterlaw21.OrderRanks", spec := "orderRanks", inPlace := ["internal/bytealg.IndexByteString", "internal/bytealg.IndexString", "internal/bytealg.abigen_runtime_cmpstring"], unfollowed := true, recurses := true, named := ["refuter/tree.used", "unicode/utf8.first", "unicode/utf8.acceptRanges", "internal/bytealg.MaxLen"], apart := false, laid := [("unicode/utf8.acceptRanges", laid_unicode_utf8_acceptRanges), ("refuter/tree.used", laid_refuter_tree_used), ("unicode/utf8.first", laid_unicode_utf8_first)], narrowed := true }
def OrderRanksUptoSaid : Prop := orderRanksUptoRow.holds Tryz.pinned (OpenSpec.upto orderRanksSpec)

end Rows
end Go.Proofs.YtilacabmbjephaaGreatDoor
