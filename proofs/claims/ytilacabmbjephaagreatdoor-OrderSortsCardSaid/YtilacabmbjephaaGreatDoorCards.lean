/-
  DERIVED. GIVEN WITH THE SEED: THE CARDS: each row of YtilacabmbjephaaGreatDoorRows.lean that lists a variable, with what it lists TIED to the program's text (the seventh form; the later family's looks); each row that meets fmt, with fmt's text TOLD by the authors' own Lean function (tested against real Go, not proved from fmt's source: count such statements apart). THE CARD IS WHAT COUNTS. Prove the row's statement (the work); the ties are given (YtilacabmbjephaaGreatDoorTie.lean); close each card by the builder's one call (the guide's Derived/Test/ToyasCard.lean, 'card_holds'). Laid BY PROGRAM, IN A SANDBOX (cutbox-door.mjs). By AI agents, Wed Nov 11 2026. No macro, syntax, notation, axiom, sorry.
-/
import Derived.Test.YtilacabmbjephaaGreatDoorRows
import GoSem.ClaimSeven
namespace Go.Proofs.YtilacabmbjephaaGreatDoor
namespace Rows

/-- THE TIED CARD OF 'refuterlaw21.OrderSorts'. -/
def orderSortsCard : Claim7 := { stood := { row := orderSortsRow, standIns := [], harness := (true, "35fc4499e9d3b9deef15d9704e3da59fa6196834e5a6942c4deb1f090c32384c"), looks := true }, kinds := [], alts := [], laidByText := true, laidKinds := [.data, .data, .pinned], laidTests := true, laidLooks := .later }
def OrderSortsCardSaid : Prop := Claim7.holds Tryz.pinned (.plain (OpenSpec.ofChange orderSortsSpec)) orderSortsCard

/-- THE TIED CARD OF 'refuterlaw21.OrderDeletes'. -/
def orderDeletesCard : Claim7 := { stood := { row := orderDeletesRow, standIns := [], harness := (true, "35fc4499e9d3b9deef15d9704e3da59fa6196834e5a6942c4deb1f090c32384c"), looks := true }, kinds := [], alts := [], laidByText := true, laidKinds := [.data, .data, .pinned], laidTests := true, laidLooks := .later }
def OrderDeletesCardSaid : Prop := Claim7.holds Tryz.pinned (.plain (OpenSpec.ofChange orderDeletesSpec)) orderDeletesCard

/-- THE TIED CARD OF 'refuterlaw21.OrderLowers'. -/
def orderLowersCard : Claim7 := { stood := { row := orderLowersRow, standIns := [], harness := (true, "35fc4499e9d3b9deef15d9704e3da59fa6196834e5a6942c4deb1f090c32384c"), looks := true }, kinds := [], alts := [], laidByText := true, laidKinds := [.data, .data, .pinned], laidTests := true, laidLooks := .later }
def OrderLowersCardSaid : Prop := Claim7.holds Tryz.pinned (.plain (OpenSpec.ofChange orderLowersSpec)) orderLowersCard

/-- THE TIED CARD OF 'refuterlaw21.OrderSwaps'. -/
def orderSwapsCard : Claim7 := { stood := { row := orderSwapsRow, standIns := [], harness := (true, "35fc4499e9d3b9deef15d9704e3da59fa6196834e5a6942c4deb1f090c32384c"), looks := true }, kinds := [], alts := [], laidByText := true, laidKinds := [.data, .data, .pinned], laidTests := true, laidLooks := .later }
def OrderSwapsCardSaid : Prop := Claim7.holds Tryz.pinned (.plain (OpenSpec.ofChange orderSwapsSpec)) orderSwapsCard

/-- THE TIED CARD OF 'refuterlaw21.OrderShares'. -/
def orderSharesCard : Claim7 := { stood := { row := orderSharesRow, standIns := [], harness := (true, "35fc4499e9d3b9deef15d9704e3da59fa6196834e5a6942c4deb1f090c32384c"), looks := true }, kinds := [], alts := [], laidByText := true, laidKinds := [.data, .data, .pinned], laidTests := true, laidLooks := .later }
def OrderSharesCardSaid : Prop := Claim7.holds Tryz.pinned (.plain (OpenSpec.ofChange orderSharesSpec)) orderSharesCard

/-- THE TIED CARD OF 'refuterlaw21.OrderNeighbors'. -/
def orderNeighborsCard : Claim7 := { stood := { row := orderNeighborsRow, standIns := [], harness := (true, "35fc4499e9d3b9deef15d9704e3da59fa6196834e5a6942c4deb1f090c32384c"), looks := true }, kinds := [], alts := [], laidByText := true, laidKinds := [.data, .data, .pinned], laidTests := true, laidLooks := .later }
def OrderNeighborsCardSaid : Prop := Claim7.holds Tryz.pinned (.plain (OpenSpec.ofChange orderNeighborsSpec)) orderNeighborsCard

/-- THE TIED CARD OF 'refuterlaw21.OrderSmaller'. -/
def orderSmallerCard : Claim7 := { stood := { row := orderSmallerRow, standIns := [], harness := (true, "35fc4499e9d3b9deef15d9704e3da59fa6196834e5a6942c4deb1f090c32384c"), looks := true }, kinds := [], alts := [], laidByText := true, laidKinds := [.data, .data, .pinned], laidTests := true, laidLooks := .later }
def OrderSmallerCardSaid : Prop := Claim7.holds Tryz.pinned (.plain (OpenSpec.ofChange orderSmallerSpec)) orderSmallerCard

/-- THE TIED CARD OF 'refuterlaw21.OrderRanks'. -/
def orderRanksCard : Claim7 := { stood := { row := orderRanksRow, standIns := [], harness := (true, "35fc4499e9d3b9deef15d9704e3da59fa6196834e5a6942c4deb1f090c32384c"), looks := true }, kinds := [], alts := [], laidByText := true, laidKinds := [.data, .data, .pinned], laidTests := true, laidLooks := .later }
def OrderRanksCardSaid : Prop := Claim7.holds Tryz.pinned (.plain (OpenSpec.ofChange orderRanksSpec)) orderRanksCard

/-- THE SECOND FORM's CARD OF 'refuterlaw21.OrderSorts'. -/
def orderSortsUptoCard : Claim7 := { stood := { row := orderSortsUptoRow, standIns := [], harness := (true, "35fc4499e9d3b9deef15d9704e3da59fa6196834e5a6942c4deb1f090c32384c"), looks := true }, kinds := [], alts := [], laidByText := true, laidKinds := [.data, .data, .pinned], laidTests := true, laidLooks := .later }
def OrderSortsUptoCardSaid : Prop := Claim7.holds Tryz.pinned (.plain (OpenSpec.upto orderSortsSpec)) orderSortsUptoCard

/-- THE SECOND FORM's CARD OF 'refuterlaw21.OrderDeletes'. -/
def orderDeletesUptoCard : Claim7 := { stood := { row := orderDeletesUptoRow, standIns := [], harness := (true, "35fc4499e9d3b9deef15d9704e3da59fa6196834e5a6942c4deb1f090c32384c"), looks := true }, kinds := [], alts := [], laidByText := true, laidKinds := [.data, .data, .pinned], laidTests := true, laidLooks := .later }
def OrderDeletesUptoCardSaid : Prop := Claim7.holds Tryz.pinned (.plain (OpenSpec.upto orderDeletesSpec)) orderDeletesUptoCard

/-- THE SECOND FORM's CARD OF 'refuterlaw21.OrderLowers'. -/
def orderLowersUptoCard : Claim7 := { stood := { row := orderLowersUptoRow, standIns := [], harness := (true, "35fc4499e9d3b9deef15d9704e3da59fa6196834e5a6942c4deb1f090c32384c"), looks := true }, kinds := [], alts := [], laidByText := true, laidKinds := [.data, .data, .pinned], laidTests := true, laidLooks := .later }
def OrderLowersUptoCardSaid : Prop := Claim7.holds Tryz.pinned (.plain (OpenSpec.upto orderLowersSpec)) orderLowersUptoCard

/-- THE SECOND FORM's CARD OF 'refuterlaw21.OrderSwaps'. -/
def orderSwapsUptoCard : Claim7 := { stood := { row := orderSwapsUptoRow, standIns := [], harness := (true, "35fc4499e9d3b9deef15d9704e3da59fa6196834e5a6942c4deb1f090c32384c"), looks := true }, kinds := [], alts := [], laidByText := true, laidKinds := [.data, .data, .pinned], laidTests := true, laidLooks := .later }
def OrderSwapsUptoCardSaid : Prop := Claim7.holds Tryz.pinned (.plain (OpenSpec.upto orderSwapsSpec)) orderSwapsUptoCard

/-- THE SECOND FORM's CARD OF 'refuterlaw21.OrderShares'. -/
def orderSharesUptoCard : Claim7 := { stood := { row := orderSharesUptoRow, standIns := [], harness := (true, "35fc4499e9d3b9deef15d9704e3da59fa6196834e5a6942c4deb1f090c32384c"), looks := true }, kinds := [], alts := [], laidByText := true, laidKinds := [.data, .data, .pinned], laidTests := true, laidLooks := .later }
def OrderSharesUptoCardSaid : Prop := Claim7.holds Tryz.pinned (.plain (OpenSpec.upto orderSharesSpec)) orderSharesUptoCard

/-- THE SECOND FORM's CARD OF 'refuterlaw21.OrderNeighbors'. -/
def orderNeighborsUptoCard : Claim7 := { stood := { row := orderNeighborsUptoRow, standIns := [], harness := (true, "35fc4499e9d3b9deef15d9704e3da59fa6196834e5a6942c4deb1f090c32384c"), looks := true }, kinds := [], alts := [], laidByText := true, laidKinds := [.data, .data, .pinned], laidTests := true, laidLooks := .later }
def OrderNeighborsUptoCardSaid : Prop := Claim7.holds Tryz.pinned (.plain (OpenSpec.upto orderNeighborsSpec)) orderNeighborsUptoCard

/-- THE SECOND FORM's CARD OF 'refuterlaw21.OrderSmaller'. -/
def orderSmallerUptoCard : Claim7 := { stood := { row := orderSmallerUptoRow, standIns := [], harness := (true, "35fc4499e9d3b9deef15d9704e3da59fa6196834e5a6942c4deb1f090c32384c"), looks := true }, kinds := [], alts := [], laidByText := true, laidKinds := [.data, .data, .pinned], laidTests := true, laidLooks := .later }
def OrderSmallerUptoCardSaid : Prop := Claim7.holds Tryz.pinned (.plain (OpenSpec.upto orderSmallerSpec)) orderSmallerUptoCard

/-- THE SECOND FORM's CARD OF 'refuterlaw21.OrderRanks'. -/
def orderRanksUptoCard : Claim7 := { stood := { row := orderRanksUptoRow, standIns := [], harness := (true, "35fc4499e9d3b9deef15d9704e3da59fa6196834e5a6942c4deb1f090c32384c"), looks := true }, kinds := [], alts := [], laidByText := true, laidKinds := [.data, .data, .pinned], laidTests := true, laidLooks := .later }
def OrderRanksUptoCardSaid : Prop := Claim7.holds Tryz.pinned (.plain (OpenSpec.upto orderRanksSpec)) orderRanksUptoCard
end Rows
end Go.Proofs.YtilacabmbjephaaGreatDoor
