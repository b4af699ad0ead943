/-
  DERIVED. GIVEN WITH THE SEED: THE CARDS: each row of YtdnbmkfmckppaaaDoorRows.lean that lists a variable, with what it lists TIED to the program's text (the seventh form; the later family's looks); each row that meets fmt, with fmt's text TOLD by the authors' own Lean function (tested against real Go, not proved from fmt's source: count such statements apart). THE CARD IS WHAT COUNTS. Prove the row's statement (the work); the ties are given (YtdnbmkfmckppaaaDoorTie.lean); close each card by the builder's one call (the guide's Derived/Test/ToyasCard.lean, 'card_holds'). Laid BY PROGRAM, IN A SANDBOX (cutbox-door.mjs). By AI agents, Wed Nov 11 2026. No macro, syntax, notation, axiom, sorry.
-/
import Derived.Test.YtdnbmkfmckppaaaDoorRows
import GoSem.ClaimSeven
namespace Go.Proofs.YtdnbmkfmckppaaaDoor
namespace Rows

/-- THE TIED CARD OF 'kinkeeplaw18.PathnameGlobs'. -/
def pathnameGlobsCard : Claim7 := { stood := { row := pathnameGlobsRow, standIns := [], harness := (true, "4291f802880db8c4184de0f62ba423f5a7f206d37e42a0fc788b72b44ff6cfb9"), looks := false }, kinds := [], alts := [], laidByText := true, laidKinds := [.data, .pinned], laidTests := true, laidLooks := .later }
def PathnameGlobsCardSaid : Prop := Claim7.holds Tryd.pinned (.plain (OpenSpec.ofChange pathnameGlobsSpec)) pathnameGlobsCard

/-- THE TIED CARD OF 'kinkeeplaw18.PathnameBelow'. -/
def pathnameBelowCard : Claim7 := { stood := { row := pathnameBelowRow, standIns := [], harness := (true, "4291f802880db8c4184de0f62ba423f5a7f206d37e42a0fc788b72b44ff6cfb9"), looks := false }, kinds := [], alts := [], laidByText := true, laidKinds := [.data, .pinned], laidTests := true, laidLooks := .later }
def PathnameBelowCardSaid : Prop := Claim7.holds Tryd.pinned (.plain (OpenSpec.ofChange pathnameBelowSpec)) pathnameBelowCard

/-- THE TIED CARD OF 'kinkeeplaw18.PathnameValid'. -/
def pathnameValidCard : Claim7 := { stood := { row := pathnameValidRow, standIns := [], harness := (true, "4291f802880db8c4184de0f62ba423f5a7f206d37e42a0fc788b72b44ff6cfb9"), looks := false }, kinds := [], alts := [], laidByText := true, laidKinds := [.data, .pinned], laidTests := true, laidLooks := .later }
def PathnameValidCardSaid : Prop := Claim7.holds Tryd.pinned (.plain (OpenSpec.ofChange pathnameValidSpec)) pathnameValidCard

/-- THE TIED CARD OF 'kinkeeplaw18.PathnameCompares'. -/
def pathnameComparesCard : Claim7 := { stood := { row := pathnameComparesRow, standIns := [], harness := (true, "4291f802880db8c4184de0f62ba423f5a7f206d37e42a0fc788b72b44ff6cfb9"), looks := false }, kinds := [], alts := [], laidByText := true, laidKinds := [.data, .pinned], laidTests := true, laidLooks := .later }
def PathnameComparesCardSaid : Prop := Claim7.holds Tryd.pinned (.plain (OpenSpec.ofChange pathnameComparesSpec)) pathnameComparesCard

/-- THE TIED CARD OF 'kinkeeplaw18.PathnameOrder'. -/
def pathnameOrderCard : Claim7 := { stood := { row := pathnameOrderRow, standIns := [], harness := (true, "4291f802880db8c4184de0f62ba423f5a7f206d37e42a0fc788b72b44ff6cfb9"), looks := false }, kinds := [], alts := [], laidByText := true, laidKinds := [.data, .pinned], laidTests := true, laidLooks := .later }
def PathnameOrderCardSaid : Prop := Claim7.holds Tryd.pinned (.plain (OpenSpec.ofChange pathnameOrderSpec)) pathnameOrderCard

/-- THE TIED CARD OF 'kinkeeplaw18.PathnameRejoins'. -/
def pathnameRejoinsCard : Claim7 := { stood := { row := pathnameRejoinsRow, standIns := [], harness := (true, "4291f802880db8c4184de0f62ba423f5a7f206d37e42a0fc788b72b44ff6cfb9"), looks := false }, kinds := [], alts := [], laidByText := true, laidKinds := [.data, .pinned], laidTests := true, laidLooks := .later }
def PathnameRejoinsCardSaid : Prop := Claim7.holds Tryd.pinned (.plain (OpenSpec.ofChange pathnameRejoinsSpec)) pathnameRejoinsCard

/-- THE TIED CARD OF 'kinkeeplaw18.PathnameRound'. -/
def pathnameRoundCard : Claim7 := { stood := { row := pathnameRoundRow, standIns := [], harness := (true, "4291f802880db8c4184de0f62ba423f5a7f206d37e42a0fc788b72b44ff6cfb9"), looks := false }, kinds := [], alts := [], laidByText := true, laidKinds := [.data, .pinned], laidTests := true, laidLooks := .later }
def PathnameRoundCardSaid : Prop := Claim7.holds Tryd.pinned (.plain (OpenSpec.ofChange pathnameRoundSpec)) pathnameRoundCard

/-- THE SECOND FORM's CARD OF 'kinkeeplaw18.PathnameGlobs'. -/
def pathnameGlobsUptoCard : Claim7 := { stood := { row := pathnameGlobsUptoRow, standIns := [], harness := (true, "4291f802880db8c4184de0f62ba423f5a7f206d37e42a0fc788b72b44ff6cfb9"), looks := false }, kinds := [], alts := [], laidByText := true, laidKinds := [.data, .pinned], laidTests := true, laidLooks := .later }
def PathnameGlobsUptoCardSaid : Prop := Claim7.holds Tryd.pinned (.plain (OpenSpec.upto pathnameGlobsSpec)) pathnameGlobsUptoCard

/-- THE SECOND FORM's CARD OF 'kinkeeplaw18.PathnameBelow'. -/
def pathnameBelowUptoCard : Claim7 := { stood := { row := pathnameBelowUptoRow, standIns := [], harness := (true, "4291f802880db8c4184de0f62ba423f5a7f206d37e42a0fc788b72b44ff6cfb9"), looks := false }, kinds := [], alts := [], laidByText := true, laidKinds := [.data, .pinned], laidTests := true, laidLooks := .later }
def PathnameBelowUptoCardSaid : Prop := Claim7.holds Tryd.pinned (.plain (OpenSpec.upto pathnameBelowSpec)) pathnameBelowUptoCard

/-- THE SECOND FORM's CARD OF 'kinkeeplaw18.PathnameValid'. -/
def pathnameValidUptoCard : Claim7 := { stood := { row := pathnameValidUptoRow, standIns := [], harness := (true, "4291f802880db8c4184de0f62ba423f5a7f206d37e42a0fc788b72b44ff6cfb9"), looks := false }, kinds := [], alts := [], laidByText := true, laidKinds := [.data, .pinned], laidTests := true, laidLooks := .later }
def PathnameValidUptoCardSaid : Prop := Claim7.holds Tryd.pinned (.plain (OpenSpec.upto pathnameValidSpec)) pathnameValidUptoCard

/-- THE SECOND FORM's CARD OF 'kinkeeplaw18.PathnameCompares'. -/
def pathnameComparesUptoCard : Claim7 := { stood := { row := pathnameComparesUptoRow, standIns := [], harness := (true, "4291f802880db8c4184de0f62ba423f5a7f206d37e42a0fc788b72b44ff6cfb9"), looks := false }, kinds := [], alts := [], laidByText := true, laidKinds := [.data, .pinned], laidTests := true, laidLooks := .later }
def PathnameComparesUptoCardSaid : Prop := Claim7.holds Tryd.pinned (.plain (OpenSpec.upto pathnameComparesSpec)) pathnameComparesUptoCard

/-- THE SECOND FORM's CARD OF 'kinkeeplaw18.PathnameOrder'. -/
def pathnameOrderUptoCard : Claim7 := { stood := { row := pathnameOrderUptoRow, standIns := [], harness := (true, "4291f802880db8c4184de0f62ba423f5a7f206d37e42a0fc788b72b44ff6cfb9"), looks := false }, kinds := [], alts := [], laidByText := true, laidKinds := [.data, .pinned], laidTests := true, laidLooks := .later }
def PathnameOrderUptoCardSaid : Prop := Claim7.holds Tryd.pinned (.plain (OpenSpec.upto pathnameOrderSpec)) pathnameOrderUptoCard

/-- THE SECOND FORM's CARD OF 'kinkeeplaw18.PathnameRejoins'. -/
def pathnameRejoinsUptoCard : Claim7 := { stood := { row := pathnameRejoinsUptoRow, standIns := [], harness := (true, "4291f802880db8c4184de0f62ba423f5a7f206d37e42a0fc788b72b44ff6cfb9"), looks := false }, kinds := [], alts := [], laidByText := true, laidKinds := [.data, .pinned], laidTests := true, laidLooks := .later }
def PathnameRejoinsUptoCardSaid : Prop := Claim7.holds Tryd.pinned (.plain (OpenSpec.upto pathnameRejoinsSpec)) pathnameRejoinsUptoCard

/-- THE SECOND FORM's CARD OF 'kinkeeplaw18.PathnameRound'. -/
def pathnameRoundUptoCard : Claim7 := { stood := { row := pathnameRoundUptoRow, standIns := [], harness := (true, "4291f802880db8c4184de0f62ba423f5a7f206d37e42a0fc788b72b44ff6cfb9"), looks := false }, kinds := [], alts := [], laidByText := true, laidKinds := [.data, .pinned], laidTests := true, laidLooks := .later }
def PathnameRoundUptoCardSaid : Prop := Claim7.holds Tryd.pinned (.plain (OpenSpec.upto pathnameRoundSpec)) pathnameRoundUptoCard
end Rows
end Go.Proofs.YtdnbmkfmckppaaaDoor
