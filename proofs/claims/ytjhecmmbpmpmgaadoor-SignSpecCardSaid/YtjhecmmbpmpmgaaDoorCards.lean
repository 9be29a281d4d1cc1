/-
  DERIVED. GIVEN WITH THE SEED: THE CARDS: each row of YtjhecmmbpmpmgaaDoorRows.lean that lists a variable, with what it lists TIED to the program's text (the seventh form; the later family's looks); each row that meets fmt, with fmt's text TOLD by the authors' own Lean function (tested against real Go, not proved from fmt's source: count such statements apart). THE CARD IS WHAT COUNTS. Prove the row's statement (the work); the ties are given (YtjhecmmbpmpmgaaDoorTie.lean); close each card by the builder's one call (the guide's Derived/Test/ToyasCard.lean, 'card_holds'). Laid BY PROGRAM, IN A SANDBOX (cutbox-door.mjs). By AI agents, Wed Nov 11 2026. No macro, syntax, notation, axiom, sorry.
-/
import Derived.Test.YtjhecmmbpmpmgaaDoorRows
import GoSem.ClaimSeven
namespace Go.Proofs.YtjhecmmbpmpmgaaDoor
namespace Rows

/-- THE TIED CARD OF 'signatorylaw11.SignSpec'. -/
def signSpecCard : Claim7 := { stood := { row := signSpecRow, standIns := [], harness := (true, "3c43606fd05d909d126fd3a059f7e3f9ad1f68207444ca87b4e0fc6c41a6516c"), looks := true }, kinds := [], alts := [], laidByText := true, laidKinds := [.data, .data], laidTests := true, laidLooks := .later }
def SignSpecCardSaid : Prop := Claim7.holds Tryd.pinned (.plain (OpenSpec.ofChange signSpecSpec)) signSpecCard

/-- THE TIED CARD OF 'signatorylaw11.SignRight'. -/
def signRightCard : Claim7 := { stood := { row := signRightRow, standIns := [], harness := (true, "3c43606fd05d909d126fd3a059f7e3f9ad1f68207444ca87b4e0fc6c41a6516c"), looks := true }, kinds := [], alts := [], laidByText := true, laidKinds := [.data, .data], laidTests := true, laidLooks := .later }
def SignRightCardSaid : Prop := Claim7.holds Tryd.pinned (.plain (OpenSpec.ofChange signRightSpec)) signRightCard

/-- THE TIED CARD OF 'signatorylaw11.SignMeans'. -/
def signMeansCard : Claim7 := { stood := { row := signMeansRow, standIns := [], harness := (true, "3c43606fd05d909d126fd3a059f7e3f9ad1f68207444ca87b4e0fc6c41a6516c"), looks := true }, kinds := [], alts := [], laidByText := true, laidKinds := [.data, .data], laidTests := true, laidLooks := .later }
def SignMeansCardSaid : Prop := Claim7.holds Tryd.pinned (.plain (OpenSpec.ofChange signMeansSpec)) signMeansCard

/-- THE TIED CARD OF 'signatorylaw11.SignTwice'. -/
def signTwiceCard : Claim7 := { stood := { row := signTwiceRow, standIns := [], harness := (true, "3c43606fd05d909d126fd3a059f7e3f9ad1f68207444ca87b4e0fc6c41a6516c"), looks := true }, kinds := [], alts := [], laidByText := true, laidKinds := [.data, .data], laidTests := true, laidLooks := .later }
def SignTwiceCardSaid : Prop := Claim7.holds Tryd.pinned (.plain (OpenSpec.ofChange signTwiceSpec)) signTwiceCard

/-- THE TIED CARD OF 'signatorylaw49.DeedsSpec'. -/
def deedsSpecCard : Claim7 := { stood := { row := deedsSpecRow, standIns := [], harness := (true, "3c43606fd05d909d126fd3a059f7e3f9ad1f68207444ca87b4e0fc6c41a6516c"), looks := true }, kinds := [], alts := [], laidByText := true, laidKinds := [.data, .data], laidTests := true, laidLooks := .later }
def DeedsSpecCardSaid : Prop := Claim7.holds Tryd.pinned (.plain (OpenSpec.ofChange deedsSpecSpec)) deedsSpecCard

/-- THE TIED CARD OF 'signatorylaw49.DeedsBound'. -/
def deedsBoundCard : Claim7 := { stood := { row := deedsBoundRow, standIns := [], harness := (true, "3c43606fd05d909d126fd3a059f7e3f9ad1f68207444ca87b4e0fc6c41a6516c"), looks := true }, kinds := [], alts := [], laidByText := true, laidKinds := [.data, .data], laidTests := true, laidLooks := .later }
def DeedsBoundCardSaid : Prop := Claim7.holds Tryd.pinned (.plain (OpenSpec.ofChange deedsBoundSpec)) deedsBoundCard

/-- THE TIED CARD OF 'signatorylaw49.DeedsMade'. -/
def deedsMadeCard : Claim7 := { stood := { row := deedsMadeRow, standIns := [], harness := (true, "3c43606fd05d909d126fd3a059f7e3f9ad1f68207444ca87b4e0fc6c41a6516c"), looks := true }, kinds := [], alts := [], laidByText := true, laidKinds := [.data, .data], laidTests := true, laidLooks := .later }
def DeedsMadeCardSaid : Prop := Claim7.holds Tryd.pinned (.plain (OpenSpec.ofChange deedsMadeSpec)) deedsMadeCard

/-- THE TIED CARD OF 'signatorylaw49.DeedsLog'. -/
def deedsLogCard : Claim7 := { stood := { row := deedsLogRow, standIns := [], harness := (true, "3c43606fd05d909d126fd3a059f7e3f9ad1f68207444ca87b4e0fc6c41a6516c"), looks := true }, kinds := [], alts := [], laidByText := true, laidKinds := [.data, .data], laidTests := true, laidLooks := .later }
def DeedsLogCardSaid : Prop := Claim7.holds Tryd.pinned (.plain (OpenSpec.ofChange deedsLogSpec)) deedsLogCard

/-- THE TIED CARD OF 'signatorylaw49.DeedsBeginning'. -/
def deedsBeginningCard : Claim7 := { stood := { row := deedsBeginningRow, standIns := [], harness := (true, "3c43606fd05d909d126fd3a059f7e3f9ad1f68207444ca87b4e0fc6c41a6516c"), looks := true }, kinds := [], alts := [], laidByText := true, laidKinds := [.data, .data], laidTests := true, laidLooks := .later }
def DeedsBeginningCardSaid : Prop := Claim7.holds Tryd.pinned (.plain (OpenSpec.ofChange deedsBeginningSpec)) deedsBeginningCard

/-- THE TIED CARD OF 'signatorylaw49.DeedsNext'. -/
def deedsNextCard : Claim7 := { stood := { row := deedsNextRow, standIns := [], harness := (true, "3c43606fd05d909d126fd3a059f7e3f9ad1f68207444ca87b4e0fc6c41a6516c"), looks := true }, kinds := [], alts := [], laidByText := true, laidKinds := [.data, .data], laidTests := true, laidLooks := .later }
def DeedsNextCardSaid : Prop := Claim7.holds Tryd.pinned (.plain (OpenSpec.ofChange deedsNextSpec)) deedsNextCard

/-- THE SECOND FORM's CARD OF 'signatorylaw11.SignSpec'. -/
def signSpecUptoCard : Claim7 := { stood := { row := signSpecUptoRow, standIns := [], harness := (true, "3c43606fd05d909d126fd3a059f7e3f9ad1f68207444ca87b4e0fc6c41a6516c"), looks := true }, kinds := [], alts := [], laidByText := true, laidKinds := [.data, .data], laidTests := true, laidLooks := .later }
def SignSpecUptoCardSaid : Prop := Claim7.holds Tryd.pinned (.plain (OpenSpec.upto signSpecSpec)) signSpecUptoCard

/-- THE SECOND FORM's CARD OF 'signatorylaw11.SignRight'. -/
def signRightUptoCard : Claim7 := { stood := { row := signRightUptoRow, standIns := [], harness := (true, "3c43606fd05d909d126fd3a059f7e3f9ad1f68207444ca87b4e0fc6c41a6516c"), looks := true }, kinds := [], alts := [], laidByText := true, laidKinds := [.data, .data], laidTests := true, laidLooks := .later }
def SignRightUptoCardSaid : Prop := Claim7.holds Tryd.pinned (.plain (OpenSpec.upto signRightSpec)) signRightUptoCard

/-- THE SECOND FORM's CARD OF 'signatorylaw11.SignMeans'. -/
def signMeansUptoCard : Claim7 := { stood := { row := signMeansUptoRow, standIns := [], harness := (true, "3c43606fd05d909d126fd3a059f7e3f9ad1f68207444ca87b4e0fc6c41a6516c"), looks := true }, kinds := [], alts := [], laidByText := true, laidKinds := [.data, .data], laidTests := true, laidLooks := .later }
def SignMeansUptoCardSaid : Prop := Claim7.holds Tryd.pinned (.plain (OpenSpec.upto signMeansSpec)) signMeansUptoCard

/-- THE SECOND FORM's CARD OF 'signatorylaw11.SignTwice'. -/
def signTwiceUptoCard : Claim7 := { stood := { row := signTwiceUptoRow, standIns := [], harness := (true, "3c43606fd05d909d126fd3a059f7e3f9ad1f68207444ca87b4e0fc6c41a6516c"), looks := true }, kinds := [], alts := [], laidByText := true, laidKinds := [.data, .data], laidTests := true, laidLooks := .later }
def SignTwiceUptoCardSaid : Prop := Claim7.holds Tryd.pinned (.plain (OpenSpec.upto signTwiceSpec)) signTwiceUptoCard

/-- THE SECOND FORM's CARD OF 'signatorylaw49.DeedsSpec'. -/
def deedsSpecUptoCard : Claim7 := { stood := { row := deedsSpecUptoRow, standIns := [], harness := (true, "3c43606fd05d909d126fd3a059f7e3f9ad1f68207444ca87b4e0fc6c41a6516c"), looks := true }, kinds := [], alts := [], laidByText := true, laidKinds := [.data, .data], laidTests := true, laidLooks := .later }
def DeedsSpecUptoCardSaid : Prop := Claim7.holds Tryd.pinned (.plain (OpenSpec.upto deedsSpecSpec)) deedsSpecUptoCard

/-- THE SECOND FORM's CARD OF 'signatorylaw49.DeedsBound'. -/
def deedsBoundUptoCard : Claim7 := { stood := { row := deedsBoundUptoRow, standIns := [], harness := (true, "3c43606fd05d909d126fd3a059f7e3f9ad1f68207444ca87b4e0fc6c41a6516c"), looks := true }, kinds := [], alts := [], laidByText := true, laidKinds := [.data, .data], laidTests := true, laidLooks := .later }
def DeedsBoundUptoCardSaid : Prop := Claim7.holds Tryd.pinned (.plain (OpenSpec.upto deedsBoundSpec)) deedsBoundUptoCard

/-- THE SECOND FORM's CARD OF 'signatorylaw49.DeedsMade'. -/
def deedsMadeUptoCard : Claim7 := { stood := { row := deedsMadeUptoRow, standIns := [], harness := (true, "3c43606fd05d909d126fd3a059f7e3f9ad1f68207444ca87b4e0fc6c41a6516c"), looks := true }, kinds := [], alts := [], laidByText := true, laidKinds := [.data, .data], laidTests := true, laidLooks := .later }
def DeedsMadeUptoCardSaid : Prop := Claim7.holds Tryd.pinned (.plain (OpenSpec.upto deedsMadeSpec)) deedsMadeUptoCard

/-- THE SECOND FORM's CARD OF 'signatorylaw49.DeedsLog'. -/
def deedsLogUptoCard : Claim7 := { stood := { row := deedsLogUptoRow, standIns := [], harness := (true, "3c43606fd05d909d126fd3a059f7e3f9ad1f68207444ca87b4e0fc6c41a6516c"), looks := true }, kinds := [], alts := [], laidByText := true, laidKinds := [.data, .data], laidTests := true, laidLooks := .later }
def DeedsLogUptoCardSaid : Prop := Claim7.holds Tryd.pinned (.plain (OpenSpec.upto deedsLogSpec)) deedsLogUptoCard

/-- THE SECOND FORM's CARD OF 'signatorylaw49.DeedsBeginning'. -/
def deedsBeginningUptoCard : Claim7 := { stood := { row := deedsBeginningUptoRow, standIns := [], harness := (true, "3c43606fd05d909d126fd3a059f7e3f9ad1f68207444ca87b4e0fc6c41a6516c"), looks := true }, kinds := [], alts := [], laidByText := true, laidKinds := [.data, .data], laidTests := true, laidLooks := .later }
def DeedsBeginningUptoCardSaid : Prop := Claim7.holds Tryd.pinned (.plain (OpenSpec.upto deedsBeginningSpec)) deedsBeginningUptoCard

/-- THE SECOND FORM's CARD OF 'signatorylaw49.DeedsNext'. -/
def deedsNextUptoCard : Claim7 := { stood := { row := deedsNextUptoRow, standIns := [], harness := (true, "3c43606fd05d909d126fd3a059f7e3f9ad1f68207444ca87b4e0fc6c41a6516c"), looks := true }, kinds := [], alts := [], laidByText := true, laidKinds := [.data, .data], laidTests := true, laidLooks := .later }
def DeedsNextUptoCardSaid : Prop := Claim7.holds Tryd.pinned (.plain (OpenSpec.upto deedsNextSpec)) deedsNextUptoCard
end Rows
end Go.Proofs.YtjhecmmbpmpmgaaDoor
