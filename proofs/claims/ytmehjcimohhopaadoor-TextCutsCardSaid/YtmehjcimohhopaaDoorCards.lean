/-
  DERIVED. GIVEN WITH THE SEED: THE CARDS: each row of YtmehjcimohhopaaDoorRows.lean that lists a variable, with what it lists TIED to the program's text (the seventh form; the later family's looks); each row that meets fmt, with fmt's text TOLD by the authors' own Lean function (tested against real Go, not proved from fmt's source: count such statements apart). THE CARD IS WHAT COUNTS. Prove the row's statement (the work); the ties are given (YtmehjcimohhopaaDoorTie.lean); close each card by the builder's one call (the guide's Derived/Test/ToyasCard.lean, 'card_holds'). Laid BY PROGRAM, IN A SANDBOX (cutbox-door.mjs). By AI agents, Wed Nov 11 2026. No macro, syntax, notation, axiom, sorry.
-/
import Derived.Test.YtmehjcimohhopaaDoorRows
import GoSem.ClaimSeven
namespace Go.Proofs.YtmehjcimohhopaaDoor
namespace Rows

/-- THE TIED CARD OF 'caissonlaw18.TextNumbers'. -/
def textNumbersCard : Claim7 := { stood := { row := textNumbersRow, standIns := [], harness := (true, "29609877403d50f14a58f67939c70e45396fb26bb434192b8ca2ef19c381cad2"), looks := false }, kinds := [], alts := [], laidByText := true, laidKinds := [.data, .pinned], laidTests := true, laidLooks := .later }
def TextNumbersCardSaid : Prop := Claim7.holds Tryd.pinned (.plain (OpenSpec.ofChange textNumbersSpec)) textNumbersCard

/-- THE TIED CARD OF 'caissonlaw18.TextTalks'. -/
def textTalksCard : Claim7 := { stood := { row := textTalksRow, standIns := [], harness := (true, "29609877403d50f14a58f67939c70e45396fb26bb434192b8ca2ef19c381cad2"), looks := false }, kinds := [], alts := [], laidByText := true, laidKinds := [.data, .pinned], laidTests := true, laidLooks := .later }
def TextTalksCardSaid : Prop := Claim7.holds Tryd.pinned (.plain (OpenSpec.ofChange textTalksSpec)) textTalksCard

/-- THE TIED CARD OF 'caissonlaw18.TextLess'. -/
def textLessCard : Claim7 := { stood := { row := textLessRow, standIns := [], harness := (true, "29609877403d50f14a58f67939c70e45396fb26bb434192b8ca2ef19c381cad2"), looks := false }, kinds := [], alts := [], laidByText := true, laidKinds := [.data, .pinned], laidTests := true, laidLooks := .later }
def TextLessCardSaid : Prop := Claim7.holds Tryd.pinned (.plain (OpenSpec.ofChange textLessSpec)) textLessCard

/-- THE TIED CARD OF 'caissonlaw18.TextParts'. -/
def textPartsCard : Claim7 := { stood := { row := textPartsRow, standIns := [], harness := (true, "29609877403d50f14a58f67939c70e45396fb26bb434192b8ca2ef19c381cad2"), looks := false }, kinds := [], alts := [], laidByText := true, laidKinds := [.data, .sentinel, .pinned], laidTests := true, laidLooks := .later }
def TextPartsCardSaid : Prop := Claim7.holds Tryd.pinned (.plain (OpenSpec.ofChange textPartsSpec)) textPartsCard

/-- THE TIED CARD OF 'caissonlaw18.TextBytes'. -/
def textBytesCard : Claim7 := { stood := { row := textBytesRow, standIns := [], harness := (true, "29609877403d50f14a58f67939c70e45396fb26bb434192b8ca2ef19c381cad2"), looks := false }, kinds := [], alts := [], laidByText := true, laidKinds := [.data, .sentinel, .pinned], laidTests := true, laidLooks := .later }
def TextBytesCardSaid : Prop := Claim7.holds Tryd.pinned (.plain (OpenSpec.ofChange textBytesSpec)) textBytesCard

/-- THE TIED CARD OF 'caissonlaw18.TextCuts'. -/
def textCutsCard : Claim7 := { stood := { row := textCutsRow, standIns := [], harness := (true, "29609877403d50f14a58f67939c70e45396fb26bb434192b8ca2ef19c381cad2"), looks := false }, kinds := [], alts := [], laidByText := true, laidKinds := [.data, .sentinel, .pinned], laidTests := true, laidLooks := .later }
def TextCutsCardSaid : Prop := Claim7.holds Tryd.pinned (.plain (OpenSpec.ofChange textCutsSpec)) textCutsCard

/-- THE SECOND FORM's CARD OF 'caissonlaw18.TextNumbers'. -/
def textNumbersUptoCard : Claim7 := { stood := { row := textNumbersUptoRow, standIns := [], harness := (true, "29609877403d50f14a58f67939c70e45396fb26bb434192b8ca2ef19c381cad2"), looks := false }, kinds := [], alts := [], laidByText := true, laidKinds := [.data, .pinned], laidTests := true, laidLooks := .later }
def TextNumbersUptoCardSaid : Prop := Claim7.holds Tryd.pinned (.plain (OpenSpec.upto textNumbersSpec)) textNumbersUptoCard

/-- THE SECOND FORM's CARD OF 'caissonlaw18.TextTalks'. -/
def textTalksUptoCard : Claim7 := { stood := { row := textTalksUptoRow, standIns := [], harness := (true, "29609877403d50f14a58f67939c70e45396fb26bb434192b8ca2ef19c381cad2"), looks := false }, kinds := [], alts := [], laidByText := true, laidKinds := [.data, .pinned], laidTests := true, laidLooks := .later }
def TextTalksUptoCardSaid : Prop := Claim7.holds Tryd.pinned (.plain (OpenSpec.upto textTalksSpec)) textTalksUptoCard

/-- THE SECOND FORM's CARD OF 'caissonlaw18.TextLess'. -/
def textLessUptoCard : Claim7 := { stood := { row := textLessUptoRow, standIns := [], harness := (true, "29609877403d50f14a58f67939c70e45396fb26bb434192b8ca2ef19c381cad2"), looks := false }, kinds := [], alts := [], laidByText := true, laidKinds := [.data, .pinned], laidTests := true, laidLooks := .later }
def TextLessUptoCardSaid : Prop := Claim7.holds Tryd.pinned (.plain (OpenSpec.upto textLessSpec)) textLessUptoCard

/-- THE SECOND FORM's CARD OF 'caissonlaw18.TextParts'. -/
def textPartsUptoCard : Claim7 := { stood := { row := textPartsUptoRow, standIns := [], harness := (true, "29609877403d50f14a58f67939c70e45396fb26bb434192b8ca2ef19c381cad2"), looks := false }, kinds := [], alts := [], laidByText := true, laidKinds := [.data, .sentinel, .pinned], laidTests := true, laidLooks := .later }
def TextPartsUptoCardSaid : Prop := Claim7.holds Tryd.pinned (.plain (OpenSpec.upto textPartsSpec)) textPartsUptoCard

/-- THE SECOND FORM's CARD OF 'caissonlaw18.TextBytes'. -/
def textBytesUptoCard : Claim7 := { stood := { row := textBytesUptoRow, standIns := [], harness := (true, "29609877403d50f14a58f67939c70e45396fb26bb434192b8ca2ef19c381cad2"), looks := false }, kinds := [], alts := [], laidByText := true, laidKinds := [.data, .sentinel, .pinned], laidTests := true, laidLooks := .later }
def TextBytesUptoCardSaid : Prop := Claim7.holds Tryd.pinned (.plain (OpenSpec.upto textBytesSpec)) textBytesUptoCard

/-- THE SECOND FORM's CARD OF 'caissonlaw18.TextCuts'. -/
def textCutsUptoCard : Claim7 := { stood := { row := textCutsUptoRow, standIns := [], harness := (true, "29609877403d50f14a58f67939c70e45396fb26bb434192b8ca2ef19c381cad2"), looks := false }, kinds := [], alts := [], laidByText := true, laidKinds := [.data, .sentinel, .pinned], laidTests := true, laidLooks := .later }
def TextCutsUptoCardSaid : Prop := Claim7.holds Tryd.pinned (.plain (OpenSpec.upto textCutsSpec)) textCutsUptoCard
end Rows
end Go.Proofs.YtmehjcimohhopaaDoor
