/-
  DERIVED. GIVEN WITH THE SEED: THE CARDS: each row of YtaajlbbooneiiaaDoorRows.lean that lists a variable, with what it lists TIED to the program's text (the seventh form; the later family's looks); each row that meets fmt, with fmt's text TOLD by the authors' own Lean function (tested against real Go, not proved from fmt's source: count such statements apart). THE CARD IS WHAT COUNTS. Prove the row's statement (the work); the ties are given (YtaajlbbooneiiaaDoorTie.lean); close each card by the builder's one call (the guide's Derived/Test/ToyasCard.lean, 'card_holds'). Laid BY PROGRAM, IN A SANDBOX (cutbox-door.mjs). By AI agents, Wed Nov 11 2026. No macro, syntax, notation, axiom, sorry.
-/
import Derived.Test.YtaajlbbooneiiaaDoorRows
import GoSem.ClaimSeven
namespace Go.Proofs.YtaajlbbooneiiaaDoor
namespace Rows

/-- THE TIED CARD OF 'bastillelaw35.RecordBlobs'. -/
def recordBlobsCard : Claim7 := { stood := { row := recordBlobsRow, standIns := [], harness := (true, "e55152458ed226ca7f1b8a51d1e5809449f217fe6effbf2a061d9a1bd2503f07"), looks := false }, kinds := [], alts := [], laidByText := true, laidKinds := [.data, .data, .data], laidTests := true, laidLooks := .later }
def RecordBlobsCardSaid : Prop := Claim7.holds Tryd.pinned (.plain (OpenSpec.ofChange recordBlobsSpec)) recordBlobsCard

/-- THE TIED CARD OF 'bastillelaw35.RecordSmall'. -/
def recordSmallCard : Claim7 := { stood := { row := recordSmallRow, standIns := [], harness := (true, "e55152458ed226ca7f1b8a51d1e5809449f217fe6effbf2a061d9a1bd2503f07"), looks := false }, kinds := [], alts := [], laidByText := true, laidKinds := [.data, .data, .data], laidTests := true, laidLooks := .later }
def RecordSmallCardSaid : Prop := Claim7.holds Tryd.pinned (.plain (OpenSpec.ofChange recordSmallSpec)) recordSmallCard

/-- THE TIED CARD OF 'bastillelaw35.RecordVersion'. -/
def recordVersionCard : Claim7 := { stood := { row := recordVersionRow, standIns := [], harness := (true, "e55152458ed226ca7f1b8a51d1e5809449f217fe6effbf2a061d9a1bd2503f07"), looks := false }, kinds := [], alts := [], laidByText := true, laidKinds := [.data, .data, .data], laidTests := true, laidLooks := .later }
def RecordVersionCardSaid : Prop := Claim7.holds Tryd.pinned (.plain (OpenSpec.ofChange recordVersionSpec)) recordVersionCard

/-- THE TIED CARD OF 'bastillelaw35.RecordEpoch'. -/
def recordEpochCard : Claim7 := { stood := { row := recordEpochRow, standIns := [], harness := (true, "e55152458ed226ca7f1b8a51d1e5809449f217fe6effbf2a061d9a1bd2503f07"), looks := false }, kinds := [], alts := [], laidByText := true, laidKinds := [.data, .data, .data], laidTests := true, laidLooks := .later }
def RecordEpochCardSaid : Prop := Claim7.holds Tryd.pinned (.plain (OpenSpec.ofChange recordEpochSpec)) recordEpochCard

/-- THE SECOND FORM's CARD OF 'bastillelaw35.RecordBlobs'. -/
def recordBlobsUptoCard : Claim7 := { stood := { row := recordBlobsUptoRow, standIns := [], harness := (true, "e55152458ed226ca7f1b8a51d1e5809449f217fe6effbf2a061d9a1bd2503f07"), looks := false }, kinds := [], alts := [], laidByText := true, laidKinds := [.data, .data, .data], laidTests := true, laidLooks := .later }
def RecordBlobsUptoCardSaid : Prop := Claim7.holds Tryd.pinned (.plain (OpenSpec.upto recordBlobsSpec)) recordBlobsUptoCard

/-- THE SECOND FORM's CARD OF 'bastillelaw35.RecordSmall'. -/
def recordSmallUptoCard : Claim7 := { stood := { row := recordSmallUptoRow, standIns := [], harness := (true, "e55152458ed226ca7f1b8a51d1e5809449f217fe6effbf2a061d9a1bd2503f07"), looks := false }, kinds := [], alts := [], laidByText := true, laidKinds := [.data, .data, .data], laidTests := true, laidLooks := .later }
def RecordSmallUptoCardSaid : Prop := Claim7.holds Tryd.pinned (.plain (OpenSpec.upto recordSmallSpec)) recordSmallUptoCard

/-- THE SECOND FORM's CARD OF 'bastillelaw35.RecordVersion'. -/
def recordVersionUptoCard : Claim7 := { stood := { row := recordVersionUptoRow, standIns := [], harness := (true, "e55152458ed226ca7f1b8a51d1e5809449f217fe6effbf2a061d9a1bd2503f07"), looks := false }, kinds := [], alts := [], laidByText := true, laidKinds := [.data, .data, .data], laidTests := true, laidLooks := .later }
def RecordVersionUptoCardSaid : Prop := Claim7.holds Tryd.pinned (.plain (OpenSpec.upto recordVersionSpec)) recordVersionUptoCard

/-- THE SECOND FORM's CARD OF 'bastillelaw35.RecordEpoch'. -/
def recordEpochUptoCard : Claim7 := { stood := { row := recordEpochUptoRow, standIns := [], harness := (true, "e55152458ed226ca7f1b8a51d1e5809449f217fe6effbf2a061d9a1bd2503f07"), looks := false }, kinds := [], alts := [], laidByText := true, laidKinds := [.data, .data, .data], laidTests := true, laidLooks := .later }
def RecordEpochUptoCardSaid : Prop := Claim7.holds Tryd.pinned (.plain (OpenSpec.upto recordEpochSpec)) recordEpochUptoCard
end Rows
end Go.Proofs.YtaajlbbooneiiaaDoor
