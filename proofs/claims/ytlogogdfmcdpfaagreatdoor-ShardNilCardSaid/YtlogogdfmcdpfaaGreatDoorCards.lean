/-
  DERIVED. GIVEN WITH THE SEED: THE CARDS: each row of YtlogogdfmcdpfaaGreatDoorRows.lean that lists a variable, with what it lists TIED to the program's text (the seventh form; the later family's looks); each row that meets fmt, with fmt's text TOLD by the authors' own Lean function (tested against real Go, not proved from fmt's source: count such statements apart). THE CARD IS WHAT COUNTS. Prove the row's statement (the work); the ties are given (YtlogogdfmcdpfaaGreatDoorTie.lean); close each card by the builder's one call (the guide's Derived/Test/ToyasCard.lean, 'card_holds'). Laid BY PROGRAM, IN A SANDBOX (cutbox-door.mjs). By AI agents, Wed Nov 11 2026. No macro, syntax, notation, axiom, sorry.
-/
import Derived.Test.YtlogogdfmcdpfaaGreatDoorRows
import GoSem.ClaimSeven
namespace Go.Proofs.YtlogogdfmcdpfaaGreatDoor
namespace Rows

/-- THE TIED CARD OF 'almonerlaw13.ShardKeeps'. -/
def shardKeepsCard : Claim7 := { stood := { row := shardKeepsRow, standIns := [], harness := (true, "102c033f8d34e59f8166a0df85c5145a60013afccda034fc2756983eeaa91f60"), looks := true }, kinds := [], alts := [], laidByText := true, laidKinds := [.data, .data, .data, .data, .pinned], laidTests := true, laidLooks := .later }
def ShardKeepsCardSaid : Prop := Claim7.holds Tryz.pinned (.plain (OpenSpec.ofChange shardKeepsSpec)) shardKeepsCard

/-- THE TIED CARD OF 'almonerlaw13.ShardFreezes'. -/
def shardFreezesCard : Claim7 := { stood := { row := shardFreezesRow, standIns := [], harness := (true, "102c033f8d34e59f8166a0df85c5145a60013afccda034fc2756983eeaa91f60"), looks := true }, kinds := [], alts := [], laidByText := true, laidKinds := [.data, .data, .data, .data, .pinned], laidTests := true, laidLooks := .later }
def ShardFreezesCardSaid : Prop := Claim7.holds Tryz.pinned (.plain (OpenSpec.ofChange shardFreezesSpec)) shardFreezesCard

/-- THE TIED CARD OF 'almonerlaw13.ShardAlone'. -/
def shardAloneCard : Claim7 := { stood := { row := shardAloneRow, standIns := [], harness := (true, "102c033f8d34e59f8166a0df85c5145a60013afccda034fc2756983eeaa91f60"), looks := true }, kinds := [], alts := [], laidByText := true, laidKinds := [.data, .data, .data, .data, .pinned], laidTests := true, laidLooks := .later }
def ShardAloneCardSaid : Prop := Claim7.holds Tryz.pinned (.plain (OpenSpec.ofChange shardAloneSpec)) shardAloneCard

/-- THE TIED CARD OF 'almonerlaw13.ShardHands'. -/
def shardHandsCard : Claim7 := { stood := { row := shardHandsRow, standIns := [], harness := (true, "102c033f8d34e59f8166a0df85c5145a60013afccda034fc2756983eeaa91f60"), looks := true }, kinds := [], alts := [], laidByText := true, laidKinds := [.data, .data, .data, .data, .pinned], laidTests := true, laidLooks := .later }
def ShardHandsCardSaid : Prop := Claim7.holds Tryz.pinned (.plain (OpenSpec.ofChange shardHandsSpec)) shardHandsCard

/-- THE TIED CARD OF 'almonerlaw13.ShardTwice'. -/
def shardTwiceCard : Claim7 := { stood := { row := shardTwiceRow, standIns := [], harness := (true, "102c033f8d34e59f8166a0df85c5145a60013afccda034fc2756983eeaa91f60"), looks := true }, kinds := [], alts := [], laidByText := true, laidKinds := [.data, .data, .data, .data, .pinned], laidTests := true, laidLooks := .later }
def ShardTwiceCardSaid : Prop := Claim7.holds Tryz.pinned (.plain (OpenSpec.ofChange shardTwiceSpec)) shardTwiceCard

/-- THE TIED CARD OF 'almonerlaw13.ShardCommands'. -/
def shardCommandsCard : Claim7 := { stood := { row := shardCommandsRow, standIns := [], harness := (true, "102c033f8d34e59f8166a0df85c5145a60013afccda034fc2756983eeaa91f60"), looks := true }, kinds := [], alts := [], laidByText := true, laidKinds := [.data, .data, .data, .data, .pinned], laidTests := true, laidLooks := .later }
def ShardCommandsCardSaid : Prop := Claim7.holds Tryz.pinned (.plain (OpenSpec.ofChange shardCommandsSpec)) shardCommandsCard

/-- THE TIED CARD OF 'almonerlaw15.TxnEnds'. -/
def txnEndsCard : Claim7 := { stood := { row := txnEndsRow, standIns := [], harness := (true, "102c033f8d34e59f8166a0df85c5145a60013afccda034fc2756983eeaa91f60"), looks := true }, kinds := [], alts := [], laidByText := true, laidKinds := [.data, .data, .data, .data, .pinned], laidTests := true, laidLooks := .later }
def TxnEndsCardSaid : Prop := Claim7.holds Tryz.pinned (.plain (OpenSpec.ofChange txnEndsSpec)) txnEndsCard

/-- THE TIED CARD OF 'almonerlaw13.ShardDoes'. -/
def shardDoesCard : Claim7 := { stood := { row := shardDoesRow, standIns := [], harness := (true, "102c033f8d34e59f8166a0df85c5145a60013afccda034fc2756983eeaa91f60"), looks := true }, kinds := [], alts := [], laidByText := true, laidKinds := [.data, .data, .data, .data, .pinned], laidTests := true, laidLooks := .later }
def ShardDoesCardSaid : Prop := Claim7.holds Tryz.pinned (.plain (OpenSpec.ofChange shardDoesSpec)) shardDoesCard

/-- THE TIED CARD OF 'almonerlaw13.ShardNil'. -/
def shardNilCard : Claim7 := { stood := { row := shardNilRow, standIns := [], harness := (true, "102c033f8d34e59f8166a0df85c5145a60013afccda034fc2756983eeaa91f60"), looks := true }, kinds := [], alts := [], laidByText := true, laidKinds := [.data, .data, .data, .data, .pinned], laidTests := true, laidLooks := .later }
def ShardNilCardSaid : Prop := Claim7.holds Tryz.pinned (.plain (OpenSpec.ofChange shardNilSpec)) shardNilCard

/-- THE SECOND FORM's CARD OF 'almonerlaw13.ShardKeeps'. -/
def shardKeepsUptoCard : Claim7 := { stood := { row := shardKeepsUptoRow, standIns := [], harness := (true, "102c033f8d34e59f8166a0df85c5145a60013afccda034fc2756983eeaa91f60"), looks := true }, kinds := [], alts := [], laidByText := true, laidKinds := [.data, .data, .data, .data, .pinned], laidTests := true, laidLooks := .later }
def ShardKeepsUptoCardSaid : Prop := Claim7.holds Tryz.pinned (.plain (OpenSpec.upto shardKeepsSpec)) shardKeepsUptoCard

/-- THE SECOND FORM's CARD OF 'almonerlaw13.ShardFreezes'. -/
def shardFreezesUptoCard : Claim7 := { stood := { row := shardFreezesUptoRow, standIns := [], harness := (true, "102c033f8d34e59f8166a0df85c5145a60013afccda034fc2756983eeaa91f60"), looks := true }, kinds := [], alts := [], laidByText := true, laidKinds := [.data, .data, .data, .data, .pinned], laidTests := true, laidLooks := .later }
def ShardFreezesUptoCardSaid : Prop := Claim7.holds Tryz.pinned (.plain (OpenSpec.upto shardFreezesSpec)) shardFreezesUptoCard

/-- THE SECOND FORM's CARD OF 'almonerlaw13.ShardAlone'. -/
def shardAloneUptoCard : Claim7 := { stood := { row := shardAloneUptoRow, standIns := [], harness := (true, "102c033f8d34e59f8166a0df85c5145a60013afccda034fc2756983eeaa91f60"), looks := true }, kinds := [], alts := [], laidByText := true, laidKinds := [.data, .data, .data, .data, .pinned], laidTests := true, laidLooks := .later }
def ShardAloneUptoCardSaid : Prop := Claim7.holds Tryz.pinned (.plain (OpenSpec.upto shardAloneSpec)) shardAloneUptoCard

/-- THE SECOND FORM's CARD OF 'almonerlaw13.ShardHands'. -/
def shardHandsUptoCard : Claim7 := { stood := { row := shardHandsUptoRow, standIns := [], harness := (true, "102c033f8d34e59f8166a0df85c5145a60013afccda034fc2756983eeaa91f60"), looks := true }, kinds := [], alts := [], laidByText := true, laidKinds := [.data, .data, .data, .data, .pinned], laidTests := true, laidLooks := .later }
def ShardHandsUptoCardSaid : Prop := Claim7.holds Tryz.pinned (.plain (OpenSpec.upto shardHandsSpec)) shardHandsUptoCard

/-- THE SECOND FORM's CARD OF 'almonerlaw13.ShardTwice'. -/
def shardTwiceUptoCard : Claim7 := { stood := { row := shardTwiceUptoRow, standIns := [], harness := (true, "102c033f8d34e59f8166a0df85c5145a60013afccda034fc2756983eeaa91f60"), looks := true }, kinds := [], alts := [], laidByText := true, laidKinds := [.data, .data, .data, .data, .pinned], laidTests := true, laidLooks := .later }
def ShardTwiceUptoCardSaid : Prop := Claim7.holds Tryz.pinned (.plain (OpenSpec.upto shardTwiceSpec)) shardTwiceUptoCard

/-- THE SECOND FORM's CARD OF 'almonerlaw13.ShardCommands'. -/
def shardCommandsUptoCard : Claim7 := { stood := { row := shardCommandsUptoRow, standIns := [], harness := (true, "102c033f8d34e59f8166a0df85c5145a60013afccda034fc2756983eeaa91f60"), looks := true }, kinds := [], alts := [], laidByText := true, laidKinds := [.data, .data, .data, .data, .pinned], laidTests := true, laidLooks := .later }
def ShardCommandsUptoCardSaid : Prop := Claim7.holds Tryz.pinned (.plain (OpenSpec.upto shardCommandsSpec)) shardCommandsUptoCard

/-- THE SECOND FORM's CARD OF 'almonerlaw15.TxnEnds'. -/
def txnEndsUptoCard : Claim7 := { stood := { row := txnEndsUptoRow, standIns := [], harness := (true, "102c033f8d34e59f8166a0df85c5145a60013afccda034fc2756983eeaa91f60"), looks := true }, kinds := [], alts := [], laidByText := true, laidKinds := [.data, .data, .data, .data, .pinned], laidTests := true, laidLooks := .later }
def TxnEndsUptoCardSaid : Prop := Claim7.holds Tryz.pinned (.plain (OpenSpec.upto txnEndsSpec)) txnEndsUptoCard

/-- THE SECOND FORM's CARD OF 'almonerlaw13.ShardDoes'. -/
def shardDoesUptoCard : Claim7 := { stood := { row := shardDoesUptoRow, standIns := [], harness := (true, "102c033f8d34e59f8166a0df85c5145a60013afccda034fc2756983eeaa91f60"), looks := true }, kinds := [], alts := [], laidByText := true, laidKinds := [.data, .data, .data, .data, .pinned], laidTests := true, laidLooks := .later }
def ShardDoesUptoCardSaid : Prop := Claim7.holds Tryz.pinned (.plain (OpenSpec.upto shardDoesSpec)) shardDoesUptoCard

/-- THE SECOND FORM's CARD OF 'almonerlaw13.ShardNil'. -/
def shardNilUptoCard : Claim7 := { stood := { row := shardNilUptoRow, standIns := [], harness := (true, "102c033f8d34e59f8166a0df85c5145a60013afccda034fc2756983eeaa91f60"), looks := true }, kinds := [], alts := [], laidByText := true, laidKinds := [.data, .data, .data, .data, .pinned], laidTests := true, laidLooks := .later }
def ShardNilUptoCardSaid : Prop := Claim7.holds Tryz.pinned (.plain (OpenSpec.upto shardNilSpec)) shardNilUptoCard
end Rows
end Go.Proofs.YtlogogdfmcdpfaaGreatDoor
