/-
  DERIVED. GIVEN WITH THE SEED: THE CARDS: each row of YtjepjheklnaidaaDoorRows.lean that lists a variable, with what it lists TIED to the program's text (the seventh form; the later family's looks); each row that meets fmt, with fmt's text TOLD by the authors' own Lean function (tested against real Go, not proved from fmt's source: count such statements apart). THE CARD IS WHAT COUNTS. Prove the row's statement (the work); the ties are given (YtjepjheklnaidaaDoorTie.lean); close each card by the builder's one call (the guide's Derived/Test/ToyasCard.lean, 'card_holds'). Laid BY PROGRAM, IN A SANDBOX (cutbox-door.mjs). By AI agents, Wed Nov 11 2026. No macro, syntax, notation, axiom, sorry.
-/
import Derived.Test.YtjepjheklnaidaaDoorRows
import GoSem.ClaimSeven
namespace Go.Proofs.YtjepjheklnaidaaDoor
namespace Rows

/-- THE TIED CARD OF 'scarplaw3.FtextWhole'. -/
def ftextWholeCard : Claim7 := { stood := { row := ftextWholeRow, standIns := [], harness := (true, "fa34ae003f4935beba375cc7991efb7a62ab7857ff6983144e33acfb5538cba8"), looks := true }, kinds := [], alts := [], laidByText := true, laidKinds := [.data, .data, .data, .data, .sentinel, .sentinel, .pinned], laidTests := true, laidLooks := .later }
def FtextWholeCardSaid : Prop := Claim7.holds Tryd.pinned (.plain (OpenSpec.ofChange ftextWholeSpec)) ftextWholeCard

/-- THE TIED CARD OF 'scarplaw3.FtextAsks'. -/
def ftextAsksCard : Claim7 := { stood := { row := ftextAsksRow, standIns := [], harness := (true, "fa34ae003f4935beba375cc7991efb7a62ab7857ff6983144e33acfb5538cba8"), looks := true }, kinds := [], alts := [], laidByText := true, laidKinds := [.data, .data, .data, .data, .sentinel, .sentinel, .pinned], laidTests := true, laidLooks := .later }
def FtextAsksCardSaid : Prop := Claim7.holds Tryd.pinned (.plain (OpenSpec.ofChange ftextAsksSpec)) ftextAsksCard

/-- THE TIED CARD OF 'scarplaw3.FtextBack'. -/
def ftextBackCard : Claim7 := { stood := { row := ftextBackRow, standIns := [], harness := (true, "fa34ae003f4935beba375cc7991efb7a62ab7857ff6983144e33acfb5538cba8"), looks := true }, kinds := [], alts := [], laidByText := true, laidKinds := [.data, .data, .data, .data, .sentinel, .sentinel, .pinned], laidTests := true, laidLooks := .later }
def FtextBackCardSaid : Prop := Claim7.holds Tryd.pinned (.plain (OpenSpec.ofChange ftextBackSpec)) ftextBackCard

/-- THE TIED CARD OF 'scarplaw3.FtextForms'. -/
def ftextFormsCard : Claim7 := { stood := { row := ftextFormsRow, standIns := [], harness := (true, "fa34ae003f4935beba375cc7991efb7a62ab7857ff6983144e33acfb5538cba8"), looks := true }, kinds := [], alts := [], laidByText := true, laidKinds := [.data, .data, .data, .data, .sentinel, .sentinel, .pinned], laidTests := true, laidLooks := .later }
def FtextFormsCardSaid : Prop := Claim7.holds Tryd.pinned (.plain (OpenSpec.ofChange ftextFormsSpec)) ftextFormsCard

/-- THE TIED CARD OF 'scarplaw3.FtextSigns'. -/
def ftextSignsCard : Claim7 := { stood := { row := ftextSignsRow, standIns := [], harness := (true, "fa34ae003f4935beba375cc7991efb7a62ab7857ff6983144e33acfb5538cba8"), looks := true }, kinds := [], alts := [], laidByText := true, laidKinds := [.data, .data, .data, .data, .sentinel, .sentinel, .pinned], laidTests := true, laidLooks := .later }
def FtextSignsCardSaid : Prop := Claim7.holds Tryd.pinned (.plain (OpenSpec.ofChange ftextSignsSpec)) ftextSignsCard

/-- THE SECOND FORM's CARD OF 'scarplaw3.FtextWhole'. -/
def ftextWholeUptoCard : Claim7 := { stood := { row := ftextWholeUptoRow, standIns := [], harness := (true, "fa34ae003f4935beba375cc7991efb7a62ab7857ff6983144e33acfb5538cba8"), looks := true }, kinds := [], alts := [], laidByText := true, laidKinds := [.data, .data, .data, .data, .sentinel, .sentinel, .pinned], laidTests := true, laidLooks := .later }
def FtextWholeUptoCardSaid : Prop := Claim7.holds Tryd.pinned (.plain (OpenSpec.upto ftextWholeSpec)) ftextWholeUptoCard

/-- THE SECOND FORM's CARD OF 'scarplaw3.FtextAsks'. -/
def ftextAsksUptoCard : Claim7 := { stood := { row := ftextAsksUptoRow, standIns := [], harness := (true, "fa34ae003f4935beba375cc7991efb7a62ab7857ff6983144e33acfb5538cba8"), looks := true }, kinds := [], alts := [], laidByText := true, laidKinds := [.data, .data, .data, .data, .sentinel, .sentinel, .pinned], laidTests := true, laidLooks := .later }
def FtextAsksUptoCardSaid : Prop := Claim7.holds Tryd.pinned (.plain (OpenSpec.upto ftextAsksSpec)) ftextAsksUptoCard

/-- THE SECOND FORM's CARD OF 'scarplaw3.FtextBack'. -/
def ftextBackUptoCard : Claim7 := { stood := { row := ftextBackUptoRow, standIns := [], harness := (true, "fa34ae003f4935beba375cc7991efb7a62ab7857ff6983144e33acfb5538cba8"), looks := true }, kinds := [], alts := [], laidByText := true, laidKinds := [.data, .data, .data, .data, .sentinel, .sentinel, .pinned], laidTests := true, laidLooks := .later }
def FtextBackUptoCardSaid : Prop := Claim7.holds Tryd.pinned (.plain (OpenSpec.upto ftextBackSpec)) ftextBackUptoCard

/-- THE SECOND FORM's CARD OF 'scarplaw3.FtextForms'. -/
def ftextFormsUptoCard : Claim7 := { stood := { row := ftextFormsUptoRow, standIns := [], harness := (true, "fa34ae003f4935beba375cc7991efb7a62ab7857ff6983144e33acfb5538cba8"), looks := true }, kinds := [], alts := [], laidByText := true, laidKinds := [.data, .data, .data, .data, .sentinel, .sentinel, .pinned], laidTests := true, laidLooks := .later }
def FtextFormsUptoCardSaid : Prop := Claim7.holds Tryd.pinned (.plain (OpenSpec.upto ftextFormsSpec)) ftextFormsUptoCard

/-- THE SECOND FORM's CARD OF 'scarplaw3.FtextSigns'. -/
def ftextSignsUptoCard : Claim7 := { stood := { row := ftextSignsUptoRow, standIns := [], harness := (true, "fa34ae003f4935beba375cc7991efb7a62ab7857ff6983144e33acfb5538cba8"), looks := true }, kinds := [], alts := [], laidByText := true, laidKinds := [.data, .data, .data, .data, .sentinel, .sentinel, .pinned], laidTests := true, laidLooks := .later }
def FtextSignsUptoCardSaid : Prop := Claim7.holds Tryd.pinned (.plain (OpenSpec.upto ftextSignsSpec)) ftextSignsUptoCard
end Rows
end Go.Proofs.YtjepjheklnaidaaDoor
