/-
  DERIVED. GIVEN WITH THE SEED: THE CARDS: each row of YtmokfjlkfhopnaaDoorRows.lean that lists a variable, with what it lists TIED to the program's text (the seventh form; the later family's looks); each row that meets fmt, with fmt's text TOLD by the authors' own Lean function (tested against real Go, not proved from fmt's source: count such statements apart). THE CARD IS WHAT COUNTS. Prove the row's statement (the work); the ties are given (YtmokfjlkfhopnaaDoorTie.lean); close each card by the builder's one call (the guide's Derived/Test/ToyasCard.lean, 'card_holds'). Laid BY PROGRAM, IN A SANDBOX (cutbox-door.mjs). By AI agents, Wed Nov 11 2026. No macro, syntax, notation, axiom, sorry.
-/
import Derived.Test.YtmokfjlkfhopnaaDoorRows
import GoSem.ClaimSeven
namespace Go.Proofs.YtmokfjlkfhopnaaDoor
namespace Rows

/-- THE TIED CARD OF 'leapfroglaw04.DrawBits'. -/
def drawBitsCard : Claim7 := { stood := { row := drawBitsRow, standIns := [], harness := (true, "56066985302b6d0f678a29362506035913b97fe9bb7c02d845a3fcf89791e8a4"), looks := false }, kinds := [], alts := [], laidByText := true, laidKinds := [.data], laidTests := true, laidLooks := .later }
def DrawBitsCardSaid : Prop := Claim7.holds Tryd.pinned (.plain (OpenSpec.ofChange drawBitsSpec)) drawBitsCard

/-- THE TIED CARD OF 'leapfroglaw04.DrawHeights'. -/
def drawHeightsCard : Claim7 := { stood := { row := drawHeightsRow, standIns := [], harness := (true, "56066985302b6d0f678a29362506035913b97fe9bb7c02d845a3fcf89791e8a4"), looks := false }, kinds := [], alts := [], laidByText := true, laidKinds := [.data], laidTests := true, laidLooks := .later }
def DrawHeightsCardSaid : Prop := Claim7.holds Tryd.pinned (.plain (OpenSpec.ofChange drawHeightsSpec)) drawHeightsCard

/-- THE TIED CARD OF 'leapfroglaw04.DrawTallies'. -/
def drawTalliesCard : Claim7 := { stood := { row := drawTalliesRow, standIns := [], harness := (true, "56066985302b6d0f678a29362506035913b97fe9bb7c02d845a3fcf89791e8a4"), looks := false }, kinds := [], alts := [], laidByText := true, laidKinds := [.data], laidTests := true, laidLooks := .later }
def DrawTalliesCardSaid : Prop := Claim7.holds Tryd.pinned (.plain (OpenSpec.ofChange drawTalliesSpec)) drawTalliesCard

/-- THE TIED CARD OF 'leapfroglaw04.DrawCounts'. -/
def drawCountsCard : Claim7 := { stood := { row := drawCountsRow, standIns := [], harness := (true, "56066985302b6d0f678a29362506035913b97fe9bb7c02d845a3fcf89791e8a4"), looks := false }, kinds := [], alts := [], laidByText := true, laidKinds := [.data], laidTests := true, laidLooks := .later }
def DrawCountsCardSaid : Prop := Claim7.holds Tryd.pinned (.plain (OpenSpec.ofChange drawCountsSpec)) drawCountsCard

/-- THE TIED CARD OF 'leapfroglaw04.DrawMany'. -/
def drawManyCard : Claim7 := { stood := { row := drawManyRow, standIns := [], harness := (true, "56066985302b6d0f678a29362506035913b97fe9bb7c02d845a3fcf89791e8a4"), looks := false }, kinds := [], alts := [], laidByText := true, laidKinds := [.data], laidTests := true, laidLooks := .later }
def DrawManyCardSaid : Prop := Claim7.holds Tryd.pinned (.plain (OpenSpec.ofChange drawManySpec)) drawManyCard

/-- THE TIED CARD OF 'leapfroglaw04.DrawExamples'. -/
def drawExamplesCard : Claim7 := { stood := { row := drawExamplesRow, standIns := [], harness := (true, "56066985302b6d0f678a29362506035913b97fe9bb7c02d845a3fcf89791e8a4"), looks := false }, kinds := [], alts := [], laidByText := true, laidKinds := [.data], laidTests := true, laidLooks := .later }
def DrawExamplesCardSaid : Prop := Claim7.holds Tryd.pinned (.plain (OpenSpec.ofChange drawExamplesSpec)) drawExamplesCard

/-- THE TIED CARD OF 'leapfroglaw04.DrawSeeds'. -/
def drawSeedsCard : Claim7 := { stood := { row := drawSeedsRow, standIns := [], harness := (true, "56066985302b6d0f678a29362506035913b97fe9bb7c02d845a3fcf89791e8a4"), looks := false }, kinds := [], alts := [], laidByText := true, laidKinds := [.data], laidTests := true, laidLooks := .later }
def DrawSeedsCardSaid : Prop := Claim7.holds Tryd.pinned (.plain (OpenSpec.ofChange drawSeedsSpec)) drawSeedsCard

/-- THE SECOND FORM's CARD OF 'leapfroglaw04.DrawBits'. -/
def drawBitsUptoCard : Claim7 := { stood := { row := drawBitsUptoRow, standIns := [], harness := (true, "56066985302b6d0f678a29362506035913b97fe9bb7c02d845a3fcf89791e8a4"), looks := false }, kinds := [], alts := [], laidByText := true, laidKinds := [.data], laidTests := true, laidLooks := .later }
def DrawBitsUptoCardSaid : Prop := Claim7.holds Tryd.pinned (.plain (OpenSpec.upto drawBitsSpec)) drawBitsUptoCard

/-- THE SECOND FORM's CARD OF 'leapfroglaw04.DrawHeights'. -/
def drawHeightsUptoCard : Claim7 := { stood := { row := drawHeightsUptoRow, standIns := [], harness := (true, "56066985302b6d0f678a29362506035913b97fe9bb7c02d845a3fcf89791e8a4"), looks := false }, kinds := [], alts := [], laidByText := true, laidKinds := [.data], laidTests := true, laidLooks := .later }
def DrawHeightsUptoCardSaid : Prop := Claim7.holds Tryd.pinned (.plain (OpenSpec.upto drawHeightsSpec)) drawHeightsUptoCard

/-- THE SECOND FORM's CARD OF 'leapfroglaw04.DrawTallies'. -/
def drawTalliesUptoCard : Claim7 := { stood := { row := drawTalliesUptoRow, standIns := [], harness := (true, "56066985302b6d0f678a29362506035913b97fe9bb7c02d845a3fcf89791e8a4"), looks := false }, kinds := [], alts := [], laidByText := true, laidKinds := [.data], laidTests := true, laidLooks := .later }
def DrawTalliesUptoCardSaid : Prop := Claim7.holds Tryd.pinned (.plain (OpenSpec.upto drawTalliesSpec)) drawTalliesUptoCard

/-- THE SECOND FORM's CARD OF 'leapfroglaw04.DrawCounts'. -/
def drawCountsUptoCard : Claim7 := { stood := { row := drawCountsUptoRow, standIns := [], harness := (true, "56066985302b6d0f678a29362506035913b97fe9bb7c02d845a3fcf89791e8a4"), looks := false }, kinds := [], alts := [], laidByText := true, laidKinds := [.data], laidTests := true, laidLooks := .later }
def DrawCountsUptoCardSaid : Prop := Claim7.holds Tryd.pinned (.plain (OpenSpec.upto drawCountsSpec)) drawCountsUptoCard

/-- THE SECOND FORM's CARD OF 'leapfroglaw04.DrawMany'. -/
def drawManyUptoCard : Claim7 := { stood := { row := drawManyUptoRow, standIns := [], harness := (true, "56066985302b6d0f678a29362506035913b97fe9bb7c02d845a3fcf89791e8a4"), looks := false }, kinds := [], alts := [], laidByText := true, laidKinds := [.data], laidTests := true, laidLooks := .later }
def DrawManyUptoCardSaid : Prop := Claim7.holds Tryd.pinned (.plain (OpenSpec.upto drawManySpec)) drawManyUptoCard

/-- THE SECOND FORM's CARD OF 'leapfroglaw04.DrawExamples'. -/
def drawExamplesUptoCard : Claim7 := { stood := { row := drawExamplesUptoRow, standIns := [], harness := (true, "56066985302b6d0f678a29362506035913b97fe9bb7c02d845a3fcf89791e8a4"), looks := false }, kinds := [], alts := [], laidByText := true, laidKinds := [.data], laidTests := true, laidLooks := .later }
def DrawExamplesUptoCardSaid : Prop := Claim7.holds Tryd.pinned (.plain (OpenSpec.upto drawExamplesSpec)) drawExamplesUptoCard

/-- THE SECOND FORM's CARD OF 'leapfroglaw04.DrawSeeds'. -/
def drawSeedsUptoCard : Claim7 := { stood := { row := drawSeedsUptoRow, standIns := [], harness := (true, "56066985302b6d0f678a29362506035913b97fe9bb7c02d845a3fcf89791e8a4"), looks := false }, kinds := [], alts := [], laidByText := true, laidKinds := [.data], laidTests := true, laidLooks := .later }
def DrawSeedsUptoCardSaid : Prop := Claim7.holds Tryd.pinned (.plain (OpenSpec.upto drawSeedsSpec)) drawSeedsUptoCard
end Rows
end Go.Proofs.YtmokfjlkfhopnaaDoor
