/-
  DERIVED. GIVEN WITH THE SEED: THE CARDS: each row of YtehpafebpgndeaaGreatDoorRows.lean that lists a variable, with what it lists TIED to the program's text (the seventh form; the later family's looks); each row that meets fmt, with fmt's text TOLD by the authors' own Lean function (tested against real Go, not proved from fmt's source: count such statements apart). THE CARD IS WHAT COUNTS. Prove the row's statement (the work); the ties are given (YtehpafebpgndeaaGreatDoorTie.lean); close each card by the builder's one call (the guide's Derived/Test/ToyasCard.lean, 'card_holds'). Laid BY PROGRAM, IN A SANDBOX (cutbox-door.mjs). By AI agents, Wed Nov 11 2026. No macro, syntax, notation, axiom, sorry.
-/
import Derived.Test.YtehpafebpgndeaaGreatDoorRows
import GoSem.ClaimSeven
namespace Go.Proofs.YtehpafebpgndeaaGreatDoor
namespace Rows

/-- THE TIED CARD OF 'escutcheonlaw21.CacheNumbers'. -/
def cacheNumbersCard : Claim7 := { stood := { row := cacheNumbersRow, standIns := [], harness := (true, "43e5ed6028d66ddb088656d33509ad2493be577e17f08de46b124fb1c0e7787e"), looks := true }, kinds := [], alts := [], laidByText := true, laidKinds := [.data, .data, .data, .sentinel, .sentinel], laidTests := true, laidLooks := .later }
def CacheNumbersCardSaid : Prop := Claim7.holds Tryz.pinned (.plain (OpenSpec.ofChange cacheNumbersSpec)) cacheNumbersCard

/-- THE TIED CARD OF 'escutcheonlaw21.CacheCas'. -/
def cacheCasCard : Claim7 := { stood := { row := cacheCasRow, standIns := [], harness := (true, "43e5ed6028d66ddb088656d33509ad2493be577e17f08de46b124fb1c0e7787e"), looks := true }, kinds := [], alts := [], laidByText := true, laidKinds := [.data, .data, .data, .sentinel, .sentinel], laidTests := true, laidLooks := .later }
def CacheCasCardSaid : Prop := Claim7.holds Tryz.pinned (.plain (OpenSpec.ofChange cacheCasSpec)) cacheCasCard

/-- THE TIED CARD OF 'escutcheonlaw21.CacheThere'. -/
def cacheThereCard : Claim7 := { stood := { row := cacheThereRow, standIns := [], harness := (true, "43e5ed6028d66ddb088656d33509ad2493be577e17f08de46b124fb1c0e7787e"), looks := true }, kinds := [], alts := [], laidByText := true, laidKinds := [.data, .data, .data, .sentinel, .sentinel], laidTests := true, laidLooks := .later }
def CacheThereCardSaid : Prop := Claim7.holds Tryz.pinned (.plain (OpenSpec.ofChange cacheThereSpec)) cacheThereCard

/-- THE TIED CARD OF 'escutcheonlaw21.CacheExpires'. -/
def cacheExpiresCard : Claim7 := { stood := { row := cacheExpiresRow, standIns := [], harness := (true, "43e5ed6028d66ddb088656d33509ad2493be577e17f08de46b124fb1c0e7787e"), looks := true }, kinds := [], alts := [], laidByText := true, laidKinds := [.data, .data, .data, .sentinel, .sentinel], laidTests := true, laidLooks := .later }
def CacheExpiresCardSaid : Prop := Claim7.holds Tryz.pinned (.plain (OpenSpec.ofChange cacheExpiresSpec)) cacheExpiresCard

/-- THE TIED CARD OF 'escutcheonlaw21.CacheCounts'. -/
def cacheCountsCard : Claim7 := { stood := { row := cacheCountsRow, standIns := [], harness := (true, "43e5ed6028d66ddb088656d33509ad2493be577e17f08de46b124fb1c0e7787e"), looks := true }, kinds := [], alts := [], laidByText := true, laidKinds := [.data, .data, .data, .sentinel, .sentinel], laidTests := true, laidLooks := .later }
def CacheCountsCardSaid : Prop := Claim7.holds Tryz.pinned (.plain (OpenSpec.ofChange cacheCountsSpec)) cacheCountsCard

/-- THE TIED CARD OF 'escutcheonlaw21.CacheScans'. -/
def cacheScansCard : Claim7 := { stood := { row := cacheScansRow, standIns := [], harness := (true, "43e5ed6028d66ddb088656d33509ad2493be577e17f08de46b124fb1c0e7787e"), looks := true }, kinds := [], alts := [], laidByText := true, laidKinds := [.data, .data, .data, .sentinel, .sentinel], laidTests := true, laidLooks := .later }
def CacheScansCardSaid : Prop := Claim7.holds Tryz.pinned (.plain (OpenSpec.ofChange cacheScansSpec)) cacheScansCard

/-- THE TIED CARD OF 'escutcheonlaw21.CacheAppends'. -/
def cacheAppendsCard : Claim7 := { stood := { row := cacheAppendsRow, standIns := [], harness := (true, "43e5ed6028d66ddb088656d33509ad2493be577e17f08de46b124fb1c0e7787e"), looks := true }, kinds := [], alts := [], laidByText := true, laidKinds := [.data, .data, .data, .sentinel, .sentinel], laidTests := true, laidLooks := .later }
def CacheAppendsCardSaid : Prop := Claim7.holds Tryz.pinned (.plain (OpenSpec.ofChange cacheAppendsSpec)) cacheAppendsCard

/-- THE TIED CARD OF 'escutcheonlaw21.CacheVersions'. -/
def cacheVersionsCard : Claim7 := { stood := { row := cacheVersionsRow, standIns := [], harness := (true, "43e5ed6028d66ddb088656d33509ad2493be577e17f08de46b124fb1c0e7787e"), looks := true }, kinds := [], alts := [], laidByText := true, laidKinds := [.data, .data, .data, .sentinel, .sentinel], laidTests := true, laidLooks := .later }
def CacheVersionsCardSaid : Prop := Claim7.holds Tryz.pinned (.plain (OpenSpec.ofChange cacheVersionsSpec)) cacheVersionsCard

/-- THE TIED CARD OF 'escutcheonlaw21.CacheTicks'. -/
def cacheTicksCard : Claim7 := { stood := { row := cacheTicksRow, standIns := [], harness := (true, "43e5ed6028d66ddb088656d33509ad2493be577e17f08de46b124fb1c0e7787e"), looks := true }, kinds := [], alts := [], laidByText := true, laidKinds := [.data, .data, .data, .sentinel, .sentinel], laidTests := true, laidLooks := .later }
def CacheTicksCardSaid : Prop := Claim7.holds Tryz.pinned (.plain (OpenSpec.ofChange cacheTicksSpec)) cacheTicksCard

/-- THE TIED CARD OF 'escutcheonlaw21.CacheDigits'. -/
def cacheDigitsCard : Claim7 := { stood := { row := cacheDigitsRow, standIns := [], harness := (true, "43e5ed6028d66ddb088656d33509ad2493be577e17f08de46b124fb1c0e7787e"), looks := true }, kinds := [], alts := [], laidByText := true, laidKinds := [.data, .data, .data, .sentinel, .sentinel], laidTests := true, laidLooks := .later }
def CacheDigitsCardSaid : Prop := Claim7.holds Tryz.pinned (.plain (OpenSpec.ofChange cacheDigitsSpec)) cacheDigitsCard

/-- THE TIED CARD OF 'escutcheonlaw21.CacheFlushes'. -/
def cacheFlushesCard : Claim7 := { stood := { row := cacheFlushesRow, standIns := [], harness := (true, "43e5ed6028d66ddb088656d33509ad2493be577e17f08de46b124fb1c0e7787e"), looks := true }, kinds := [], alts := [], laidByText := true, laidKinds := [.data, .data, .data, .sentinel, .sentinel], laidTests := true, laidLooks := .later }
def CacheFlushesCardSaid : Prop := Claim7.holds Tryz.pinned (.plain (OpenSpec.ofChange cacheFlushesSpec)) cacheFlushesCard

/-- THE TIED CARD OF 'escutcheonlaw21.CacheSweeps'. -/
def cacheSweepsCard : Claim7 := { stood := { row := cacheSweepsRow, standIns := [], harness := (true, "43e5ed6028d66ddb088656d33509ad2493be577e17f08de46b124fb1c0e7787e"), looks := true }, kinds := [], alts := [], laidByText := true, laidKinds := [.data, .data, .data, .sentinel, .sentinel], laidTests := true, laidLooks := .later }
def CacheSweepsCardSaid : Prop := Claim7.holds Tryz.pinned (.plain (OpenSpec.ofChange cacheSweepsSpec)) cacheSweepsCard

/-- THE TIED CARD OF 'escutcheonlaw21.CacheBudget'. -/
def cacheBudgetCard : Claim7 := { stood := { row := cacheBudgetRow, standIns := [], harness := (true, "43e5ed6028d66ddb088656d33509ad2493be577e17f08de46b124fb1c0e7787e"), looks := true }, kinds := [], alts := [], laidByText := true, laidKinds := [.data, .data, .data, .sentinel, .sentinel], laidTests := true, laidLooks := .later }
def CacheBudgetCardSaid : Prop := Claim7.holds Tryz.pinned (.plain (OpenSpec.ofChange cacheBudgetSpec)) cacheBudgetCard

/-- THE TIED CARD OF 'escutcheonlaw21.CacheUses'. -/
def cacheUsesCard : Claim7 := { stood := { row := cacheUsesRow, standIns := [], harness := (true, "43e5ed6028d66ddb088656d33509ad2493be577e17f08de46b124fb1c0e7787e"), looks := true }, kinds := [], alts := [], laidByText := true, laidKinds := [.data, .data, .data, .sentinel, .sentinel], laidTests := true, laidLooks := .later }
def CacheUsesCardSaid : Prop := Claim7.holds Tryz.pinned (.plain (OpenSpec.ofChange cacheUsesSpec)) cacheUsesCard

/-- THE TIED CARD OF 'escutcheonlaw21.CacheErrs'. -/
def cacheErrsCard : Claim7 := { stood := { row := cacheErrsRow, standIns := [], harness := (true, "43e5ed6028d66ddb088656d33509ad2493be577e17f08de46b124fb1c0e7787e"), looks := true }, kinds := [], alts := [], laidByText := true, laidKinds := [.data, .data, .data, .sentinel, .sentinel], laidTests := true, laidLooks := .later }
def CacheErrsCardSaid : Prop := Claim7.holds Tryz.pinned (.plain (OpenSpec.ofChange cacheErrsSpec)) cacheErrsCard

/-- THE TIED CARD OF 'escutcheonlaw21.CacheParts'. -/
def cachePartsCard : Claim7 := { stood := { row := cachePartsRow, standIns := [], harness := (true, "43e5ed6028d66ddb088656d33509ad2493be577e17f08de46b124fb1c0e7787e"), looks := true }, kinds := [], alts := [], laidByText := true, laidKinds := [.data, .data, .data, .sentinel, .sentinel], laidTests := true, laidLooks := .later }
def CachePartsCardSaid : Prop := Claim7.holds Tryz.pinned (.plain (OpenSpec.ofChange cachePartsSpec)) cachePartsCard

/-- THE TIED CARD OF 'escutcheonlaw21.CachePlays'. -/
def cachePlaysCard : Claim7 := { stood := { row := cachePlaysRow, standIns := [], harness := (true, "43e5ed6028d66ddb088656d33509ad2493be577e17f08de46b124fb1c0e7787e"), looks := true }, kinds := [], alts := [], laidByText := true, laidKinds := [.data, .data, .data, .sentinel, .sentinel], laidTests := true, laidLooks := .later }
def CachePlaysCardSaid : Prop := Claim7.holds Tryz.pinned (.plain (OpenSpec.ofChange cachePlaysSpec)) cachePlaysCard

/-- THE TIED CARD OF 'escutcheonlaw21.CacheEvicts'. -/
def cacheEvictsCard : Claim7 := { stood := { row := cacheEvictsRow, standIns := [], harness := (true, "43e5ed6028d66ddb088656d33509ad2493be577e17f08de46b124fb1c0e7787e"), looks := true }, kinds := [], alts := [], laidByText := true, laidKinds := [.data, .data, .data, .sentinel, .sentinel], laidTests := true, laidLooks := .later }
def CacheEvictsCardSaid : Prop := Claim7.holds Tryz.pinned (.plain (OpenSpec.ofChange cacheEvictsSpec)) cacheEvictsCard

/-- THE SECOND FORM's CARD OF 'escutcheonlaw21.CacheNumbers'. -/
def cacheNumbersUptoCard : Claim7 := { stood := { row := cacheNumbersUptoRow, standIns := [], harness := (true, "43e5ed6028d66ddb088656d33509ad2493be577e17f08de46b124fb1c0e7787e"), looks := true }, kinds := [], alts := [], laidByText := true, laidKinds := [.data, .data, .data, .sentinel, .sentinel], laidTests := true, laidLooks := .later }
def CacheNumbersUptoCardSaid : Prop := Claim7.holds Tryz.pinned (.plain (OpenSpec.upto cacheNumbersSpec)) cacheNumbersUptoCard

/-- THE SECOND FORM's CARD OF 'escutcheonlaw21.CacheCas'. -/
def cacheCasUptoCard : Claim7 := { stood := { row := cacheCasUptoRow, standIns := [], harness := (true, "43e5ed6028d66ddb088656d33509ad2493be577e17f08de46b124fb1c0e7787e"), looks := true }, kinds := [], alts := [], laidByText := true, laidKinds := [.data, .data, .data, .sentinel, .sentinel], laidTests := true, laidLooks := .later }
def CacheCasUptoCardSaid : Prop := Claim7.holds Tryz.pinned (.plain (OpenSpec.upto cacheCasSpec)) cacheCasUptoCard

/-- THE SECOND FORM's CARD OF 'escutcheonlaw21.CacheThere'. -/
def cacheThereUptoCard : Claim7 := { stood := { row := cacheThereUptoRow, standIns := [], harness := (true, "43e5ed6028d66ddb088656d33509ad2493be577e17f08de46b124fb1c0e7787e"), looks := true }, kinds := [], alts := [], laidByText := true, laidKinds := [.data, .data, .data, .sentinel, .sentinel], laidTests := true, laidLooks := .later }
def CacheThereUptoCardSaid : Prop := Claim7.holds Tryz.pinned (.plain (OpenSpec.upto cacheThereSpec)) cacheThereUptoCard

/-- THE SECOND FORM's CARD OF 'escutcheonlaw21.CacheExpires'. -/
def cacheExpiresUptoCard : Claim7 := { stood := { row := cacheExpiresUptoRow, standIns := [], harness := (true, "43e5ed6028d66ddb088656d33509ad2493be577e17f08de46b124fb1c0e7787e"), looks := true }, kinds := [], alts := [], laidByText := true, laidKinds := [.data, .data, .data, .sentinel, .sentinel], laidTests := true, laidLooks := .later }
def CacheExpiresUptoCardSaid : Prop := Claim7.holds Tryz.pinned (.plain (OpenSpec.upto cacheExpiresSpec)) cacheExpiresUptoCard

/-- THE SECOND FORM's CARD OF 'escutcheonlaw21.CacheCounts'. -/
def cacheCountsUptoCard : Claim7 := { stood := { row := cacheCountsUptoRow, standIns := [], harness := (true, "43e5ed6028d66ddb088656d33509ad2493be577e17f08de46b124fb1c0e7787e"), looks := true }, kinds := [], alts := [], laidByText := true, laidKinds := [.data, .data, .data, .sentinel, .sentinel], laidTests := true, laidLooks := .later }
def CacheCountsUptoCardSaid : Prop := Claim7.holds Tryz.pinned (.plain (OpenSpec.upto cacheCountsSpec)) cacheCountsUptoCard

/-- THE SECOND FORM's CARD OF 'escutcheonlaw21.CacheScans'. -/
def cacheScansUptoCard : Claim7 := { stood := { row := cacheScansUptoRow, standIns := [], harness := (true, "43e5ed6028d66ddb088656d33509ad2493be577e17f08de46b124fb1c0e7787e"), looks := true }, kinds := [], alts := [], laidByText := true, laidKinds := [.data, .data, .data, .sentinel, .sentinel], laidTests := true, laidLooks := .later }
def CacheScansUptoCardSaid : Prop := Claim7.holds Tryz.pinned (.plain (OpenSpec.upto cacheScansSpec)) cacheScansUptoCard

/-- THE SECOND FORM's CARD OF 'escutcheonlaw21.CacheAppends'. -/
def cacheAppendsUptoCard : Claim7 := { stood := { row := cacheAppendsUptoRow, standIns := [], harness := (true, "43e5ed6028d66ddb088656d33509ad2493be577e17f08de46b124fb1c0e7787e"), looks := true }, kinds := [], alts := [], laidByText := true, laidKinds := [.data, .data, .data, .sentinel, .sentinel], laidTests := true, laidLooks := .later }
def CacheAppendsUptoCardSaid : Prop := Claim7.holds Tryz.pinned (.plain (OpenSpec.upto cacheAppendsSpec)) cacheAppendsUptoCard

/-- THE SECOND FORM's CARD OF 'escutcheonlaw21.CacheVersions'. -/
def cacheVersionsUptoCard : Claim7 := { stood := { row := cacheVersionsUptoRow, standIns := [], harness := (true, "43e5ed6028d66ddb088656d33509ad2493be577e17f08de46b124fb1c0e7787e"), looks := true }, kinds := [], alts := [], laidByText := true, laidKinds := [.data, .data, .data, .sentinel, .sentinel], laidTests := true, laidLooks := .later }
def CacheVersionsUptoCardSaid : Prop := Claim7.holds Tryz.pinned (.plain (OpenSpec.upto cacheVersionsSpec)) cacheVersionsUptoCard

/-- THE SECOND FORM's CARD OF 'escutcheonlaw21.CacheTicks'. -/
def cacheTicksUptoCard : Claim7 := { stood := { row := cacheTicksUptoRow, standIns := [], harness := (true, "43e5ed6028d66ddb088656d33509ad2493be577e17f08de46b124fb1c0e7787e"), looks := true }, kinds := [], alts := [], laidByText := true, laidKinds := [.data, .data, .data, .sentinel, .sentinel], laidTests := true, laidLooks := .later }
def CacheTicksUptoCardSaid : Prop := Claim7.holds Tryz.pinned (.plain (OpenSpec.upto cacheTicksSpec)) cacheTicksUptoCard

/-- THE SECOND FORM's CARD OF 'escutcheonlaw21.CacheDigits'. -/
def cacheDigitsUptoCard : Claim7 := { stood := { row := cacheDigitsUptoRow, standIns := [], harness := (true, "43e5ed6028d66ddb088656d33509ad2493be577e17f08de46b124fb1c0e7787e"), looks := true }, kinds := [], alts := [], laidByText := true, laidKinds := [.data, .data, .data, .sentinel, .sentinel], laidTests := true, laidLooks := .later }
def CacheDigitsUptoCardSaid : Prop := Claim7.holds Tryz.pinned (.plain (OpenSpec.upto cacheDigitsSpec)) cacheDigitsUptoCard

/-- THE SECOND FORM's CARD OF 'escutcheonlaw21.CacheFlushes'. -/
def cacheFlushesUptoCard : Claim7 := { stood := { row := cacheFlushesUptoRow, standIns := [], harness := (true, "43e5ed6028d66ddb088656d33509ad2493be577e17f08de46b124fb1c0e7787e"), looks := true }, kinds := [], alts := [], laidByText := true, laidKinds := [.data, .data, .data, .sentinel, .sentinel], laidTests := true, laidLooks := .later }
def CacheFlushesUptoCardSaid : Prop := Claim7.holds Tryz.pinned (.plain (OpenSpec.upto cacheFlushesSpec)) cacheFlushesUptoCard

/-- THE SECOND FORM's CARD OF 'escutcheonlaw21.CacheSweeps'. -/
def cacheSweepsUptoCard : Claim7 := { stood := { row := cacheSweepsUptoRow, standIns := [], harness := (true, "43e5ed6028d66ddb088656d33509ad2493be577e17f08de46b124fb1c0e7787e"), looks := true }, kinds := [], alts := [], laidByText := true, laidKinds := [.data, .data, .data, .sentinel, .sentinel], laidTests := true, laidLooks := .later }
def CacheSweepsUptoCardSaid : Prop := Claim7.holds Tryz.pinned (.plain (OpenSpec.upto cacheSweepsSpec)) cacheSweepsUptoCard

/-- THE SECOND FORM's CARD OF 'escutcheonlaw21.CacheBudget'. -/
def cacheBudgetUptoCard : Claim7 := { stood := { row := cacheBudgetUptoRow, standIns := [], harness := (true, "43e5ed6028d66ddb088656d33509ad2493be577e17f08de46b124fb1c0e7787e"), looks := true }, kinds := [], alts := [], laidByText := true, laidKinds := [.data, .data, .data, .sentinel, .sentinel], laidTests := true, laidLooks := .later }
def CacheBudgetUptoCardSaid : Prop := Claim7.holds Tryz.pinned (.plain (OpenSpec.upto cacheBudgetSpec)) cacheBudgetUptoCard

/-- THE SECOND FORM's CARD OF 'escutcheonlaw21.CacheUses'. -/
def cacheUsesUptoCard : Claim7 := { stood := { row := cacheUsesUptoRow, standIns := [], harness := (true, "43e5ed6028d66ddb088656d33509ad2493be577e17f08de46b124fb1c0e7787e"), looks := true }, kinds := [], alts := [], laidByText := true, laidKinds := [.data, .data, .data, .sentinel, .sentinel], laidTests := true, laidLooks := .later }
def CacheUsesUptoCardSaid : Prop := Claim7.holds Tryz.pinned (.plain (OpenSpec.upto cacheUsesSpec)) cacheUsesUptoCard

/-- THE SECOND FORM's CARD OF 'escutcheonlaw21.CacheErrs'. -/
def cacheErrsUptoCard : Claim7 := { stood := { row := cacheErrsUptoRow, standIns := [], harness := (true, "43e5ed6028d66ddb088656d33509ad2493be577e17f08de46b124fb1c0e7787e"), looks := true }, kinds := [], alts := [], laidByText := true, laidKinds := [.data, .data, .data, .sentinel, .sentinel], laidTests := true, laidLooks := .later }
def CacheErrsUptoCardSaid : Prop := Claim7.holds Tryz.pinned (.plain (OpenSpec.upto cacheErrsSpec)) cacheErrsUptoCard

/-- THE SECOND FORM's CARD OF 'escutcheonlaw21.CacheParts'. -/
def cachePartsUptoCard : Claim7 := { stood := { row := cachePartsUptoRow, standIns := [], harness := (true, "43e5ed6028d66ddb088656d33509ad2493be577e17f08de46b124fb1c0e7787e"), looks := true }, kinds := [], alts := [], laidByText := true, laidKinds := [.data, .data, .data, .sentinel, .sentinel], laidTests := true, laidLooks := .later }
def CachePartsUptoCardSaid : Prop := Claim7.holds Tryz.pinned (.plain (OpenSpec.upto cachePartsSpec)) cachePartsUptoCard

/-- THE SECOND FORM's CARD OF 'escutcheonlaw21.CachePlays'. -/
def cachePlaysUptoCard : Claim7 := { stood := { row := cachePlaysUptoRow, standIns := [], harness := (true, "43e5ed6028d66ddb088656d33509ad2493be577e17f08de46b124fb1c0e7787e"), looks := true }, kinds := [], alts := [], laidByText := true, laidKinds := [.data, .data, .data, .sentinel, .sentinel], laidTests := true, laidLooks := .later }
def CachePlaysUptoCardSaid : Prop := Claim7.holds Tryz.pinned (.plain (OpenSpec.upto cachePlaysSpec)) cachePlaysUptoCard

/-- THE SECOND FORM's CARD OF 'escutcheonlaw21.CacheEvicts'. -/
def cacheEvictsUptoCard : Claim7 := { stood := { row := cacheEvictsUptoRow, standIns := [], harness := (true, "43e5ed6028d66ddb088656d33509ad2493be577e17f08de46b124fb1c0e7787e"), looks := true }, kinds := [], alts := [], laidByText := true, laidKinds := [.data, .data, .data, .sentinel, .sentinel], laidTests := true, laidLooks := .later }
def CacheEvictsUptoCardSaid : Prop := Claim7.holds Tryz.pinned (.plain (OpenSpec.upto cacheEvictsSpec)) cacheEvictsUptoCard
end Rows
end Go.Proofs.YtehpafebpgndeaaGreatDoor
