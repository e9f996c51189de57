/-
  DERIVED. GIVEN WITH THE SEED: THE CARDS: each row of YtcfebjekigcolaaDoorRows.lean that lists a variable, with what it lists TIED to the program's text (the seventh form; the later family's looks); each row that meets fmt, with fmt's text TOLD by the authors' own Lean function (tested against real Go, not proved from fmt's source: count such statements apart). THE CARD IS WHAT COUNTS. Prove the row's statement (the work); the ties are given (YtcfebjekigcolaaDoorTie.lean); close each card by the builder's one call (the guide's Derived/Test/ToyasCard.lean, 'card_holds'). Laid BY PROGRAM, IN A SANDBOX (cutbox-door.mjs). By AI agents, Wed Nov 11 2026. No macro, syntax, notation, axiom, sorry.
-/
import Derived.Test.YtcfebjekigcolaaDoorRows
import GoSem.ClaimSeven
namespace Go.Proofs.YtcfebjekigcolaaDoor
namespace Rows

/-- THE TIED CARD OF 'monikerlaw14.EvalShows'. -/
def evalShowsCard : Claim7 := { stood := { row := evalShowsRow, standIns := [], harness := (true, "5e235b5b2b50adfd07fea9aaa6baf734e9403bdb4dc3e64d400024bfd2934782"), looks := false }, kinds := [], alts := [], laidByText := true, laidKinds := [.data, .data, .data, .data, .pinned], laidTests := true, laidLooks := .later }
def EvalShowsCardSaid : Prop := Claim7.holds Tryd.pinned (.plain (OpenSpec.ofChange evalShowsSpec)) evalShowsCard

/-- THE SECOND FORM's CARD OF 'monikerlaw14.EvalShows'. -/
def evalShowsUptoCard : Claim7 := { stood := { row := evalShowsUptoRow, standIns := [], harness := (true, "5e235b5b2b50adfd07fea9aaa6baf734e9403bdb4dc3e64d400024bfd2934782"), looks := false }, kinds := [], alts := [], laidByText := true, laidKinds := [.data, .data, .data, .data, .pinned], laidTests := true, laidLooks := .later }
def EvalShowsUptoCardSaid : Prop := Claim7.holds Tryd.pinned (.plain (OpenSpec.upto evalShowsSpec)) evalShowsUptoCard
end Rows
end Go.Proofs.YtcfebjekigcolaaDoor
