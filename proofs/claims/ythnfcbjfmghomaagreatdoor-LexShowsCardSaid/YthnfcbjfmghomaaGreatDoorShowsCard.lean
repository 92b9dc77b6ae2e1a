/- LexShows: the card. -/
import Derived.Test.YthnfcbjfmghomaaGreatDoorShowsSaid
namespace Go.Proofs.YthnfcbjfmghomaaGreatDoor.lexShows
open Go
theorem proved : Rows.LexShowsCardSaid :=
  Claim7.holds_tied_plain_at .later [] [.data, .data, .data, .data, .sentinel, .sentinel, .pinned] true (true, "1aee64e4ff26ab53d6b8f53bd1fa86ff12e6bddb3cd3cb3ac9447a5dcdf4e31f") true
    row_holds (fun _ h => by cases h) (by kernel_rfl) (fun _ h => by cases h) lexShows_row_tie rfl ⟨rfl, rfl⟩ (by kernel_rfl) rfl
    (fun f fn hf hfn => by
      obtain rfl : f = 5 := Option.some.inj ((show Tryz.prog.funcNamed "pandect/pandectlaw06.LexShows" = some 5 by kernel_rfl).symm.trans hf) |>.symm
      obtain rfl : fn = Tryz.f5 := (Option.some.inj (Tryz.func5.symm.trans hfn)).symm
      exact ⟨by kernel_rfl, fun j t ht => by
        rw [params] at ht
        have h3 : t = 24 := by
          rcases j with _ | j
          · simpa using ht.symm
          · simp at ht
        subst h3
        exact (show Tryz.prog.wantsStandIn 24 = false by kernel_rfl)⟩)
    (by kernel_rfl)
end Go.Proofs.YthnfcbjfmghomaaGreatDoor.lexShows
