/- The law SnapPieces is true of every input, and what came in reads as it did. Conditions: those of the card. -/
import Derived.Test.YtcpedibmacomcaaGreatDoorSRb

set_option maxRecDepth 100000
namespace Go.Proofs.YtcpedibmacomcaaGreatDoor
open Go Go.AE Go.ChangeShapes Go.RowKit Go.Proofs
theorem proved : Rows.SnapPiecesCardSaid :=
  Claim7.holds_tied_plain_at .later [] [.data, .data, .data, .data, .sentinel, .sentinel, .pinned] true (true, "75a5e4892427ba50fc9aed9f92f7f2e08c3ddec033dbcc10a16750f4fddf12f8") true
    row_holds (fun _ h => by cases h) (by kernel_rfl) (fun _ h => by cases h) snapPieces_row_tie rfl ⟨rfl, rfl⟩ (by kernel_rfl) rfl
    (fun f fn hf hfn => by
      obtain rfl : f = 3 := Option.some.inj ((show Tryz.prog.funcNamed "lagoon/lagoonlaw09.SnapPieces" = some 3 by kernel_rfl).symm.trans hf) |>.symm
      obtain rfl : fn = Tryz.f3 := (Option.some.inj (Tryz.func3.symm.trans hfn)).symm
      exact ⟨by kernel_rfl, fun j t ht => by
        rw [Tryz.params3] at ht
        have h3 : t = 22 ∨ t = 3 := by
          rcases j with _ | _ | j
          · exact .inl (by simpa using ht.symm)
          · exact .inr (by simpa using ht.symm)
          · simp at ht
        rcases h3 with rfl | rfl
        · exact (show Tryz.prog.wantsStandIn 22 = false by kernel_rfl)
        · exact (show Tryz.prog.wantsStandIn 3 = false by kernel_rfl)⟩)
    (by kernel_rfl)
#print axioms proved
end Go.Proofs.YtcpedibmacomcaaGreatDoor
