/- A part of the proof of SnapPieces. Conditions: those of the card. -/
import Derived.Test.YtcpedibmacomcaaGreatDoorAeF
import Derived.Test.YtcpedibmacomcaaGreatDoorAeD
import Derived.Test.YtcpedibmacomcaaGreatDoorSG

namespace Go.Proofs.Tryz
open Go Go.AE
theorem livesF : allAre (.bool true) ((evF prog 5000).call 5 [] .empty) = true := by kernel_rfl
theorem livesE : allAre (.bool true) ((ev prog 5000).call 5 [] (.start [])) = true := by
  have h := livesF
  rw [evF_eq] at h
  exact h
theorem lives {h : AH} {Q : Value → AH → Prop} (hQ : Q (.bool true) h) : CallW prog 5 [] h Q :=
  CallW.of_ev noNum 5000 livesE rfl rfl (fun g c e => by cases e) hQ
end Go.Proofs.Tryz
