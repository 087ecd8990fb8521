/- A part of the proof of SnapPieces. Conditions: those of the card. -/
import Derived.Test.YtcpedibmacomcaaGreatDoorSQ
import Derived.Test.YtcpedibmacomcaaGreatDoorSL
import Derived.Test.YtcpedibmacomcaaGreatDoorAeR
import Derived.LaidMore
import Derived.ProofKit
import Derived.Stop.Joined
import Derived.LaidLaws
import Derived.LaidHandle
import Derived.Test.YtcpedibmacomcaaGreatDoorCards
import Derived.Test.YtcpedibmacomcaaGreatDoorTie

set_option maxRecDepth 100000
namespace Go.Proofs.YtcpedibmacomcaaGreatDoor
open Go Go.AE Go.ChangeShapes Go.RowKit Go.Proofs
theorem own : ownKnob Tryz.prog.godebug = none := by kernel_rfl
noncomputable def firstCells : Array Value := (Go.Pinned.utf8FirstZ.map fun n => Value.int .u8 (n : Nat)).toArray
/-- A world that meets the conditions. -/
noncomputable def doorW (os : Os) : World :=
  let w0 := World.doorLaid Tryz.prog 400 os
  { w0 with heap := w0.heap.modify 1 fun
      | .cells _ t fr => .cells firstCells t fr
      | o => o }
theorem door_met (os : Os) (args : Array Value) : laidMetH Tryz.prog Rows.snapPiecesRow.laid ((doorW os).forCall (fun _ _ => 0) ⟨#[], args, []⟩).memory :=
  laidMetH_of_parts3 (fuel := 8) (laidMet_of_run' 8 (by kernel_rfl) (by kernel_rfl)) (by kernel_rfl) (by kernel_rfl)
theorem und356 : Tryz.prog.underlying 356 = some (.array 20 (match Tryz.prog.underlying 356 with | some (.array _ e) => e | _ => 0)) := by kernel_rfl
/-- The table that numbers are printed by, as the condition has it. -/
theorem table {W : World} (h : laidMetH Tryz.prog Rows.snapPiecesRow.laid W) : GL W [(3, Tryz.p10)] ∧ ∀ o n, W.cell? ⟨3, o, none⟩ ≠ some (.int .u8 n) := by
  have h1 := h.filter fun x => x.1 == "internal/strconv.uint64pow10"
  have e : (Rows.snapPiecesRow.laid.filter fun x => x.1 == "internal/strconv.uint64pow10") = [("internal/strconv.uint64pow10", Rows.laid_internal_strconv_uint64pow10)] := by kernel_rfl
  rw [e, MakeChecks.laidMetH_plain _ _ _ (by kernel_rfl)] at h1
  obtain ⟨ps, ⟨g0, t0, cs0, f0, p0, q0, hg0, ht0, hv0, hd0, _, _⟩, _, _⟩ := h1
  obtain rfl := Option.some.inj ((show Tryz.prog.globalNamed "internal/strconv.uint64pow10" = some 3 by kernel_rfl).symm.trans hg0)
  obtain rfl := Option.some.inj ((show (Tryz.prog.globals[3]?).map (·.type) = some 356 by kernel_rfl).symm.trans ht0)
  have hc := table_cells (ns := [1, 10, 100, 1000, 10000, 100000, 1000000, 10000000, 100000000, 1000000000, 10000000000, 100000000000, 1000000000000, 10000000000000, 100000000000000, 1000000000000000, 10000000000000000, 100000000000000000, 1000000000000000000, 10000000000000000000]) (k := .u64) und356 (by kernel_rfl) (by kernel_rfl) (by kernel_rfl) hd0 rfl
  have hW : ∃ e fr, W.heap[3]? = some (.cells cs0 e fr) := by
    have h2 := hv0
    unfold World.var? at h2
    rw [hg0] at h2
    simp only [Option.bind_some] at h2
    split at h2
    · rename_i c e fr hq; cases h2; exact ⟨e, fr, hq⟩
    · cases h2
  obtain ⟨e, fr, hW⟩ := hW
  have hl : cs0.toList = Tryz.p10 := hc
  refine ⟨GL.of_ground fun g c hg => ?_, fun o n hcell => ?_⟩
  · have e1 : assoc [(3, Tryz.p10)] g = bif Nat.beq 3 g then some Tryz.p10 else none := rfl
    rw [e1] at hg
    cases hb : Nat.beq 3 g with
    | true =>
      rw [hb] at hg
      cases hg
      have : 3 = g := Nat.eq_of_beq_eq_true hb
      subst this
      exact ⟨by kernel_rfl, cs0, e, fr, hW, hl⟩
    | false => rw [hb] at hg; cases hg
  · have h2 : cs0[o]? = some (.int .u8 n) := by simpa [World.cell?, hW] using hcell
    have h3 : cs0.toList[o]? = some (.int .u8 n) := by rw [Array.getElem?_toList]; exact h2
    rw [hl] at h3
    have h4 := List.mem_of_getElem? h3
    simp [Tryz.p10] at h4
/-- The types that the arguments are read by. -/
theorem kids : Kids Tryz.prog (fun t => t = 22 ∨ t = 5 ∨ t = 3) := by
  have u22 := Tryz.und22
  have u5 := Tryz.und5
  have u3 : Tryz.prog.underlying 3 = some (.int .i64) := by kernel_rfl
  refine ⟨?_, ?_, ?_, ?_, ?_⟩
  · rintro t e (rfl | rfl | rfl) h
    · rw [u22] at h; cases h
    · rw [u5] at h; cases h
    · rw [u3] at h; cases h
  · rintro t e (rfl | rfl | rfl) h
    · rw [u22] at h; cases h; exact .inr (.inl rfl)
    · rw [u5] at h; cases h
    · rw [u3] at h; cases h
  · rintro t e n (rfl | rfl | rfl) h
    · rw [u22] at h; cases h
    · rw [u5] at h; cases h
    · rw [u3] at h; cases h
  · rintro t fs (rfl | rfl | rfl) h
    · rw [u22] at h; cases h
    · rw [u5] at h; cases h
    · rw [u3] at h; cases h
  · rintro t k e (rfl | rfl | rfl) h
    · rw [u22] at h; cases h
    · rw [u5] at h; cases h
    · rw [u3] at h; cases h
theorem kidsz {t e : TypeId} (ht : t = 22 ∨ t = 5 ∨ t = 3) (hu : Tryz.prog.underlying t = some (.slice e)) : 0 < Tryz.prog.cellsOf e := by
  have u3 : Tryz.prog.underlying 3 = some (.int .i64) := by kernel_rfl
  have c5 : Tryz.prog.cellsOf 5 = 1 := by kernel_rfl
  rcases ht with rfl | rfl | rfl
  · rw [Tryz.und22] at hu; cases hu; rw [c5]; exact Nat.one_pos
  · rw [Tryz.und5] at hu; cases hu
  · rw [u3] at hu; cases hu
theorem parT (t : TypeId) (ht : t ∈ Tryz.f3.params.toList) : t = 22 ∨ t = 5 ∨ t = 3 := by
  rw [Tryz.params3] at ht
  simp at ht
  rcases ht with rfl | rfl
  · exact .inl rfl
  · exact .inr (.inr rfl)
theorem und4 : Tryz.prog.underlying 4 = some .bool := by kernel_rfl
theorem lifted (os : Os) (started : os.Started) (H : Type) (enc : TypeId × Value → H) :
    ReturnsInHanded {} Tryz.checked os 3 .any (fun w args => (Rows.snapPiecesSpec.pre enc Tryz.prog Tryz.f3 [] false w args ∧ laidMetH Tryz.prog Rows.snapPiecesRow.laid w) ∧ sizedMet enc Tryz.prog Tryz.f3 (OpenSpec.ofChange Rows.snapPiecesSpec) false w args)
      (Rows.snapPiecesSpec.post enc Tryz.prog Tryz.f3 false true false false) := by
  refine returnsInHanded_of_change_and (C := Tryz.checked) (X := fun w _ => laidMetH Tryz.prog Rows.snapPiecesRow.laid w) (fun _ _ _ hh h => h.of_heap hh) own started (by kernel_rfl) Tryz.func3
    (ChangeSpec.witness_shaped (enc := enc) (C := Tryz.checked) (os := os) (X := fun w _ => laidMetH Tryz.prog Rows.snapPiecesRow.laid w) false (doorW os) #[.slice none 0 0, .int .i64 0] 8 rfl (World.shaped_of_RefB (by kernel_rfl) (by kernel_rfl)) (by kernel_rfl) (by kernel_rfl) (by kernel_rfl) (door_met os _)) ?_
  intro W base args ds gs before hval0 hW _ _ hL _
  have hval : ∀ (j : Nat) t v, Tryz.f3.params[j]? = some t → args[j]? = some v → Value.okWide Tryz.prog W .any base t v := hval0
  have hW' := hW
  obtain ⟨p, q, hA0, hV, rfl, hfz, hnd⟩ := hW
  have hA : DataW.TrodAll enc Tryz.prog W 0 (fun _ => true) true Tryz.f3.params.toList args.toList ds p := hA0
  rw [Tryz.params3] at hA hval
  obtain ⟨v0, v1, d0, d1, p0, p1, rfl, rfl, rfl, h0, h1⟩ := trodAll_two hA
  obtain ⟨rfl, rfl⟩ := trodVars_none hV
  obtain ⟨n, rfl, rfl, rfl, hwn⟩ := open_int (by kernel_rfl : Tryz.prog.underlying 3 = some (.int .i64)) (hval 1 3 v1 rfl rfl) h1
  obtain ⟨hg, hno⟩ := table hL
  obtain ⟨pp, l, c, xs, gl', hv, hG, hext, hs⟩ := AE.open_bytes Tryz.und22 Tryz.und5 (by kernel_rfl) (hval 0 22 v0 rfl rfl) h0 hg (fun g c hgc o n hcell => by
    have e1 : assoc [(3, Tryz.p10)] g = bif Nat.beq 3 g then some Tryz.p10 else none := rfl
    rw [e1] at hgc
    cases hb : Nat.beq 3 g with
    | true =>
      have : 3 = g := Nat.eq_of_beq_eq_true hb
      subst this
      exact hno o n hcell
    | false => rw [hb] at hgc; cases hgc)
  have hcall : CallW Tryz.prog 3 [.slice pp l c, .int .i64 n] (.start gl') fun v _ => v = .bool true :=
    CallW.wf fun hw => Tryz.snapPieces (fun hq => Tryz.lives hq) hw hs rfl (hext 3 _ rfl) fun _ => rfl
  refine (CallW.calls hcall hG (args := [v0, .int .i64 n]) ⟨rfl, fun i hi => ?_⟩).mono fun e W' ⟨he, hb⟩ => ?_
  · have hi : i < 2 := hi
    match i, hi with
    | 0, _ => exact hv
    | 1, _ => exact .int _ _
  · subst he
    exact ⟨_, rfl, post_below kids kidsz parT hW' rfl hb (fun _ _ _ => trodAll_mk1 (shut_bool und4 true)) rfl rfl⟩
end Go.Proofs.YtcpedibmacomcaaGreatDoor
