/- A part of the proof of SnapPieces. Conditions: those of the card. -/
import Derived.Test.YtcpedibmacomcaaGreatDoorAeD
import Derived.Handed
import Derived.ChangeSame
import Derived.ChangeStays
import Derived.ChangeAlike
import Derived.OpenShut
import Derived.ChangeSlices
import Derived.LaidSub
import Derived.MakeChecks

/- From a condition to a row: what came in reads as it did. -/
namespace Go.AE
noncomputable section
open Go.RowKit Go.ChangeShapes
section
variable {H : Type} {enc : TypeId × Value → H} {P : Program} {T : TypeId → Prop}
theorem sameAt_below {W W' : World} (hb : Below W.heap.size W W') {p : MemPlace} (hp : p.block < W.heap.size) : W.sameAt W' p := by
  cases p with
  | cell b o =>
    have := hb.block b hp
    show W'.cell? _ = W.cell? _
    unfold World.cell?
    simp only [this]
  | map b => exact hb.block b hp
theorem keptBut_below {W W' : World} (hb : Below W.heap.size W W') (may : MemPlace → Prop) : W.keptBut W' may := by
  refine ⟨hb.os, hb.output, fun i hi => ?_⟩
  rw [hb.block i hi]
  cases W.heap[i]? with
  | none => rfl
  | some o =>
    cases o with
    | cells c t fr => exact ⟨rfl, rfl, rfl, fun _ _ => rfl⟩
    | map es clock => exact .inr ⟨rfl, rfl⟩
    | _ => rfl
theorem trodAll_stays {W W' : World} (K : Kids P T) (hsz : ∀ {t e : TypeId}, T t → P.underlying t = some (.slice e) → 0 < P.cellsOf e) (sp : Nat → Bool) :
    ∀ {ts : List TypeId} {vs : List Value} {ds : List (DataW H)} {ps : List MemPlace}, (∀ t ∈ ts, T t) → DataW.TrodAll enc P W 0 (fun _ => true) true ts vs ds ps → (∀ p ∈ ps, W.sameAt W' p ∧ sp p.block = true) → DataW.TrodAll enc P W' 0 sp true ts vs ds ps
  | [], [], [], ps, _, h, _ => h
  | t :: ts, v :: vs, d :: ds, ps, hT, h, hp => by
    obtain ⟨p, q, ⟨fuel, h1⟩, h2, rfl⟩ := h
    refine ⟨p, q, ⟨fuel, DataW.trod_stays K hsz (fun e => by cases e) (hT t (by simp)) h1 (fun x hx => (hp x (by simp [hx])).1) fun x hx => (hp x (by simp [hx])).2⟩, ?_, rfl⟩
    exact trodAll_stays K hsz sp (fun t ht => hT t (by simp [ht])) h2 fun x hx => hp x (by simp [hx])
/-- The call changed nothing that was there; what came in reads as it did. -/
theorem post_below {f : Func} {s : ChangeSpec} {apart fresh handsOn : Bool} {W W' : World} {args : Array Value} {v : Value} {ds : List (DataW H)} {before : List MemPlace} (K : Kids P T) (hsz : ∀ {t e : TypeId}, T t → P.underlying t = some (.slice e) → 0 < P.cellsOf e) (hT : ∀ t ∈ f.params.toList, T t)
    (hW : DataW.Whole enc P f.params.toList s.vars apart W args.toList ds [] before) (hv : s.vars = []) (hb : Below W.heap.size W W')
    (hres : ∀ (b : Nat) (sp : Nat → Bool) (hd : Bool), DataW.TrodAll enc P W' b sp hd f.resultTypes.toList (v.resultList f.resultTypes.size) (s.fn H (ds ++ [])).results [])
    (hargs : (s.fn H (ds ++ [])).args = ds) (hvars : (s.fn H (ds ++ [])).vars = []) : s.post enc P f apart fresh handsOn false W args v W' := by
  obtain ⟨p, q, h1, h2, rfl, h4, h5⟩ := id hW
  have hq : q = [] := by
    rw [hv] at h2
    exact h2
  subst hq
  have hlt := hW.lt
  refine ⟨ds, [], p ++ [], [], p, [], hW, hres _ _ _, ?_, ?_, keptBut_below hb _, fun h => by cases h⟩
  · rw [hargs]
    refine trodAll_stays K hsz _ hT h1 fun x hx => ?_
    have hl : x.block < W.heap.size := hlt x (by simp [hx])
    exact ⟨sameAt_below hb hl, by simpa using hl⟩
  · rw [hvars, hv]; rfl
/-- A condition, run. -/
theorem CallW.calls {f : FuncId} {as args : List Value} {gl : List (Nat × List Value)} {W : World} (hc : CallW P f as (.start gl) fun v _ => v = .bool true) (hg : GL W gl) (ha : AR (fun _ => none) as.toArray args.toArray) :
    Calls P f args.toArray W fun e W' => e = .returned (.bool true) ∧ Below W.heap.size W W' := by
  refine callsIn_wide.1 ((hc.out W _ W _ (WR.start hg) ha 0).mono ?_)
  rintro e w' ⟨v', rfl, v, h', β', hv, h2, h3, h4⟩
  subst hv
  cases h3
  exact ⟨rfl, h4.below⟩
end
end
end Go.AE

/- What came in, as elder memory. -/
namespace Go.AE
noncomputable section
open Go.RowKit
/-- A cell that we do not know. -/
def hole : Value := .pointer (some ⟨0, 0, some 1⟩)
/-- n cells, of which those from o on are known. -/
def window (n o : Nat) (vs : List Value) : List Value := (List.range n).map fun i => if o ≤ i ∧ i < o + vs.length then vs.getD (i - o) undef else hole
theorem window_length (n o : Nat) (vs : List Value) : (window n o vs).length = n := by simp [window]
theorem window_getD {n o : Nat} {vs : List Value} {i : Nat} (hi : i < n) : (window n o vs).getD i undef = if o ≤ i ∧ i < o + vs.length then vs.getD (i - o) undef else hole := by
  simp [window, List.getD_eq_getElem?_getD, hi]
theorem window_take {n o : Nat} {vs : List Value} (h : o + vs.length ≤ n) : ((window n o vs).drop o).take vs.length = vs := by
  refine List.ext_getElem? fun i => ?_
  rw [List.getElem?_take]
  by_cases hi : i < vs.length
  · rw [if_pos hi, List.getElem?_drop]
    have h1 := window_getD (vs := vs) (o := o) (show o + i < n by omega)
    rw [if_pos ⟨by omega, by omega⟩, Nat.add_sub_cancel_left, List.getD_eq_getElem?_getD, List.getD_eq_getElem?_getD, List.getElem?_eq_getElem hi, List.getElem?_eq_getElem (by rw [window_length]; omega)] at h1
    rw [List.getElem?_eq_getElem hi, List.getElem?_eq_getElem (by rw [window_length]; omega)]
    simpa using h1
  · rw [if_neg hi, List.getElem?_eq_none (by omega)]
theorem GL.cons {W : World} {gl : List (Nat × List Value)} {g : Nat} {c : List Value} (hg : GL W gl) (h : ∃ C e fr, W.heap[g]? = some (.cells C e fr) ∧ C.size = c.length ∧ ∀ i, i < c.length → known (c.getD i undef) = true → ∀ β : Inj, VR β (c.getD i undef) (C.getD i undef)) : GL W ((g, c) :: gl) := by
  intro g' c' hc
  have e : assoc ((g, c) :: gl) g' = bif Nat.beq g g' then some c else assoc gl g' := rfl
  rw [e] at hc
  cases hb : Nat.beq g g' with
  | true =>
    rw [hb] at hc
    cases hc
    have : g = g' := Nat.eq_of_beq_eq_true hb
    subst this; exact h
  | false => rw [hb] at hc; exact hg g' c' hc
/-- A window on a block whose cells from o on hold plain values. -/
theorem GL.window {W : World} {gl : List (Nat × List Value)} {g o : Nat} {vs : List Value} (hg : GL W gl) (hgr : vs.all (ground 8) = true) (h0 : 0 < vs.length) (h : ∀ i, i < vs.length → W.cell? ⟨g, o + i, none⟩ = some (vs.getD i undef)) :
    ∃ n, o + vs.length ≤ n ∧ GL W ((g, window n o vs) :: gl) := by
  have hb : ∃ C e fr, W.heap[g]? = some (.cells C e fr) := by
    have := h 0 h0
    unfold World.cell? at this
    split at this
    · rename_i C e fr hc; exact ⟨C, e, fr, hc⟩
    · cases this
  obtain ⟨C, e, fr, hC⟩ := hb
  have hcell : ∀ i, i < vs.length → C[o + i]? = some (vs.getD i undef) := fun i hi => by
    have := h i hi
    simpa [World.cell?, hC] using this
  refine ⟨C.size, ?_, hg.cons ⟨C, e, fr, hC, (window_length _ _ _).symm, fun i hi hk β => ?_⟩⟩
  · have := (Array.getElem?_eq_some_iff.1 (hcell (vs.length - 1) (by omega))).1
    omega
  · rw [window_length] at hi
    rw [window_getD hi] at hk ⊢
    by_cases hr : o ≤ i ∧ i < o + vs.length
    · rw [if_pos hr]
      have e1 := hcell (i - o) (by omega)
      rw [show o + (i - o) = i by omega] at e1
      have e2 : C.getD i undef = vs.getD (i - o) undef := by rw [Array.getD_eq_getD_getElem?, e1]; rfl
      have e3 : ∀ u, C.getD i undef = u → VR β u u → VR β u (C.getD i undef) := fun u e h => by rw [e]; exact h
      refine e3 _ e2 ?_
      refine refl_ground β 8 _ ?_
      have hlt : i - o < vs.length := by omega
      rw [List.getD_eq_getElem?_getD, List.getElem?_eq_getElem hlt]
      exact List.all_eq_true.1 hgr _ (List.getElem_mem hlt)
    · rw [if_neg hr] at hk
      cases hk
end
end Go.AE

/- Tables of numbers; slices of bytes that came in. -/
namespace Go.AE
noncomputable section
open Go.RowKit Go.ChangeShapes Go.WideShapes
section
variable {H : Type} {enc : TypeId × Value → H} {P : Program} {W : World} {base : Nat} {sp : Nat → Bool} {held : Bool} {fuel : Nat} {t e : TypeId} {cs : List Value} {x : DataW H × List MemPlace}
theorem table_cells {n : Nat} {k : IntKind} {ns : List Int} (ht : P.underlying t = some (.array n e)) (he : P.underlying e = some (.int k)) (hc : P.cellsOf e = 1) (hct : P.cellsOf t = n) (h : DataW.trod enc P W base sp held fuel t cs = some x) (hx : x.1 = .agg (ns.map fun n => .lit (.int k n))) :
    cs = ns.map fun n => .int k n := by
  obtain ⟨xs, m, rfl, rfl, hl, hn, hel⟩ := DataW.trod_array ht h
  simp only [DataW.agg.injEq] at hx
  have hnl : ns.length = n := by have := congrArg List.length hx; simp at this; omega
  refine List.ext_getElem (by simp; omega) fun i h1 h2 => ?_
  have hi : i < n := by omega
  have h3 := hel i hi
  rw [hc, Nat.mul_one, List.getElem?_eq_getElem (by omega)] at h3
  obtain ⟨z, e1, e2, _⟩ := DataW.trod_int he h3
  have h4 : (xs.map (·.1))[i]'(by simp; omega) = .lit (.int k z) := by rw [List.getElem_map, e2]
  have h5 : (xs.map (·.1))[i]'(by simp; omega) = (ns.map fun n => (.lit (.int k n) : DataW H))[i]'(by simp; omega) := by simp only [hx]
  rw [h4, List.getElem_map] at h5
  have h6 : z = ns[i]'(by omega) := by simpa using h5
  have h7 : ((cs.drop i).take 1)[0]? = cs[i]? := by rw [List.getElem?_take, if_pos (by omega), List.getElem?_drop, Nat.add_zero]
  rw [e1, List.getElem?_eq_getElem h1] at h7
  have h8 : cs[i] = .int k z := by simpa using h7.symm
  rw [h8, List.getElem_map, h6]
/-- A slice of bytes that came in. -/
theorem open_bytes {b0 : Nat} {v : Value} {d : DataW H} {ps : List MemPlace} (ht : P.underlying t = some (.slice e)) (he : P.underlying e = some (.int .u8)) (hc : P.cellsOf e = 1) (hval : Value.okWide P W .any b0 t v) (hd : DataW.Trod enc P W 0 (fun _ => true) true t v d ps)
    {gl : List (Nat × List Value)} (hgl : GL W gl) (hno : ∀ g c, assoc gl g = some c → ∀ o n, W.cell? ⟨g, o, none⟩ ≠ some (.int .u8 n)) :
    ∃ (p : Option Addr) (l c : Nat) (xs : List UInt8) (gl' : List (Nat × List Value)), VR (fun _ => none) (.slice p l c) v ∧ GL W gl' ∧ (∀ g c, assoc gl g = some c → assoc gl' g = some c) ∧ Sl (.start gl') 1 p l (bv xs) := by
  obtain ⟨a1, len, cap, rfl⟩ := okWide_slice ht hval
  obtain ⟨fuel, hf⟩ := hd
  rcases open_ints ht he hc hf with ⟨hcs, hx⟩ | ⟨a, len', cap', zs, hcs, _, hl, hm, hz, hx, hcell, hwz⟩
  · simp [Value.cells] at hcs
    obtain ⟨rfl, rfl, rfl⟩ := hcs
    exact ⟨none, 0, 0, [], gl, .nils 0 0, hgl, fun _ _ h => h, Sl.nil⟩
  · simp [Value.cells] at hcs
    obtain ⟨rfl, rfl, rfl⟩ := hcs
    simp only [if_true] at hz
    by_cases h0 : cap = 0
    · subst h0
      have : len = 0 := by omega
      subst this
      exact ⟨some a, 0, 0, [], gl, .slz a a, hgl, fun _ _ h => h, Sl.nil⟩
    · obtain ⟨ab, ao, spot⟩ := a
      have hspot : spot = none := by simpa [Addr.add] using World.cell?_spot (hcell 0 (by omega))
      subst hspot
      have hrange : ∀ j, j < zs.length → 0 ≤ zs.getD j 0 ∧ zs.getD j 0 < 256 := fun j hj => by
        have hm : zs.getD j 0 ∈ zs := by rw [List.getD_eq_getElem?_getD, List.getElem?_eq_getElem hj]; exact List.getElem_mem hj
        have := hwz _ hm
        generalize zs.getD j 0 = z at *
        simp only [Lit.wf, Bool.and_eq_true, decide_eq_true_eq] at this
        simp only [IntKind.min, IntKind.max, IntKind.bits, IntKind.signed] at this
        simp at this
        omega
      have hbyte : ∀ j, j < zs.length → ((UInt8.ofNat (zs.getD j 0).toNat).toNat : Int) = zs.getD j 0 := fun j hj => by
        have := hrange j hj
        rw [UInt8.toNat_ofNat']
        omega
      generalize hys : zs.map (fun n => UInt8.ofNat n.toNat) = ys
      have hyl : ys.length = cap := by rw [← hys]; simp [hz]
      have hyg : ∀ j, j < zs.length → (bv ys).getD j undef = .int .u8 (zs.getD j 0) := fun j hj => by
        rw [← hbyte j hj, ← hys]
        simp [bv, List.getD_eq_getElem?_getD, hj]
      have hcell' : ∀ i, i < (bv ys).length → W.cell? ⟨ab, ao + i, none⟩ = some ((bv ys).getD i undef) := fun i hi => by
        rw [bv_length] at hi
        have := hcell i (by omega)
        rw [Addr.add_lit] at this
        rw [this, hyg i (by omega)]
      have hgr : (bv ys).all (ground 8) = true := by
        rw [List.all_eq_true]
        intro u hu
        simp only [bv, List.mem_map] at hu
        obtain ⟨b, _, rfl⟩ := hu
        rfl
      obtain ⟨n, hn, hG⟩ := hgl.window hgr (by rw [bv_length]; omega) hcell'
      have hne : assoc gl ab = none := by
        cases hq : assoc gl ab with
        | none => rfl
        | some c =>
          have := hcell' 0 (by rw [bv_length]; omega)
          rw [hyg 0 (by omega)] at this
          exact absurd this (hno ab c hq _ _)
      have hself : assoc ((ab, window n ao (bv ys)) :: gl) ab = some (window n ao (bv ys)) := by
        show (bif Nat.beq ab ab then some (window n ao (bv ys)) else assoc gl ab) = _
        rw [Nat.beq_refl]; rfl
      refine ⟨some ⟨ab, ao, some 0⟩, len, cap, ys.take len, _, .osl ab ao len cap, hG, fun g c hg => ?_, ?_⟩
      · show (bif Nat.beq ab g then _ else assoc gl g) = _
        cases hb : Nat.beq ab g with
        | true =>
          have : ab = g := Nat.eq_of_beq_eq_true hb
          subst this
          rw [hne] at hg; cases hg
        | false => exact hg
      · refine ⟨by rw [bv_length, List.length_take]; omega, fun _ => ⟨_, _, rfl, .inr ⟨rfl, hself, ?_⟩, ?_, ?_⟩⟩
        · rw [List.all_eq_true]
          intro u hu
          simp only [bv, List.mem_map] at hu
          obtain ⟨b, _, rfl⟩ := hu
          rfl
        · rw [window_length]; show ao + len * 1 ≤ n; rw [bv_length] at hn; omega
        · rw [Nat.mul_one, ← bv_take]
          have := window_take (n := n) (o := ao) (vs := bv ys) hn
          have h2 := congrArg (List.take len) this
          rw [List.take_take, show min len (bv ys).length = len by rw [bv_length]; omega] at h2
          exact h2
end
end
end Go.AE
