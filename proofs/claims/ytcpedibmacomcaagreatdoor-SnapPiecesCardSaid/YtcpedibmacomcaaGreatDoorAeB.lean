/- A part of the proof of SnapPieces. Conditions: those of the card. -/
import Derived.Test.YtcpedibmacomcaaGreatDoorAeA

/- append and copy. -/
namespace Go.AE
noncomputable section
open Go.RowKit

section
variable {P : Program} {w0 w : World} {β : Inj} {h : AH}

def alenOf : Value → Option Nat
  | .slice _ n _ => some n
  | .string s => some s.data.size
  | _ => none
theorem alenOf_run {x x' : Value} {n : Nat} (hx : VR β x x') (hn : alenOf x = some n) : (Builtin.lenOf x').run P w = .ok n w := by
  cases hx <;> simp only [alenOf, Option.some.injEq, reduceCtorEq] at hn <;> subst hn <;> rfl

def asrc (h : AH) (size n : Nat) (x : Value) : Option (List Value) :=
  match n with
  | 0 => some []
  | n + 1 =>
    match x with
    | .slice (some ⟨b, o, none⟩) _ _ => (match h.get b with | some (.row c _ _) => if o + (n + 1) * size ≤ c.length then some ((c.drop o).take ((n + 1) * size)) else none | _ => none)
    | .string s => if size = 1 ∧ n + 1 ≤ s.data.size then some ((s.data.toList.take (n + 1)).map fun b => .int .u8 b.toNat) else none
    | _ => none

theorem asrc_sound {size n : Nat} {x x' : Value} {l : List Value} (hw : WR w0 β h w) (hx : VR β x x') (hsh : ∃ m, alenOf x = some m ∧ n ≤ m) (hs : asrc h size n x = some l) :
    ∃ N, (Builtin.firstCells size n x').run P w = .ok N w ∧ AR β l.toArray N ∧ l.length = n * size := by
  unfold asrc at hs
  cases n with
  | zero =>
    simp only [Option.some.injEq] at hs
    subst hs
    refine ⟨#[], ?_, ⟨rfl, fun i hi => absurd hi (Nat.not_lt_zero i)⟩, by simp⟩
    obtain ⟨m, hsh, _⟩ := hsh
    cases hx <;> simp only [alenOf, reduceCtorEq] at hsh
    · simp [Builtin.firstCells]
    · rfl
    · simp [Builtin.firstCells, loadCells, loadCellsFrom]
    · simp [Builtin.firstCells, loadCells, loadCellsFrom]
    · simp [Builtin.firstCells, loadCells, loadCellsFrom]
  | succ n =>
    simp only at hs
    split at hs
    · rename_i b o len cap
      split at hs
      · rename_i c z lo hb
        split at hs
        · rename_i hle
          cases hs
          obtain ⟨L, C, e, fr, k1, k2, hl, hz, hC, _, _, hc, _⟩ := hw.row hb
          have hlen : ((c.drop o).take ((n + 1) * size)).length = (n + 1) * size := by simp; omega
          cases hx with
          | slz a a' =>
            obtain ⟨m, h1, h2⟩ := hsh
            cases h1; omega
          | sl b o len c' s M hM hs' =>
            rw [k1] at hM; cases hM
            refine ⟨C.extract (L.off + o) (L.off + o + (n + 1) * size), ?_, ⟨?_, fun i hi => ?_⟩, hlen⟩
            · simp only [Builtin.firstCells]
              exact run_loadCells k2 _ _ (by omega)
            · simp; omega
            · have hi' : i < (n + 1) * size := by simpa [hlen] using hi
              rw [getD_takeDrop _ _ _ _ hi', getD_extract _ _ _ _ hi' (by omega), Nat.add_assoc]
              exact hc _ (by omega)
        · cases hs
      · cases hs
    · rename_i s
      split at hs
      · rename_i hc
        cases hs
        cases hx
        refine ⟨(s.extract 0 (n + 1)).data.map fun b => .int .u8 b.toNat, by simp [Builtin.firstCells], ?_, by rw [hc.1, List.length_map, List.length_take, Nat.mul_one]; have : s.data.toList.length = s.data.size := Array.length_toList; omega⟩
        have hd : (s.extract 0 (n + 1)).data.map (fun b => Value.int .u8 b.toNat) = ((s.data.toList.take (n + 1)).map fun b => Value.int .u8 b.toNat).toArray := by
          apply Array.ext'
          simp
        rw [hd]
        refine ⟨rfl, fun i hi => ?_⟩
        have hi' : i < ((s.data.toList.take (n + 1)).map fun b => Value.int .u8 b.toNat).length := by simpa using hi
        rw [toArray_getD, List.getD_eq_getElem?_getD, List.getElem?_eq_getElem hi']
        simp only [List.getElem_map, Option.getD_some]
        exact .int _ _
      · cases hs
    · cases hs

def isIntD : TypeDesc → Bool
  | .int _ => true
  | _ => false

theorem run_fresh {t0 t1 ty e : TypeId} {d1 : TypeDesc} {i : TypeInfo} {z s' x' : Value} {base : Option Addr} {sLen sCap n : Nat} {O N : Array Value} (ht0 : P.underlying t0 = some (.slice e)) (ht1 : P.underlying t1 = some d1)
    (hd1 : isIntD d1 = false) (hi : P.info? e = some i) (hz : i.zero = some z) (hs : s' = .slice base sLen sCap) (hn : (Builtin.lenOf x').run P w = .ok n w)
    (hg : sCap < sLen + n) (hbig : sLen + n ≤ 1000000) (hfit : (sLen + n) * i.bytes ≤ 140737488355328)
    (hO : (Builtin.firstCells i.size sLen s').run P w.drew = .ok O w.drew) (hN : (Builtin.firstCells i.size n x').run P w.drew = .ok N w.drew) :
    (Builtin.append_ #[t0, t1] ty #[s', x']).run P w = .ok (.slice (some ⟨w.heap.size, 0, none⟩) (sLen + n) (grownCap w (sLen + n) sCap e))
      (w.drew.alloc (.cells (O ++ N ++ Builtin.zeroCells z.cells (grownCap w (sLen + n) sCap e - (sLen + n))) e)) := by
  subst hs
  have h1 : ¬ (sLen + n ≤ sCap) := by omega
  have h2 : ¬ (9223372036854775807 < ((sLen : Int) + (n : Int))) := by omega
  have h3 : ¬ (281474976710656 < Builtin.nextslicecap (sLen + n) sCap * i.bytes) := by have := growslice_fits (by omega) hfit; omega
  cases d1 <;> first
    | (simp [isIntD] at hd1; done)
    | (simp [Builtin.append_, run_underlying ht0, run_underlying ht1, run_sizeOf hi, run_typeInfo hi, run_zero hi hz, hn, h1, h2, h3, Question.forced, hO, hN, newRow, grownCap, Result.andThen]; rfl)

theorem run_room {t0 t1 ty e : TypeId} {d1 : TypeDesc} {i : TypeInfo} {x' : Value} {base : Option Addr} {sLen sCap n : Nat} {N : Array Value} {w1 : World} (ht0 : P.underlying t0 = some (.slice e)) (ht1 : P.underlying t1 = some d1)
    (hd1 : isIntD d1 = false) (hi : P.info? e = some i) (hn : (Builtin.lenOf x').run P w = .ok n w) (hg : sLen + n ≤ sCap)
    (hN : (Builtin.firstCells i.size n x').run P w = .ok N w) (hst : ∀ a, base = some a → (storeCells (a.add (sLen * i.size)) N.toList).run P w = .ok () w1) (hnone : base = none → w1 = w) :
    (Builtin.append_ #[t0, t1] ty #[.slice base sLen sCap, x']).run P w = .ok (.slice base (sLen + n) sCap) w1 := by
  cases base with
  | none =>
    rw [hnone rfl]
    cases d1 <;> first
      | (simp [isIntD] at hd1; done)
      | (simp [Builtin.append_, run_underlying ht0, run_underlying ht1, run_sizeOf hi, run_typeInfo hi, hn, hg, hN, Result.andThen])
  | some a =>
    have := hst a rfl
    cases d1 <;> first
      | (simp [isIntD] at hd1; done)
      | (simp [Builtin.append_, run_underlying ht0, run_underlying ht1, run_sizeOf hi, run_typeInfo hi, hn, hg, hN, this, Result.andThen])

def aappend (P : Program) (h : AH) (t0 t1 : TypeId) (s x : Value) : Option (Value × AH) :=
  match P.underlying t0, P.underlying t1, s, alenOf x with
  | some (.slice e), some d1, .slice base sLen sCap, some n =>
    if isIntD d1 then none else
    match P.info? e with
    | some i => (match i.zero with
      | some z =>
        if 0 < i.size ∧ z.cells.size = i.size ∧ (sLen + n) * i.bytes ≤ 140737488355328 ∧ sLen + n ≤ 1000000 ∧ sLen ≤ sCap then
          (match asrc h i.size n x with
          | none => none
          | some news =>
            if oneCells news then
              (if n = 0 then some (.slice base sLen sCap, h) else
              match base with
              | none => if sLen = 0 ∧ sCap = 0 then some (.slice (some ⟨h.next, 0, none⟩) n n, h.new (.row news i.size true)) else none
              | some ⟨b, o, none⟩ =>
                (match h.get b with
                 | some (.row c zz lo) =>
                   if o + sCap * i.size ≤ c.length ∧ zz = i.size then
                     (if sLen + n ≤ sCap then some (.slice (some ⟨b, o, none⟩) (sLen + n) sCap, h.put b (.row (lsplice c (o + sLen * i.size) news) zz lo))
                      else some (.slice (some ⟨h.next, 0, none⟩) (sLen + n) (sLen + n),
                        (if lo && o + sCap * i.size == c.length then h.put b .gone else h).new (.row ((c.drop o).take (sLen * i.size) ++ news) i.size true)))
                   else none
                 | _ => none)
              | _ => none)
            else none)
        else none
      | none => none)
    | none => none
  | _, _, _, _ => none

theorem zeroCells_size (z : Array Value) (n : Nat) : (Builtin.zeroCells z n).size = n * z.size := by simp [Builtin.zeroCells]

theorem append_rel {c : List Value} {O N C : Array Value} {l : List Value} (h1 : AR β c.toArray O) (h2 : AR β l.toArray N) (i : Nat) (hi : i < (c ++ l).length) : VR β ((c ++ l).getD i undef) ((O ++ N ++ C).getD i undef) := by
  have s1 : c.length = O.size := by have := h1.1; simpa using this
  have s2 : l.length = N.size := by have := h2.1; simpa using this
  rw [List.length_append] at hi
  rw [List.getD_eq_getElem?_getD, Array.getD_eq_getD_getElem?, Array.append_assoc]
  by_cases hc : i < c.length
  · rw [List.getElem?_append_left hc, Array.getElem?_append_left (by omega)]
    have := h1.2 i (by simpa using hc)
    rwa [toArray_getD, List.getD_eq_getElem?_getD, Array.getD_eq_getD_getElem?] at this
  · rw [List.getElem?_append_right (by omega), Array.getElem?_append_right (by omega), Array.getElem?_append_left (by omega)]
    have := h2.2 (i - c.length) (by simp; omega)
    rw [toArray_getD, List.getD_eq_getElem?_getD, Array.getD_eq_getD_getElem?] at this
    rw [← s1]; exact this

/-- A new array behind a growing append. -/
theorem fresh_row {O N : Array Value} {c l : List Value} {e : TypeId} {z : Value} {size need cap : Nat} {h1 : AH} (hw : WR w0 β h1 w.drew) (hO : AR β c.toArray O) (hN : AR β l.toArray N) (hz : z.cells.size = size) (hs : 0 < size)
    (hlen : (c ++ l).length = need * size) (hcap : need ≤ cap) :
    ∃ β', Inj.le β β' ∧ VR β' (.slice (some ⟨h1.next, 0, none⟩) need need) (.slice (some ⟨w.heap.size, 0, none⟩) need cap) ∧
      WR w0 β' (h1.new (.row (c ++ l) size true)) (w.drew.alloc (.cells (O ++ N ++ Builtin.zeroCells z.cells (cap - need)) e)) := by
  have s1 : c.length = O.size := by have := hO.1; simpa using this
  have s2 : l.length = N.size := by have := hN.1; simpa using this
  obtain ⟨β', k1, k2, k3⟩ := loose_new (e := e) (fr := (0, 0)) (z := size) (x := (cap - need) * size) (c := c ++ l) (C := O ++ N ++ Builtin.zeroCells z.cells (cap - need)) hw
    (by rw [Array.size_append, Array.size_append, zeroCells_size, hz, List.length_append]; omega) (.inl rfl) (append_rel hO hN)
  refine ⟨β', k1, ?_, k3⟩
  have hdrew : w.drew.heap.size = w.heap.size := rfl
  have := VR.sl (β := β') h1.next 0 need need (cap - need) _ k2 (.inr ⟨by simp only [Nat.zero_add]; exact hlen.symm, Nat.le_refl _, hs⟩)
  rw [show need + (cap - need) = cap by omega] at this
  simpa [hdrew] using this

theorem aappend_sound {t0 t1 ty : TypeId} {s s' x x' v : Value} {h' : AH} (hw : WR w0 β h w) (hs : VR β s s') (hx : VR β x x') (hv : aappend P h t0 t1 s x = some (v, h')) :
    VOK P w0 β (Builtin.append_ #[t0, t1] ty #[s', x']) w v h' := by
  unfold aappend at hv
  split at hv
  · rename_i e d1 base sLen sCap n ht0 ht1 hlen
    split at hv
    · cases hv
    · rename_i hd1
      have hd1 : isIntD d1 = false := by simpa using hd1
      split at hv
      · rename_i i hi
        split at hv
        · rename_i z hz
          split at hv
          · rename_i hcond
            obtain ⟨c1, c2, c3, c4, c5⟩ := hcond
            split at hv
            · cases hv
            · rename_i news hsrc
              split at hv
              · rename_i hone
                have hn := fun (W : World) => alenOf_run (P := P) (w := W) hx hlen
                obtain ⟨N, hN, hNr, hNl⟩ := asrc_sound (P := P) hw hx ⟨n, hlen, Nat.le_refl _⟩ hsrc
                have hdw : WR w0 β h w.drew := hw.drew
                obtain ⟨N2, hN2, hNr2, _⟩ := asrc_sound (P := P) hdw hx ⟨n, hlen, Nat.le_refl _⟩ hsrc
                have hcapge : ∀ k, sLen + n ≤ grownCap w (sLen + n) k e := fun k => by unfold grownCap; show sLen + n ≤ sLen + n + _; omega
                split at hv
                · rename_i hn0
                  cases hv
                  subst hn0
                  have hNe : N = #[] := by
                    have := hNr.1
                    apply Array.eq_empty_of_size_eq_zero
                    simp at hNl this
                    omega
                  subst hNe
                  cases hs with
                  | nils l c =>
                    refine ⟨.slice none sLen sCap, w, β, run_room ht0 ht1 hd1 hi (hn w) (by omega) hN (fun a ha => by cases ha) (fun _ => rfl), Inj.le.refl _, .nils _ _, hw⟩
                  | slz a a' =>
                    exact ⟨.slice (some a') 0 0, w, β, run_room ht0 ht1 hd1 hi (hn w) (by omega) hN (fun a ha => by simp [storeCells]) (fun _ => rfl), Inj.le.refl _, .slz _ _, hw⟩
                  | osl g o l c =>
                    exact ⟨.slice (some ⟨g, o, none⟩) sLen sCap, w, β, run_room ht0 ht1 hd1 hi (hn w) (by omega) hN (fun a ha => by simp [storeCells]) (fun _ => rfl), Inj.le.refl _, .osl _ _ _ _, hw⟩
                  | sl b o l c s L hL hsl =>
                    exact ⟨.slice (some ⟨L.blk, L.off + o, none⟩) sLen (sCap + s), w, β, run_room ht0 ht1 hd1 hi (hn w) (by omega) hN (fun a ha => by simp [storeCells]) (fun _ => rfl), Inj.le.refl _, .sl _ _ _ _ _ _ hL hsl, hw⟩
                · rename_i hn0
                  split at hv
                  · split at hv
                    · rename_i hzero
                      obtain ⟨rfl, rfl⟩ := hzero
                      cases hv
                      cases hs
                      have hrun := run_fresh (ty := ty) ht0 ht1 hd1 hi hz rfl (hn w) (show 0 < 0 + n by omega) (by omega) (by simpa using c3) (O := #[]) (by simp [Builtin.firstCells]) hN2 (base := none)
                      obtain ⟨β', k1, k2, k3⟩ := fresh_row (e := e) (z := z) (size := i.size) (need := 0 + n) (cap := grownCap w (0 + n) 0 e) (c := []) (l := news) hdw ⟨rfl, fun i hi => absurd hi (Nat.not_lt_zero i)⟩ hNr2 c2 c1 (by simpa using hNl) (hcapge 0)
                      refine ⟨_, _, β', hrun, k1, ?_, ?_⟩
                      · simpa using k2
                      · simpa using k3
                    · cases hv
                  · rename_i b o
                    split at hv
                    · rename_i c zz lo hrow
                      split at hv
                      · rename_i hfit
                        obtain ⟨f1, f2⟩ := hfit
                        subst f2
                        obtain ⟨L, C, e', fr, k1, k2, hl, hez, hC, hxt, hfr, hc, hbase⟩ := hw.row hrow
                        split at hv
                        · rename_i hroom
                          cases hv
                          cases hs with
                          | slz a a' => omega
                          | sl b o l c' s M hM hsl =>
                            rw [k1] at hM; cases hM
                            have hle : sLen * i.size + n * i.size ≤ sCap * i.size := by rw [← Nat.add_mul]; exact Nat.mul_le_mul_right _ hroom
                            obtain ⟨w1, hst, hw1⟩ := store_row (P := P) (o := o + sLen * i.size) (l := news) (a' := N) hw hrow k1 hNr (by omega) hone
                            refine ⟨.slice (some ⟨L.blk, L.off + o, none⟩) (sLen + n) (sCap + s), w1, β, ?_, Inj.le.refl _, .sl _ _ _ _ _ _ k1 hsl, hw1⟩
                            refine run_room ht0 ht1 hd1 hi (hn w) (by omega) hN (fun a ha => ?_) (fun ha => by cases ha)
                            cases ha
                            rw [add_none, Nat.add_assoc]; exact hst
                        · rename_i hroom
                          simp only [Option.some.injEq, Prod.mk.injEq] at hv
                          obtain ⟨hv1, hv2⟩ := hv
                          subst hv1 hv2
                          -- the elder cells
                          have hOlen : ((c.drop o).take (sLen * i.size)).length = sLen * i.size := by
                            have : sLen * i.size ≤ sCap * i.size := Nat.mul_le_mul_right _ c5
                            simp; omega
                          have hle : sLen * i.size ≤ sCap * i.size := Nat.mul_le_mul_right _ c5
                          have hOr : AR β ((c.drop o).take (sLen * i.size)).toArray (C.extract (L.off + o) (L.off + o + sLen * i.size)) := by
                            refine ⟨by simp; omega, fun j hj => ?_⟩
                            have hj' : j < sLen * i.size := by rw [← hOlen]; simpa using hj
                            rw [getD_takeDrop _ _ _ _ hj', getD_extract _ _ _ _ hj' (by omega), Nat.add_assoc]
                            exact hc _ (by omega)
                          have hdrop : WR w0 β (if lo && o + sCap * i.size == c.length then h.put b .gone else h) w.drew := by
                            split
                            · exact hdw.drop b (hw.lt hrow)
                            · exact hdw
                          have hnext : (if lo && o + sCap * i.size == c.length then h.put b .gone else h).next = h.next := by split <;> rfl
                          have hnl : ((c.drop o).take (sLen * i.size) ++ news).length = (sLen + n) * i.size := by rw [List.length_append, hOlen, hNl, Nat.add_mul]
                          -- a new array
                          have fresh : ∀ (s'' : Value) (cap' : Nat) (O : Array Value) (bs : Option Addr), s'' = .slice bs sLen cap' → cap' < sLen + n → (Builtin.firstCells i.size sLen s'').run P w.drew = .ok O w.drew → AR β ((c.drop o).take (sLen * i.size)).toArray O →
                              VOK P w0 β (Builtin.append_ #[t0, t1] ty #[s'', x']) w (.slice (some ⟨h.next, 0, none⟩) (sLen + n) (sLen + n))
                                ((if lo && o + sCap * i.size == c.length then h.put b .gone else h).new (.row ((c.drop o).take (sLen * i.size) ++ news) i.size true)) := by
                            intro s'' cap' O bs e1 e2 e3 e4
                            have hrun := run_fresh (ty := ty) ht0 ht1 hd1 hi hz e1 (hn w) e2 c4 c3 e3 hN2
                            obtain ⟨β', q1, q2, q3⟩ := fresh_row (e := e) (z := z) (size := i.size) (need := sLen + n) (cap := grownCap w (sLen + n) cap' e) (c := (c.drop o).take (sLen * i.size)) (l := news) hdrop e4 hNr2 c2 c1 hnl (hcapge cap')
                            rw [hnext] at q2
                            exact ⟨_, _, β', hrun, q1, q2, q3⟩
                          cases hs with
                          | slz a a' =>
                            refine fresh (.slice (some a') 0 0) 0 #[] (some a') rfl (by omega) (by simp [Builtin.firstCells, loadCells, loadCellsFrom]) ?_
                            exact ⟨by simp, fun j hj => by simp at hj⟩
                          | sl b o l c' s M hM hsl =>
                            rw [k1] at hM; cases hM
                            have hfc : (Builtin.firstCells i.size sLen (.slice (some ⟨L.blk, L.off + o, none⟩) sLen (sCap + s))).run P w.drew = .ok (C.extract (L.off + o) (L.off + o + sLen * i.size)) w.drew := by
                              simp only [Builtin.firstCells]
                              exact run_loadCells (w := w.drew) k2 _ _ (by omega)
                            by_cases hin : sLen + n ≤ sCap + s
                            · -- in place: the spare room is taken
                              have hs0 : ¬ s = 0 := by omega
                              rcases hsl with hsl | ⟨g1, g2, g3⟩
                              · exact absurd hsl hs0
                              · have hlo : lo = true := by
                                  cases hl2 : lo with
                                  | true => rfl
                                  | false =>
                                    have := hxt hl2
                                    have : 0 < s * L.esz := Nat.mul_pos (by omega) g3
                                    omega
                                rw [hez] at g1 g2
                                have hgone : (if lo && o + sCap * i.size == c.length then h.put b .gone else h) = h.put b .gone := by
                                  rw [if_pos]; simp [hlo]; omega
                                rw [hgone]
                                have hsum : (sLen + n) * i.size ≤ (sCap + s) * i.size := Nat.mul_le_mul_right _ hin
                                rw [Nat.add_mul sCap s] at hsum
                                have hsp : sLen * i.size + n * i.size = (sLen + n) * i.size := (Nat.add_mul _ _ _).symm
                                have hNs : N.toList.length = n * i.size := by have := hNr.1; simp at this ⊢; omega
                                have hst := run_storeCells (P := P) N.toList 0 w L.blk (L.off + o + sLen * i.size) C e' fr k2 (hfr.imp Nat.le_of_eq id) (by omega) (hNr.oneCells (by simpa using hone))
                                have hO' : OR (β.add h.next ⟨L.blk, L.off + o, (sLen + n) * i.size, i.size, C.size - (L.off + o) - (sLen + n) * i.size⟩)
                                    ⟨L.blk, L.off + o, (sLen + n) * i.size, i.size, C.size - (L.off + o) - (sLen + n) * i.size⟩ (.row ((c.drop o).take (sLen * i.size) ++ news) i.size true)
                                    (.cells (splice C (L.off + o + sLen * i.size + 0) N.toList) e' fr) := by
                                  refine .row _ _ true _ e' fr hnl.symm rfl (by rw [splice_size]; show C.size = L.off + o + (sLen + n) * i.size + (C.size - (L.off + o) - (sLen + n) * i.size); omega) (fun hh => by cases hh) (by rw [splice_size]; exact hfr) fun j hj => ?_
                                  have hle' : Inj.le β (β.add h.next ⟨L.blk, L.off + o, (sLen + n) * i.size, i.size, C.size - (L.off + o) - (sLen + n) * i.size⟩) := Inj.add_le (hw.fresh _ (Nat.le_refl _))
                                  refine VR.mono hle' ?_
                                  rw [hnl] at hj
                                  show VR β (((c.drop o).take (sLen * i.size) ++ news).getD j undef) ((splice C (L.off + o + sLen * i.size + 0) N.toList).getD (L.off + o + j) undef)
                                  rw [splice_getD _ _ _ (by omega), hNs, List.getD_eq_getElem?_getD]
                                  by_cases hj1 : j < sLen * i.size
                                  · rw [if_neg (by omega), List.getElem?_append_left (by omega)]
                                    have := hOr.2 j (by simp; omega)
                                    rw [getD_extract _ _ _ _ hj1 (by omega), toArray_getD, List.getD_eq_getElem?_getD] at this
                                    exact this
                                  · rw [if_pos (by omega), List.getElem?_append_right (by omega), hOlen]
                                    have := hNr.2 (j - sLen * i.size) (by simp; omega)
                                    rw [toArray_getD, List.getD_eq_getElem?_getD] at this
                                    rw [show L.off + o + j - (L.off + o + sLen * i.size + 0) = j - sLen * i.size by omega, ← toArray_getD N.toList]
                                    simpa using this
                                obtain ⟨r1, r2⟩ := hw.reuse hrow k1 (L' := ⟨L.blk, L.off + o, (sLen + n) * i.size, i.size, C.size - (L.off + o) - (sLen + n) * i.size⟩) rfl hO'
                                refine ⟨.slice (some ⟨L.blk, L.off + o, none⟩) (sLen + n) (sCap + s), _, _, run_room ht0 ht1 hd1 hi (hn w) (by omega) hN (fun a ha => ?_) (fun ha => by cases ha), r2, ?_, r1⟩
                                · cases ha
                                  rw [add_none]; exact hst
                                · have := VR.sl (β := β.add h.next ⟨L.blk, L.off + o, (sLen + n) * i.size, i.size, C.size - (L.off + o) - (sLen + n) * i.size⟩) h.next 0 (sLen + n) (sLen + n) (sCap + s - (sLen + n)) _ Inj.add_at
                                    (.inr ⟨by simp, by
                                      show (sCap + s - (sLen + n)) * i.size ≤ C.size - (L.off + o) - (sLen + n) * i.size
                                      rw [Nat.sub_mul, Nat.add_mul sCap s]; omega, c1⟩)
                                  rw [show sLen + n + (sCap + s - (sLen + n)) = sCap + s by omega] at this
                                  simpa using this
                            · exact fresh _ (sCap + s) _ (some ⟨L.blk, L.off + o, none⟩) rfl (by omega) hfc hOr
                      · cases hv
                    · cases hv
                  · cases hv
              · cases hv
          · cases hv
        · cases hv
      · cases hv
  · cases hv
end
end
end Go.AE

/- copy; maps. -/
namespace Go.AE
noncomputable section
open Go.RowKit

section
variable {P : Program} {w0 w : World} {β : Inj} {h : AH}

def acopy (P : Program) (h : AH) (t0 : TypeId) (dst src : Value) : Option (Value × AH) :=
  match P.underlying t0, dst, alenOf src with
  | some (.slice e), .slice base dLen _, some m =>
    (match P.info? e with
     | some i =>
       (match asrc h i.size (Nat.min m dLen) src with
        | none => none
        | some l =>
          if oneCells l then
            (if Nat.min m dLen = 0 then some (goInt 0, h) else
            match base with
            | some ⟨b, o, none⟩ =>
              (match h.get b with
               | some (.row c z lo) => if o + Nat.min m dLen * i.size ≤ c.length then some (goInt (Nat.min m dLen), h.put b (.row (lsplice c o l) z lo)) else none
               | _ => none)
            | _ => none)
          else none)
     | none => none)
  | _, _, _ => none
theorem acopy_sound {t0 t1 ty : TypeId} {s s' x x' v : Value} {h' : AH} (hw : WR w0 β h w) (hs : VR β s s') (hx : VR β x x') (hv : acopy P h t0 s x = some (v, h')) :
    VOK P w0 β (Builtin.copy_ #[t0, t1] ty #[s', x']) w v h' := by
  unfold acopy at hv
  split at hv
  · rename_i e base dLen dCap m ht0 hlen
    split at hv
    · rename_i i hi
      split at hv
      · cases hv
      · rename_i l hsrc
        split at hv
        · rename_i hone
          have hn := alenOf_run (P := P) (w := w) hx hlen
          obtain ⟨N, hN, hNr, hNl⟩ := asrc_sound (P := P) (n := Nat.min m dLen) hw hx ⟨m, hlen, Nat.min_le_left m dLen⟩ hsrc
          split at hv
          · rename_i h0
            cases hv
            rw [h0] at hN hNl
            have hNe : N = #[] := by
              have h1 := hNr.1
              have h2 : l.length = 0 := by rw [hNl, Nat.zero_mul]
              apply Array.eq_empty_of_size_eq_zero
              rw [← h1]; simpa using h2
            subst hNe
            have hmin : Nat.min m dLen = 0 := h0
            cases hs with
            | nils _ _ => exact ⟨goInt 0, w, β, by simp [Builtin.copy_, run_underlying ht0, hn, Result.andThen, run_sizeOf hi, hmin, hN], Inj.le.refl _, .int _ _, hw⟩
            | slz a a' => exact ⟨goInt 0, w, β, by simp [Builtin.copy_, run_underlying ht0, hn, Result.andThen, run_sizeOf hi, hmin, hN, storeCells], Inj.le.refl _, .int _ _, hw⟩
            | osl g o _ _ => exact ⟨goInt 0, w, β, by simp [Builtin.copy_, run_underlying ht0, hn, Result.andThen, run_sizeOf hi, hmin, hN, storeCells], Inj.le.refl _, .int _ _, hw⟩
            | sl b o _ _ s L hL hsl => exact ⟨goInt 0, w, β, by simp [Builtin.copy_, run_underlying ht0, hn, Result.andThen, run_sizeOf hi, hmin, hN, storeCells], Inj.le.refl _, .int _ _, hw⟩
          · rename_i h0
            split at hv
            · rename_i b o
              split at hv
              · rename_i c z lo hb
                split at hv
                · rename_i hle
                  cases hv
                  cases hs with
                  | slz a a' => exact absurd (Nat.min_zero _) h0
                  | sl b o l' c' s L hL hsl =>
                    obtain ⟨w', hst, hw'⟩ := store_row (P := P) (o := o) (l := l) (a' := N) hw hb hL hNr (by omega) hone
                    refine ⟨goInt (Nat.min m dLen), w', β, ?_, Inj.le.refl _, .int _ _, hw'⟩
                    simp [Builtin.copy_, run_underlying ht0, hn, Result.andThen, run_sizeOf hi, hN, hst]
                · cases hv
              · cases hv
            · cases hv
        · cases hv
    · cases hv
  · cases hv

/-! ### maps -/
def fIdx (kind : TypeDesc) (k : Value) : List Ent → Nat → Option (Option Nat)
  | [], _ => some none
  | e :: es, i => match Instr.sameNow kind k e.key with
    | some true => some (some i)
    | some false => fIdx kind k es (i + 1)
    | none => none
def gIdx (P : Program) (kt : TypeId) (k : Value) : List Ent → Nat → Option (Option Nat)
  | [], _ => some none
  | e :: es, i => match look P (Op.equal kt k e.key) with
    | some true => some (some i)
    | some false => gIdx P kt k es (i + 1)
    | none => none
def aIdx (P : Program) (kt : TypeId) (k : Value) (es : List Ent) : Option (Option Nat) :=
  match P.underlying kt with
  | none => none
  | some kind => match fIdx kind k es 0 with
    | some r => some r
    | none => gIdx P kt k es 0

/-- Entries, one by one. -/
inductive EsR (β : Inj) : List Ent → List MapEntry → Prop
  | nil : EsR β [] []
  | cons {e : Ent} {E : MapEntry} {l : List Ent} {L : List MapEntry} (h : entR β e E) (t : EsR β l L) : EsR β (e :: l) (E :: L)
theorem EsR.of {es : List Ent} {ES : List MapEntry} (hs : ES.length = es.length) (he : ∀ (i : Nat) (e : Ent) (E : MapEntry), es[i]? = some e → ES[i]? = some E → entR β e E) : EsR β es ES := by
  induction es generalizing ES with
  | nil => cases ES with
    | nil => exact .nil
    | cons _ _ => simp at hs
  | cons e r ih => cases ES with
    | nil => simp at hs
    | cons E R => exact .cons (he 0 e E rfl rfl) (ih (by simpa using hs) fun i e' E' h1 h2 => he (i + 1) e' E' (by simpa using h1) (by simpa using h2))
theorem EsR.length {es : List Ent} {ES : List MapEntry} (h : EsR β es ES) : ES.length = es.length := by
  induction h with
  | nil => rfl
  | cons _ _ ih => simp [ih]
theorem EsR.get {es : List Ent} {ES : List MapEntry} (h : EsR β es ES) : ∀ (i : Nat) (e : Ent), es[i]? = some e → ∃ E, ES[i]? = some E ∧ entR β e E := by
  induction h with
  | nil => intro i e hi; simp at hi
  | cons he _ ih =>
    intro i e hi
    cases i with
    | zero => simp at hi; subst hi; exact ⟨_, rfl, he⟩
    | succ i => simpa using ih i e (by simpa using hi)
theorem EsR.get' {es : List Ent} {ES : List MapEntry} (h : EsR β es ES) (i : Nat) (e : Ent) (E : MapEntry) (h1 : es[i]? = some e) (h2 : ES[i]? = some E) : entR β e E := by
  obtain ⟨E', h3, h4⟩ := h.get i e h1
  rw [h2] at h3; cases h3; exact h4

theorem EsR.isEmpty {es : List Ent} {ES : Array MapEntry} (h : EsR β es ES.toList) : ES.isEmpty = es.isEmpty := by
  have := h.length
  cases es with
  | nil => simp at this; simp [this]
  | cons e r =>
    have h2 : ES.size ≠ 0 := by simp at this; omega
    simp [Array.isEmpty, h2]
theorem fIdx_rel (kind : TypeDesc) (k : Value) {es : List Ent} {ES : List MapEntry} (h : EsR β es ES) : ∀ i,
    (fIdx kind k es i = none → Instr.findNow kind k ES i = none) ∧ (fIdx kind k es i = some none → Instr.findNow kind k ES i = some none) ∧
    (∀ j, fIdx kind k es i = some (some j) → i ≤ j ∧ j < i + es.length ∧ ∃ E, ES[j - i]? = some E ∧ Instr.findNow kind k ES i = some (some (j, E.val))) := by
  induction h with
  | nil => intro i; refine ⟨fun h => by simp [fIdx] at h, fun _ => rfl, fun j hj => by simp [fIdx] at hj⟩
  | @cons e E l L he t ih =>
    intro i
    have hk : E.key = e.key := he.2.1
    obtain ⟨i1, i2, i3⟩ := ih (i + 1)
    simp only [fIdx, Instr.findNow, hk]
    cases hs : Instr.sameNow kind k e.key with
    | none => simp
    | some b =>
      cases b with
      | true =>
        refine ⟨fun h => by simp at h, fun h => by simp at h, fun j hj => ?_⟩
        simp at hj; subst hj
        exact ⟨Nat.le_refl _, by simp, E, by simp, by simp⟩
      | false =>
        refine ⟨fun h => by simpa using i1 (by simpa using h), fun h => by simpa using i2 (by simpa using h), fun j hj => ?_⟩
        obtain ⟨q1, q2, E', q3, q4⟩ := i3 j (by simpa using hj)
        refine ⟨by omega, by simp; omega, E', ?_, by simpa using q4⟩
        obtain ⟨m, hm⟩ : ∃ m, j - i = m + 1 := ⟨j - i - 1, by omega⟩
        rw [hm]
        rw [show j - (i + 1) = m by omega] at q3
        simpa using q3
theorem gIdx_rel (kt : TypeId) (k : Value) {es : List Ent} {ES : List MapEntry} (h : EsR β es ES) : ∀ i,
    (gIdx P kt k es i = some none → (Instr.findAsking kt k ES i).run P w = .ok none w) ∧
    (∀ j, gIdx P kt k es i = some (some j) → i ≤ j ∧ j < i + es.length ∧ ∃ E, ES[j - i]? = some E ∧ (Instr.findAsking kt k ES i).run P w = .ok (some (j, E.val)) w) := by
  induction h with
  | nil => intro i; refine ⟨fun _ => rfl, fun j hj => by simp [gIdx] at hj⟩
  | @cons e E l L he t ih =>
    intro i
    have hk : E.key = e.key := he.2.1
    obtain ⟨i2, i3⟩ := ih (i + 1)
    simp only [gIdx, Instr.findAsking, hk]
    cases hs : look P (Op.equal kt k e.key) with
    | none => simp
    | some b =>
      have hr := look_run _ hs w
      cases b with
      | true =>
        refine ⟨fun h => by simp at h, fun j hj => ?_⟩
        simp at hj; subst hj
        exact ⟨Nat.le_refl _, by simp, E, by simp, by simp [hr, Result.andThen]⟩
      | false =>
        refine ⟨fun h => by simpa [hr, Result.andThen] using i2 (by simpa using h), fun j hj => ?_⟩
        obtain ⟨q1, q2, E', q3, q4⟩ := i3 j (by simpa using hj)
        refine ⟨by omega, by simp; omega, E', ?_, by simpa [hr, Result.andThen] using q4⟩
        obtain ⟨m, hm⟩ : ∃ m, j - i = m + 1 := ⟨j - i - 1, by omega⟩
        rw [hm]
        rw [show j - (i + 1) = m by omega] at q3
        simpa using q3
theorem aIdx_run {kt : TypeId} {k : Value} {es : List Ent} {ES : List MapEntry} (h : EsR β es ES) {r : Option Nat} (hr : aIdx P kt k es = some r) :
    match r with
    | none => (Instr.findKey kt k ES).run P w = .ok none w
    | some j => j < es.length ∧ ∃ E, ES[j]? = some E ∧ (Instr.findKey kt k ES).run P w = .ok (some (j, E.val)) w := by
  unfold aIdx at hr
  split at hr
  · cases hr
  · rename_i kind hk
    obtain ⟨i1, i2, i3⟩ := fIdx_rel kind k h 0
    obtain ⟨g2, g3⟩ := gIdx_rel (P := P) (w := w) kt k h 0
    split at hr
    · rename_i r' hf
      cases hr
      cases r with
      | none => simp [Instr.findKey, run_underlying hk, Result.andThen, i2 hf]
      | some j =>
        obtain ⟨q1, q2, E, q3, q4⟩ := i3 j hf
        refine ⟨by simpa using q2, E, by simpa using q3, by simp [Instr.findKey, run_underlying hk, Result.andThen, q4]⟩
    · rename_i hf
      have hn := i1 hf
      cases r with
      | none => simp [Instr.findKey, run_underlying hk, Result.andThen, hn, g2 hr]
      | some j =>
        obtain ⟨q1, q2, E, q3, q4⟩ := g3 j hr
        refine ⟨by simpa using q2, E, by simpa using q3, by simp [Instr.findKey, run_underlying hk, Result.andThen, hn, q4]⟩

theorem WR.map {b : Nat} {es : List Ent} {ck : Nat} (hw : WR w0 β h w) (hb : h.get b = some (.map es ck)) :
    ∃ (L : Loc) (ES : Array MapEntry), β b = some L ∧ w.heap[L.blk]? = some (.map ES ck) ∧ EsR β es ES.toList := by
  obtain ⟨L, O, h1, h2, h3, h4⟩ := hw.obj b _ hb
  cases h3 with
  | map es ck ES hs he => exact ⟨L, ES, h1, h2, EsR.of (by simpa using hs) fun i e E a b => he i e E a (by simpa using b)⟩
theorem OR.ofEs {L : Loc} {es : List Ent} {ES : Array MapEntry} (ck : Nat) (h : EsR β es ES.toList) : OR β L (.map es ck) (.map ES ck) :=
  .map es ck ES (by simpa using h.length) fun i e E h1 h2 => h.get' i e E h1 (by simpa using h2)

def alookup (P : Program) (h : AH) (t : TypeId) (x k : Value) (ok : Bool) : Option Value :=
  match P.underlying t with
  | some (.map kt et) =>
    (match P.info? et with
     | some i => (match i.zero with
       | some z =>
         if ground 8 k && ground 8 z then
           (match (match x with
               | .map none => some []
               | .map (some r) => (match h.get r with | some (.map es _) => some es | _ => none)
               | _ => none) with
            | some es =>
              (match look P (Instr.checkKey es.isEmpty 10000 kt k), aIdx P kt k es with
               | some _, some none => some (if ok then .tuple #[z, .bool false] else z)
               | some _, some (some j) => (match es[j]? with | some e => some (if ok then .tuple #[e.val, .bool true] else e.val) | none => none)
               | _, _ => none)
            | none => none)
         else none
       | none => none)
     | none => none)
  | _ => none

theorem pair_rel {v v' : Value} (b : Bool) (hv : VR β v v') : VR β (.tuple #[v, .bool b]) (.tuple #[v', .bool b]) := by
  refine .tuple _ _ rfl fun i hi => ?_
  have : i = 0 ∨ i = 1 := by simp at hi; omega
  rcases this with rfl | rfl
  · simpa [Array.getD] using hv
  · simpa [Array.getD] using VR.bool b

theorem alookup_sound {t : TypeId} {x x' k k' v : Value} {ok : Bool} (hw : WR w0 β h w) (hx : VR β x x') (hk : VR β k k') (hv : alookup P h t x k ok = some v) :
    ∃ v', (Instr.lookup t x' k' ok).run P w = .ok v' w ∧ VR β v v' := by
  unfold alookup at hv
  split at hv
  · rename_i kt et hd
    split at hv
    · rename_i i hi
      split at hv
      · rename_i z hz
        split at hv
        · rename_i hg
          simp only [Bool.and_eq_true] at hg
          rw [hk.ground 8 hg.1]
          split at hv
          · rename_i es hes
            have step : ∀ (ES : Array MapEntry) (x'' : Value), EsR β es ES.toList → ((x'' = .map none ∧ ES = #[]) ∨ (∃ r ck, x'' = .map (some r) ∧ w.heap[r]? = some (.map ES ck))) →
                ∃ v', (Instr.lookup t x'' k ok).run P w = .ok v' w ∧ VR β v v' := by
              intro ES x'' hER hgo
              have hemp : ES.isEmpty = es.isEmpty := hER.isEmpty
              split at hv
              · rename_i _ _ hck hidx
                cases hv
                have hrun := aIdx_run (P := P) (w := w) hER hidx
                simp only at hrun
                have hck' := look_run _ hck w
                rw [← hemp] at hck'
                refine ⟨if ok then .tuple #[z, .bool false] else z, ?_, ?_⟩
                · rcases hgo with ⟨rfl, rfl⟩ | ⟨r, ck, rfl, hr⟩
                  · simp only [Instr.lookup, Sem.run_bind, run_underlying hd, Result.andThen, Sem.run_pure, hck', hrun, run_zero hi hz]
                  · simp only [Instr.lookup, Sem.run_bind, run_underlying hd, Result.andThen, Sem.run_pure, hck', hrun, run_zero hi hz, getObj, Sem.run, hr]
                · split
                  · exact pair_rel false (refl_ground β 8 z hg.2)
                  · exact refl_ground β 8 z hg.2
              · rename_i j hck hidx
                split at hv
                · rename_i e he
                  cases hv
                  obtain ⟨q1, E, q2, q3⟩ := aIdx_run (P := P) (w := w) hER hidx
                  have hent := hER.get' j e E he q2
                  have hck' := look_run _ hck w
                  rw [← hemp] at hck'
                  refine ⟨if ok then .tuple #[E.val, .bool true] else E.val, ?_, ?_⟩
                  · rcases hgo with ⟨rfl, rfl⟩ | ⟨r, ck, rfl, hr⟩
                    · simp only [Instr.lookup, Sem.run_bind, run_underlying hd, Result.andThen, Sem.run_pure, hck', q3]
                    · simp only [Instr.lookup, Sem.run_bind, run_underlying hd, Result.andThen, Sem.run_pure, hck', q3, getObj, Sem.run, hr]
                  · split
                    · exact pair_rel true hent.2.2.1
                    · exact hent.2.2.1
                · cases hv
              · cases hv
            cases hx with
            | nilm =>
              simp only [Option.some.injEq] at hes
              subst hes
              exact step #[] _ .nil (.inl ⟨rfl, rfl⟩)
            | map b L hL =>
              simp only at hes
              split at hes
              · rename_i es' ck hb
                cases hes
                obtain ⟨M, ES, m1, m2, m3⟩ := hw.map hb
                rw [hL] at m1; cases m1
                exact step ES _ m3 (.inr ⟨_, _, rfl, m2⟩)
              · cases hes
            | _ => cases hes
          · cases hv
        · cases hv
      · cases hv
    · cases hv
  · cases hv
end
end
end Go.AE

/- maps written; iterators. -/
namespace Go.AE
noncomputable section
open Go.RowKit

section
variable {P : Program} {w0 w : World} {β : Inj} {h : AH}

theorem EsR.append {es fs : List Ent} {ES FS : List MapEntry} (h : EsR β es ES) (k : EsR β fs FS) : EsR β (es ++ fs) (ES ++ FS) := by
  induction h with
  | nil => exact k
  | cons he _ ih => exact .cons he ih
theorem EsR.set {es : List Ent} {ES : List MapEntry} (h : EsR β es ES) {e : Ent} {E : MapEntry} (he : entR β e E) : ∀ i, EsR β (es.set i e) (ES.set i E) := by
  induction h with
  | nil => intro i; exact .nil
  | cons h0 _ ih =>
    intro i
    cases i with
    | zero => exact .cons he ‹_›
    | succ i => exact .cons h0 (ih i)
theorem EsR.erase {es : List Ent} {ES : List MapEntry} (h : EsR β es ES) : ∀ i, EsR β (es.eraseIdx i) (ES.eraseIdx i) := by
  induction h with
  | nil => intro i; exact .nil
  | cons h0 _ ih =>
    intro i
    cases i with
    | zero => simpa using ‹_›
    | succ i => exact .cons h0 (ih i)

theorem run_setObj {r : Nat} {O O' : Obj} (hr : w.heap[r]? = some O) (hc : ∀ c e f, O ≠ .cells c e f) : (setObj r O').run P w = .ok () { w with heap := w.heap.setIfInBounds r O' } := by
  unfold setObj
  rw [Sem.run]
  rw [hr]
  cases O <;> first | rfl | exact absurd rfl (hc _ _ _)

def amapUpdate (P : Program) (h : AH) (t : TypeId) (m k v : Value) : Option AH :=
  match P.underlying t, m with
  | some (.map kt _), .map (some r) =>
    if ground 8 k then
      (match h.get r with
       | some (.map es ck) =>
         (match look P (Instr.checkKey false 10000 kt k), aIdx P kt k es with
          | some _, some none => some (h.put r (.map (es ++ [⟨k, v, ck⟩]) (ck + 1)))
          | some _, some (some j) => (match es[j]? with
            | some e => if Instr.sameBits 10000 e.key k then some (h.put r (.map (es.set j ⟨k, v, e.born⟩) ck)) else none
            | none => none)
          | _, _ => none)
       | _ => none)
    else none
  | _, _ => none

theorem modify_set {ES : Array MapEntry} {j : Nat} {E : MapEntry} (hE : ES[j]? = some E) (f : MapEntry → MapEntry) : (ES.modify j f).toList = ES.toList.set j (f E) := by
  obtain ⟨hj, hE⟩ := Array.getElem?_eq_some_iff.1 hE
  apply List.ext_getElem
  · simp
  · intro i h1 h2
    simp only [Array.getElem_toList, Array.getElem_modify, List.getElem_set]
    by_cases hij : j = i
    · subst hij; simp [hE]
    · simp [hij]

theorem amapUpdate_sound {t : TypeId} {m m' k k' v v' : Value} {h' : AH} (hw : WR w0 β h w) (hm : VR β m m') (hk : VR β k k') (hvr : VR β v v') (hv : amapUpdate P h t m k v = some h') :
    UOK P w0 β (Instr.mapUpdate t m' k' v') w h' := by
  unfold amapUpdate at hv
  split at hv
  · rename_i kt et r hd
    split at hv
    · rename_i hg
      rw [hk.ground 8 hg]
      split at hv
      · rename_i es ck hb
        obtain ⟨L, ES, k1, k2, hER⟩ := hw.map hb
        cases hm with
        | map b M hM =>
          rw [k1] at hM; cases hM
          split at hv
          · rename_i _ _ hck hidx
            cases hv
            have hrun := aIdx_run (P := P) (w := w) hER hidx
            simp only at hrun
            have hck' := look_run _ hck w
            have hER' : EsR β (es ++ [⟨k, v, ck⟩]) (ES.push { key := k, val := v', born := ck }).toList := by
              rw [Array.toList_push]
              exact hER.append (.cons ⟨hg, rfl, hvr, rfl⟩ .nil)
            refine ⟨_, β, ?_, Inj.le.refl _, hw.put hb k1 (OR.ofEs (ck + 1) hER')⟩
            simp only [Instr.mapUpdate, Sem.run_bind, run_underlying hd, Result.andThen, getObj, Sem.run, k2, hck', hrun]
            exact run_setObj k2 (fun _ _ _ => by simp)
          · rename_i j hck hidx
            split at hv
            · rename_i e he
              split at hv
              · rename_i hsame
                cases hv
                obtain ⟨q1, E, q2, q3⟩ := aIdx_run (P := P) (w := w) hER hidx
                have hent := hER.get' j e E he q2
                have hck' := look_run _ hck w
                have hE2 : ES[j]? = some E := by simpa using q2
                have hER' : EsR β (es.set j ⟨k, v, e.born⟩) (ES.modify j fun e => { e with key := k, val := v' }).toList := by
                  rw [modify_set hE2]
                  exact hER.set (e := ⟨k, v, e.born⟩) (E := { E with key := k, val := v' }) ⟨hg, rfl, hvr, hent.2.2.2⟩ j
                refine ⟨_, β, ?_, Inj.le.refl _, hw.put hb k1 (OR.ofEs ck hER')⟩
                have hkey : (Instr.keyThatStays (((ES[j]?).map (·.key)).getD k) k).run P w = .ok k w := by
                  rw [hE2]
                  simp only [Instr.keyThatStays, Option.map_some, Option.getD_some, hent.2.1, hsame, if_true, Sem.run_pure]
                simp only [Instr.mapUpdate, Sem.run_bind, run_underlying hd, Result.andThen, getObj, Sem.run, k2, hck', q3, hkey]
                exact run_setObj k2 (fun _ _ _ => by simp)
              · cases hv
            · cases hv
          · cases hv
      · cases hv
    · cases hv
  · cases hv

def adelete (P : Program) (h : AH) (t : TypeId) (m k : Value) : Option AH :=
  match P.underlying t, m with
  | some (.map kt _), .map (some r) =>
    if ground 8 k then
      (match h.get r with
       | some (.map es ck) =>
         (match look P (Instr.checkKey es.isEmpty 10000 kt k), aIdx P kt k es with
          | some _, some none => some h
          | some _, some (some j) => some (h.put r (.map (es.eraseIdx j) ck))
          | _, _ => none)
       | _ => none)
    else none
  | _, _ => none
theorem adelete_sound {t t1 ty : TypeId} {m m' k k' : Value} {h' : AH} (hw : WR w0 β h w) (hm : VR β m m') (hk : VR β k k') (hv : adelete P h t m k = some h') :
    VOK P w0 β (Builtin.delete_ #[t, t1] ty #[m', k']) w (.tuple #[]) h' := by
  unfold adelete at hv
  split at hv
  · rename_i kt et r hd
    split at hv
    · rename_i hg
      rw [hk.ground 8 hg]
      split at hv
      · rename_i es ck hb
        obtain ⟨L, ES, k1, k2, hER⟩ := hw.map hb
        have hemp := hER.isEmpty
        cases hm with
        | map b M hM =>
          rw [k1] at hM; cases hM
          split at hv
          · rename_i _ _ hck hidx
            cases hv
            have hrun := aIdx_run (P := P) (w := w) hER hidx
            simp only at hrun
            have hck' := look_run _ hck w
            rw [← hemp] at hck'
            have hsame : WR w0 β h { w with heap := w.heap.setIfInBounds L.blk (.map ES ck) } := by
              have : w.heap.setIfInBounds L.blk (.map ES ck) = w.heap := by
                obtain ⟨hlt, he⟩ := Array.getElem?_eq_some_iff.1 k2
                apply Array.ext (by simp)
                intro i h1 h2
                by_cases hi : L.blk = i
                · subst hi; simp [he]
                · exact Array.getElem_setIfInBounds_ne (by simpa using h2) hi
              rw [this]; exact hw
            refine ⟨.tuple #[], _, β, ?_, Inj.le.refl _, VR.undef β, hsame⟩
            simp [Builtin.delete_, run_underlying hd, Result.andThen, getObj, Sem.run, k2, hck', hrun, run_setObj k2 (fun _ _ _ => by simp)]
          · rename_i j hck hidx
            cases hv
            obtain ⟨q1, E, q2, q3⟩ := aIdx_run (P := P) (w := w) hER hidx
            have hck' := look_run _ hck w
            rw [← hemp] at hck'
            have hER' : EsR β (es.eraseIdx j) (ES.eraseIdxIfInBounds j).toList := by
              have : (ES.eraseIdxIfInBounds j).toList = ES.toList.eraseIdx j := by simp
              rw [this]
              exact hER.erase j
            refine ⟨.tuple #[], _, β, ?_, Inj.le.refl _, VR.undef β, hw.put hb k1 (OR.ofEs ck hER')⟩
            simp [Builtin.delete_, run_underlying hd, Result.andThen, getObj, Sem.run, k2, hck', q3, run_setObj k2 (fun _ _ _ => by simp)]
          · cases hv
      · cases hv
    · cases hv
  · cases hv

/-! ### iterators -/
def arange (P : Program) (h : AH) (t : TypeId) (x : Value) : Option (Value × AH) :=
  match P.underlying t, x with
  | some .string, .string s => some (.pointer (some ⟨h.next, 0, none⟩), h.new (.strIter s 0))
  | some (.map _ _), .map none => some (.pointer (some ⟨h.next, 0, none⟩), h.new (.mapIter none 0 [] 0))
  | some (.map _ _), .map (some r) => (match h.get r with | some (.map _ ck) => some (.pointer (some ⟨h.next, 0, none⟩), h.new (.mapIter (some r) ck [] ck)) | _ => none)
  | _, _ => none
theorem new_obj {o : AObj} {O : Obj} (hw : WR w0 β h w) (ho : ∀ (β' : Inj) (L : Loc), Inj.le β β' → L.off = 0 → OR β' L o O) : ∃ β', Inj.le β β' ∧ VR β' (.pointer (some ⟨h.next, 0, none⟩)) (.pointer (some ⟨w.heap.size, 0, none⟩)) ∧ WR w0 β' (h.new o) (w.alloc O) ∧ (∃ L, β' h.next = some L ∧ L.blk = w.heap.size) := by
  obtain ⟨h1, h2⟩ := hw.new (L := ⟨w.heap.size, 0, 0, 0, 0⟩) rfl (ho _ _ (Inj.add_le (hw.fresh _ (Nat.le_refl _))) rfl)
  exact ⟨_, h2, VR.ptr _ _ _ Inj.add_at, h1, _, Inj.add_at, rfl⟩
theorem arange_sound {t : TypeId} {x x' v : Value} {h' : AH} (hw : WR w0 β h w) (hx : VR β x x') (hv : arange P h t x = some (v, h')) : VOK P w0 β (Instr.range t x') w v h' := by
  unfold arange at hv
  split at hv
  · rename_i s hd
    cases hv; cases hx
    obtain ⟨β', k1, k2, k3, _⟩ := new_obj (o := .strIter s 0) (O := .stringIter s 0) hw (fun _ _ _ h0 => .strIter s 0 h0)
    exact ⟨_, _, β', by simp [Instr.range, run_underlying hd, Result.andThen], k1, k2, k3⟩
  · rename_i hd
    cases hv; cases hx
    obtain ⟨β', k1, k2, k3, _⟩ := new_obj (o := .mapIter none 0 [] 0) (O := .mapIter none 0 #[] 0) hw (fun _ _ _ h0 => .mapIterN 0 0 [] h0)
    exact ⟨_, _, β', by simp [Instr.range, run_underlying hd, Result.andThen], k1, k2, k3⟩
  · rename_i r hd
    split at hv
    · rename_i es ck hb
      cases hv
      obtain ⟨L, ES, m1, m2, _⟩ := hw.map hb
      cases hx with
      | map b M hM =>
        rw [m1] at hM; cases hM
        obtain ⟨β', k1, k2, k3, _⟩ := new_obj (o := .mapIter (some r) ck [] ck) (O := .mapIter (some L.blk) ck #[] ck) hw (fun β' _ hle h0 => .mapIter r L (hle _ _ m1) ck ck [] h0)
        exact ⟨_, _, β', by simp [Instr.range, run_underlying hd, Result.andThen, getObj, Sem.run, m2], k1, k2, k3⟩
    · cases hv
  · cases hv
end
end
end Go.AE

/- Steps of iterators; entries of maps that are turned where they lie. -/
namespace Go.AE
noncomputable section
open Go.RowKit

section
variable {P : Program} {w0 w : World} {β : Inj} {h : AH}

theorem EsR.filter {es : List Ent} {ES : List MapEntry} (h : EsR β es ES) (p : Nat → Bool) : EsR β (es.filter fun e => p e.born) (ES.filter fun e => p e.born) := by
  induction h with
  | nil => exact .nil
  | cons he _ ih =>
    simp only [List.filter_cons, he.2.2.2]
    split
    · exact .cons he ih
    · exact ih
theorem EsR.all {es : List Ent} {ES : List MapEntry} (h : EsR β es ES) (p : Nat → Bool) : ES.all (fun e => p e.born) = es.all (fun e => p e.born) := by
  induction h with
  | nil => rfl
  | cons he _ ih => simp only [List.all_cons, he.2.2.2, ih]
theorem EsR.find {es : List Ent} {ES : List MapEntry} (h : EsR β es ES) (p : Nat → Bool) {e : Ent} (he : es.find? (fun e => p e.born) = some e) : ∃ E, ES.find? (fun e => p e.born) = some E ∧ entR β e E := by
  induction h with
  | nil => simp at he
  | cons h0 _ ih =>
    simp only [List.find?_cons, h0.2.2.2] at he ⊢
    split at he
    · cases he; exact ⟨_, rfl, h0⟩
    · exact ih he

theorem three_rel {v v' u u' : Value} (b : Bool) (hv : VR β v v') (hu : VR β u u') : VR β (.tuple #[.bool b, v, u]) (.tuple #[.bool b, v', u']) := by
  refine .tuple _ _ rfl fun i hi => ?_
  have : i = 0 ∨ i = 1 ∨ i = 2 := by simp at hi; omega
  rcases this with rfl | rfl | rfl
  · simpa [Array.getD] using VR.bool b
  · simpa [Array.getD] using hv
  · simpa [Array.getD] using hu
theorem two_rel {v v' u u' : Value} (hv : VR β v v') (hu : VR β u u') : VR β (.tuple #[v, u]) (.tuple #[v', u']) := by
  refine .tuple _ _ rfl fun i hi => ?_
  have : i = 0 ∨ i = 1 := by simp at hi; omega
  rcases this with rfl | rfl
  · simpa [Array.getD] using hv
  · simpa [Array.getD] using hu

/-- One of several. -/
def VOKs (P : Program) (w0 : World) (β : Inj) (s : Sem Value) (w : World) (outs : List (Value × AH)) : Prop :=
  ∃ o ∈ outs, VOK P w0 β s w o.1 o.2
theorem VOK.one {s : Sem Value} {v : Value} {h' : AH} (hv : VOK P w0 β s w v h') : VOKs P w0 β s w [(v, h')] := ⟨(v, h'), by simp, hv⟩

def anext (h : AH) (it : Value) (isString : Bool) : Option (List (Value × AH)) :=
  match it with
  | .pointer (some ⟨r, 0, none⟩) =>
    (match h.get r, isString with
     | some (.strIter s pos), true =>
       if pos < s.data.size then
         some [(.tuple #[.bool true, goInt pos, .int .i32 (Utf8.decode s pos).1], h.put r (.strIter s (pos + (Utf8.decode s pos).2)))]
       else some [(.tuple #[.bool false], h)]
     | some (.mapIter none _ _ _), false => some [(.tuple #[.bool false], h)]
     | some (.mapIter (some m) since seen last), false =>
       (match h.get m with
        | some (.map es ck) =>
          if !seen.isEmpty && !es.isEmpty && es.all (fun e => decide (last ≤ e.born)) then none else
          let left := es.filter fun e => !seen.contains e.born
          let old := left.filter fun e => decide (e.born < since)
          let new := left.filter fun e => decide (since ≤ e.born)
          some ((if old.isEmpty then [(.tuple #[.bool false], h)] else []) ++
            (old ++ new).map fun e => (.tuple #[.bool true, e.key, e.val], h.put r (.mapIter (some m) since (seen ++ [e.born]) ck)))
        | _ => none)
     | _, _ => none)
  | _ => none

theorem bool_rel (b : Bool) : VR β (.tuple #[.bool b]) (.tuple #[.bool b]) := by
  refine .tuple _ _ rfl fun i hi => ?_
  have : i = 0 := by simp at hi; omega
  subst this
  simpa [Array.getD] using VR.bool b

theorem anext_sound {it it' : Value} {isS : Bool} {ty : TypeId} {outs : List (Value × AH)} (hw : WR w0 β h w) (hx : VR β it it') (hv : anext h it isS = some outs) : VOKs P w0 β (Instr.next it' isS ty) w outs := by
  unfold anext at hv
  split at hv
  · rename_i r
    cases hx with
    | ptr b o L hL =>
      split at hv
      · rename_i s pos hb
        obtain ⟨M, O, k1, k2, k3, k4⟩ := hw.obj r _ hb
        rw [hL] at k1; cases k1
        cases k3 with
        | strIter s pos h0 =>
          rw [h0, Nat.zero_add]
          split at hv
          · rename_i hp
            cases hv
            have hp' : pos < s.size := hp
            refine VOK.one ⟨.tuple #[.bool true, goInt pos, .int .i32 (Utf8.decode s pos).1], _, β, ?_, Inj.le.refl _, three_rel true (.int _ _) (.int _ _), hw.put hb hL (.strIter s (pos + (Utf8.decode s pos).2) h0)⟩
            simp [Instr.next, getObj, Sem.run, k2, Result.andThen, hp', run_setObj k2 (fun _ _ _ => by simp)]
          · rename_i hp
            cases hv
            have hp' : ¬ pos < s.size := hp
            refine VOK.one ⟨.tuple #[.bool false], w, β, ?_, Inj.le.refl _, bool_rel false, hw⟩
            simp [Instr.next, getObj, Sem.run, k2, Result.andThen, hp']
      · rename_i since seen last hb
        obtain ⟨M, O, k1, k2, k3, k4⟩ := hw.obj r _ hb
        rw [hL] at k1; cases k1
        cases hv
        cases k3 with
        | mapIterN since last seen h0 =>
          rw [h0, Nat.zero_add]
          refine VOK.one ⟨.tuple #[.bool false], w, β, ?_, Inj.le.refl _, bool_rel false, hw⟩
          simp [Instr.next, getObj, Sem.run, k2, Result.andThen]
      · rename_i m since seen last hb
        obtain ⟨M, O, k1, k2, k3, k4⟩ := hw.obj r _ hb
        rw [hL] at k1; cases k1
        split at hv
        · rename_i es ck hm
          obtain ⟨N, ES, m1, m2, hER⟩ := hw.map hm
          split at hv
          · cases hv
          · rename_i hno
            simp only [Option.some.injEq] at hv
            cases k3 with
            | mapIter m M' hM since last seen h0 =>
              rw [m1] at hM; cases hM
              rw [h0, Nat.zero_add]
              -- the concrete lists
              have hleft := hER.filter (fun b => !seen.contains b)
              have hold := hleft.filter (fun b => decide (b < since))
              have hnew := hleft.filter (fun b => decide (since ≤ b))
              have hboth := hold.append hnew
              let LEFT := ES.filter fun e => !seen.toArray.contains e.born
              let OLD := LEFT.filter fun e => decide (e.born < since)
              let NEW := LEFT.filter fun e => decide (e.born ≥ since)
              have eLEFT : LEFT.toList = ES.toList.filter fun e => !seen.contains e.born := by
                show (ES.filter fun e => !seen.toArray.contains e.born).toList = _
                simp
              have eOLD : OLD.toList = (ES.toList.filter fun e => !seen.contains e.born).filter fun e => decide (e.born < since) := by
                show (LEFT.filter fun e => decide (e.born < since)).toList = _
                rw [Array.toList_filter, eLEFT]
              have eNEW : NEW.toList = (ES.toList.filter fun e => !seen.contains e.born).filter fun e => decide (since ≤ e.born) := by
                show (LEFT.filter fun e => decide (e.born ≥ since)).toList = _
                rw [Array.toList_filter, eLEFT]
              let CANDS : Array (Option MapEntry) := (if OLD.isEmpty then #[none] else #[]) ++ (OLD ++ NEW).map some
              have hoe : OLD.isEmpty = ((es.filter fun e => !seen.contains e.born).filter fun e => decide (e.born < since)).isEmpty := by
                rw [← eOLD] at hold
                exact hold.isEmpty
              have hbig : ¬ (!seen.toArray.isEmpty && !ES.isEmpty && ES.all (fun e => decide (e.born ≥ last))) = true := by
                have e1 : seen.toArray.isEmpty = seen.isEmpty := by simp
                have e2 : ES.isEmpty = es.isEmpty := hER.isEmpty
                have e3 : ES.all (fun e => decide (e.born ≥ last)) = es.all (fun e => decide (last ≤ e.born)) := by
                  have := hER.all (fun b => decide (last ≤ b))
                  rw [← this]; simp
                rw [e1, e2, e3]
                exact hno
              -- whatever is drawn
              have pick : ∀ (k : Nat) (w1 : World), k < CANDS.size → WR w0 β h w1 → w1.heap = w.heap →
                  ∃ x, CANDS[k]? = some x ∧ ∃ o ∈ outs, ∃ v' w', (match x with
                    | some e => do setObj L.blk (.mapIter (some N.blk) since (seen.toArray.push e.born) ck); (pure (Value.tuple #[.bool true, e.key, e.val]) : Sem Value)
                    | none => (pure (.tuple #[.bool false]) : Sem Value)).run P w1 = .ok v' w' ∧ VR β o.1 v' ∧ WR w0 β o.2 w' := by
                intro k w1 hk hw1 hheap
                obtain ⟨x, hx⟩ : ∃ x, CANDS[k]? = some x := ⟨CANDS[k], by simp [hk]⟩
                refine ⟨x, hx, ?_⟩
                have hmem : x ∈ CANDS := Array.mem_of_getElem? hx
                have hk2 : w1.heap[L.blk]? = some (.mapIter (some N.blk) since seen.toArray last) := by rw [hheap]; exact k2
                rcases Array.mem_append.1 hmem with h1 | h1
                · have hemp : OLD.isEmpty = true := by
                    by_cases hq : OLD.isEmpty = true
                    · exact hq
                    · simp [hq] at h1
                  simp only [hemp, if_true] at h1
                  have : x = none := by simpa using h1
                  subst this
                  refine ⟨(.tuple #[.bool false], h), ?_, .tuple #[.bool false], w1, rfl, bool_rel false, hw1⟩
                  rw [← hv, ← hoe, hemp]; simp
                · obtain ⟨E, hE, rfl⟩ := Array.mem_map.1 h1
                  have hEl : E ∈ (OLD ++ NEW).toList := by simpa using hE
                  rw [Array.toList_append, eOLD, eNEW] at hEl
                  obtain ⟨j, hj, hEj⟩ := List.mem_iff_getElem.1 hEl
                  have hj' : j < (((es.filter fun e => !seen.contains e.born).filter fun e => decide (e.born < since)) ++ ((es.filter fun e => !seen.contains e.born).filter fun e => decide (since ≤ e.born))).length := by
                    rw [← hboth.length]; exact hj
                  have hent := hboth.get' j _ E (List.getElem?_eq_getElem hj') (by rw [List.getElem?_eq_getElem hj, hEj])
                  generalize hee : (((es.filter fun e => !seen.contains e.born).filter fun e => decide (e.born < since)) ++ ((es.filter fun e => !seen.contains e.born).filter fun e => decide (since ≤ e.born)))[j] = e at hent
                  refine ⟨(.tuple #[.bool true, e.key, e.val], h.put r (.mapIter (some m) since (seen ++ [e.born]) ck)), ?_, .tuple #[.bool true, E.key, E.val], { w1 with heap := w1.heap.setIfInBounds L.blk (.mapIter (some N.blk) since (seen.toArray.push E.born) ck) }, ?_, ?_, ?_⟩
                  · rw [← hv]
                    refine List.mem_append_right _ (List.mem_map.2 ⟨e, ?_, rfl⟩)
                    rw [← hee]; exact List.getElem_mem hj'
                  · rw [Sem.run_bind, run_setObj hk2 (fun _ _ _ => by simp)]; rfl
                  · rw [hent.2.1]; exact three_rel true (refl_ground β 8 _ hent.1) hent.2.2.1
                  · have : seen.toArray.push E.born = (seen ++ [e.born]).toArray := by rw [hent.2.2.2]; simp
                    rw [this]
                    exact hw1.put hb hL (.mapIter m N m1 since ck (seen ++ [e.born]) h0)
              have hpos : 0 < CANDS.size := by
                show 0 < ((if OLD.isEmpty then #[none] else #[]) ++ (OLD ++ NEW).map some).size
                rw [Array.size_append, Array.size_map, Array.size_append]
                by_cases hq : OLD.isEmpty = true
                · simp [hq]; omega
                · have : OLD.size ≠ 0 := by simpa [Array.isEmpty] using hq
                  omega
              have hrun : ∀ (w1 : World) (k : Nat), (choose (.mapNext CANDS.size)).run P w = .ok k w1 → ∀ x v' w', CANDS[k]? = some x → (match x with
                    | some e => do setObj L.blk (.mapIter (some N.blk) since (seen.toArray.push e.born) ck); (pure (Value.tuple #[.bool true, e.key, e.val]) : Sem Value)
                    | none => (pure (.tuple #[.bool false]) : Sem Value)).run P w1 = .ok v' w' → (Instr.next (.pointer (some ⟨L.blk, 0, none⟩)) false ty).run P w = .ok v' w' := by
                intro w1 k hch x v' w' hx hr
                simp only [Instr.next, Sem.run_bind, getObj, Sem.run, k2, Result.andThen, m2]
                rw [if_neg (by simpa using hbig)]
                have hch2 := hch
                have hx2 := hx
                simp only [CANDS, OLD, NEW, LEFT] at hch2 hx2
                simp only [Sem.run_bind, Result.andThen]
                rw [hch2]
                simp only []
                rw [hx2]
                cases x with
                | none => exact hr
                | some e => exact hr
              by_cases hf : (Question.mapNext CANDS.size).forced = true
              · have hch : (choose (.mapNext CANDS.size)).run P w = .ok 0 w := by rw [run_choose, if_pos hf]
                obtain ⟨x, q1, o, q2, v', w', q3, q4, q5⟩ := pick 0 w hpos hw rfl
                exact ⟨o, q2, v', w', β, hrun w 0 hch x v' w' q1 q3, Inj.le.refl _, q4, q5⟩
              · have hch : (choose (.mapNext CANDS.size)).run P w = .ok ((Question.mapNext CANDS.size).cut (w.tape w.drawn (.mapNext CANDS.size))) { w with drawn := w.drawn + 1 } := by rw [run_choose, if_neg hf]
                obtain ⟨x, q1, o, q2, v', w', q3, q4, q5⟩ := pick ((Question.mapNext CANDS.size).cut (w.tape w.drawn (.mapNext CANDS.size))) { w with drawn := w.drawn + 1 } (Nat.mod_lt _ hpos) hw.drew rfl
                exact ⟨o, q2, v', w', β, hrun _ _ hch x v' w' q1 q3, Inj.le.refl _, q4, q5⟩
        · cases hv
      · cases hv
  · cases hv

def aentry (h : AH) (it : Value) : Option Value :=
  match it with
  | .pointer (some ⟨r, 0, none⟩) =>
    (match h.get r with
     | some (.mapIter (some m) _ seen last) =>
       (match seen.getLast?, h.get m with
        | some stamp, some (.map es ck) =>
          if ck = last then
            (match es.find? (fun e => e.born == stamp) with
             | some e => some (.tuple #[e.key, e.val])
             | none => none)
          else none
        | _, _ => none)
     | _ => none)
  | _ => none
theorem aentry_sound {it it' v : Value} (hw : WR w0 β h w) (hx : VR β it it') (hv : aentry h it = some v) : ∃ v', (Instr.entry it').run P w = .ok v' w ∧ VR β v v' := by
  unfold aentry at hv
  split at hv
  · rename_i r
    cases hx with
    | ptr b o L hL =>
      split at hv
      · rename_i m since seen last hb
        obtain ⟨M, O, k1, k2, k3, k4⟩ := hw.obj r _ hb
        rw [hL] at k1; cases k1
        split at hv
        · rename_i _ _ stamp es ck hs hm
          obtain ⟨N, ES, m1, m2, hER⟩ := hw.map hm
          split at hv
          · rename_i hck
            split at hv
            · rename_i e he
              cases hv
              obtain ⟨E, q1, q2⟩ := hER.find (fun b => b == stamp) he
              cases k3 with
              | mapIter m M' hM since last seen h0 =>
                rw [m1] at hM; cases hM
                rw [h0, Nat.zero_add]
                have hb2 : seen.toArray.back? = some stamp := by simpa using hs
                have hf : ES.find? (fun e => e.born == stamp) = some E := by rw [← Array.find?_toList]; exact q1
                refine ⟨.tuple #[E.key, E.val], ?_, by rw [q2.2.1]; exact two_rel (refl_ground β 8 _ q2.1) q2.2.2.1⟩
                simp [Instr.entry, getObj, Sem.run, Sem.run_bind, k2, Result.andThen, hb2, m2, hck, hf]
            · cases hv
          · cases hv
        · cases hv
      · cases hv
  · cases hv
end
end
end Go.AE

/- One operation. -/
namespace Go.AE
noncomputable section
open Go.RowKit

section
variable {P : Program} {w0 w : World} {β : Inj} {h : AH} {tm : List Value} {a : Act}

def afunc (h : AH) (v : Value) : Option Value :=
  match v with
  | .pointer (some ⟨b, o, none⟩) => some v
  | .func (.func f) x y => some v
  | .func (.yield l) x y => some v
  | _ => none
def aevalsI (tm : List Value) : List Operand → Option (List Value)
  | [] => some []
  | x :: r => match aeval tm x, aevalsI tm r with
    | some v, some l => some (v :: l)
    | _, _ => none
noncomputable def aevals (tm : List Value) (xs : List Operand) : Option (List Value) := @List.rec Operand (fun _ => Option (List Value)) (some []) (fun x _ ih => match aeval tm x, ih with
    | some v, some l => some (v :: l)
    | _, _ => none) xs
theorem aevals_nil (tm : List Value) : aevals tm [] = some [] := rfl
theorem aevals_cons (tm : List Value) (x : Operand) (r : List Operand) : aevals tm (x :: r) = match aeval tm x, aevals tm r with
    | some v, some l => some (v :: l)
    | _, _ => none := rfl
theorem AR.nil : AR β #[] #[] := ⟨rfl, fun i hi => absurd hi (Nat.not_lt_zero i)⟩
theorem AR.cons {v v' : Value} {l l' : List Value} (hv : VR β v v') (hl : AR β l.toArray l'.toArray) : AR β (v :: l).toArray (v' :: l').toArray := by
  have h1 := hl.1
  simp at h1
  refine ⟨by simp [h1], fun i hi => ?_⟩
  rw [toArray_getD, toArray_getD]
  cases i with
  | zero => simpa using hv
  | succ i =>
    have := hl.2 i (by simpa using hi)
    rw [toArray_getD, toArray_getD] at this
    simpa [List.getD_eq_getElem?_getD] using this
theorem aevals_sound (ha : AR β tm.toArray a.tmps) : ∀ (l : List Operand) (r : List Value), aevals tm l = some r → AR β r.toArray (l.map a.eval).toArray := by
  intro l
  induction l with
  | nil => intro r hr; simp only [aevals_nil, Option.some.injEq] at hr; subst hr; exact AR.nil
  | cons x t ih =>
    intro r hr
    simp only [aevals_cons] at hr
    split at hr
    · rename_i v l hv hl
      cases hr
      simp only [List.map_cons]
      exact AR.cons (aeval_sound ha hv) (ih l hl)
    · cases hr
theorem AR.append {x x' y y' : Array Value} (h1 : AR β x x') (h2 : AR β y y') : AR β (x ++ y) (x' ++ y') := by
  refine ⟨by simp [h1.1, h2.1], fun i hi => ?_⟩
  rw [Array.getD_eq_getD_getElem?, Array.getD_eq_getD_getElem?]
  have hs := h1.1
  by_cases hx : i < x.size
  · rw [Array.getElem?_append_left hx, Array.getElem?_append_left (by omega)]
    have := h1.2 i hx
    rwa [Array.getD_eq_getD_getElem?, Array.getD_eq_getD_getElem?] at this
  · rw [Array.getElem?_append_right (by omega), Array.getElem?_append_right (by omega), ← hs]
    have := h2.2 (i - x.size) (by simp at hi; omega)
    rwa [Array.getD_eq_getD_getElem?, Array.getD_eq_getD_getElem?] at this

/-- Operations that ask no memory. -/
def apure (P : Program) (tm : List Value) (o : Oper) : Option Value :=
  match o.op with
  | .move x | .assign x => aeval tm x
  | .pick c x y => (match aeval tm c with | some (.bool true) => aeval tm x | some (.bool false) => aeval tm y | _ => none)
  | .nilCheck x => (match aeval tm x with
    | some (.pointer (some ⟨b, o, none⟩)) => some (.pointer (some ⟨b, o, none⟩))
    | some (.func (.func f) u v) => some (.func (.func f) u v)
    | _ => none)
  | .binOp op t x y _ => (match aeval tm x, aeval tm y with | some u, some v => abin P op t x y u v | _, _ => none)
  | .unOp op _ x => (match aeval tm x with | some u => aground P [u] (Op.unary op u) | none => none)
  | .convert src dst x => (match aeval tm x with | some u => aground P [u] (convert src dst u) | none => none)
  | .fieldAddr t x f => (match aeval tm x with | some u => afieldAddr P t u f | none => none)
  | .indexAddr t x i => (match aeval tm x, aeval tm i with | some u, some v => aindexAddr P t u v | _, _ => none)
  | .field t x f => (match aeval tm x with | some u => afield P t u f | none => none)
  | .extract x i => (match aeval tm x with | some u => aextract u i | none => none)
  | .index t x i => (match aeval tm x, aeval tm i with | some u, some v => aindex P t u v | _, _ => none)
  | .makeFunc fn xs ys => (match fn, aevals tm xs.toList, aevals tm ys.toList with | .func f, some l, some m => some (.func (.func f) l.toArray m.toArray) | _, _, _ => none)
  | .build t ps => (match aparts tm ps.toList with | some l => abuild P t l | none => none)
  | .makeInterface t x => (match P.underlying t, aeval tm x with
    | some (.interface _), _ => none
    | some _, some v => some (.iface t v)
    | _, _ => none)
  | _ => none

theorem val_run {s : Sem Value} {v : Value} {w w' : World} (hs : s.run P w = .ok v w') : (do pure (Next.value (← s)) : Sem Next).run P w = .ok (.value v) w' := by
  rw [Sem.run_bind, hs]; rfl

theorem apure_sound {o : Oper} {v : Value} (ha : AR β tm.toArray a.tmps) (hv : apure P tm o = some v) :
    ∃ v', (∀ w : World, (execOp a.eval o).run P w = .ok (.value v') w) ∧ VR β v v' := by
  unfold apure at hv
  unfold execOp
  split at hv <;> first | (rename_i hop; rw [hop]) | skip
  · exact ⟨_, fun w => rfl, aeval_sound ha hv⟩
  · exact ⟨_, fun w => rfl, aeval_sound ha hv⟩
  · split at hv
    · rename_i hc
      have h1 := aeval_sound ha hc
      have h2 := h1.ground 8 rfl
      exact ⟨_, fun w => by simp [h2, asBool, Result.andThen], aeval_sound ha hv⟩
    · rename_i hc
      have h1 := aeval_sound ha hc
      have h2 := h1.ground 8 rfl
      exact ⟨_, fun w => by simp [h2, asBool, Result.andThen], aeval_sound ha hv⟩
    · cases hv
  · rename_i x
    split at hv
    · rename_i hc
      cases hv
      have h1 := aeval_sound ha hc
      obtain ⟨u, hu⟩ : ∃ u, a.eval x = u := ⟨_, rfl⟩
      rw [hu] at h1
      cases h1 with
      | ptr b o L hL => exact ⟨_, fun w => by simp only [hu]; rfl, .ptr _ _ _ hL⟩
    · rename_i hc
      cases hv
      have h1 := aeval_sound ha hc
      obtain ⟨u, hu⟩ : ∃ u, a.eval x = u := ⟨_, rfl⟩
      rw [hu] at h1
      cases h1 with
      | func f f' x x' y y' hf h1 h2 h3 h4 =>
        cases hf with
        | func f => exact ⟨_, fun w => by simp only [hu]; rfl, VR.func _ _ _ _ _ _ (FR.func _) h1 h2 h3 h4⟩
    · cases hv
  · split at hv
    · rename_i hx hy
      obtain ⟨v', h1, h2⟩ := abin_sound (aeval_sound ha hx) (aeval_sound ha hy) hv
      exact ⟨v', fun w => val_run (h1 w), h2⟩
    · cases hv
  · split at hv
    · rename_i u hx
      obtain ⟨h0, h1, h2⟩ := aground_sound (β := β) hv
      have h3 := (aeval_sound ha hx).ground 8 (by simpa using h0)
      exact ⟨v, fun w => val_run (by rw [h3]; exact h1 w), h2⟩
    · cases hv
  · split at hv
    · rename_i u hx
      obtain ⟨h0, h1, h2⟩ := aground_sound (β := β) hv
      have h3 := (aeval_sound ha hx).ground 8 (by simpa using h0)
      exact ⟨v, fun w => val_run (by rw [h3]; exact h1 w), h2⟩
    · cases hv
  · split at hv
    · rename_i u hx
      obtain ⟨v', h1, h2⟩ := afieldAddr_sound (aeval_sound ha hx) hv
      exact ⟨v', fun w => val_run (h1 w), h2⟩
    · cases hv
  · split at hv
    · rename_i hx hy
      obtain ⟨v', h1, h2⟩ := aindexAddr_sound (aeval_sound ha hx) (aeval_sound ha hy) hv
      exact ⟨v', fun w => val_run (h1 w), h2⟩
    · cases hv
  · split at hv
    · rename_i u hx
      obtain ⟨v', h1, h2⟩ := afield_sound (aeval_sound ha hx) hv
      exact ⟨v', fun w => val_run (h1 w), h2⟩
    · cases hv
  · split at hv
    · rename_i u hx
      obtain ⟨v', h1, h2⟩ := aextract_sound (P := P) (aeval_sound ha hx) hv
      exact ⟨v', fun w => val_run (h1 w), h2⟩
    · cases hv
  · split at hv
    · rename_i hx hy
      obtain ⟨v', h1, h2⟩ := aindex_sound (aeval_sound ha hx) (aeval_sound ha hy) hv
      exact ⟨v', fun w => val_run (h1 w), h2⟩
    · cases hv
  · rename_i xs ys
    split at hv
    · rename_i f l m hl hm
      cases hv
      have h1 := aevals_sound ha _ _ hl
      have h2 := aevals_sound ha _ _ hm
      have e1 : (xs.toList.map a.eval).toArray = xs.map a.eval := by apply Array.ext'; simp
      have e2 : (ys.toList.map a.eval).toArray = ys.map a.eval := by apply Array.ext'; simp
      rw [e1] at h1
      rw [e2] at h2
      exact ⟨.func (.func f) (xs.map a.eval) (ys.map a.eval), fun w => rfl, .func _ _ _ _ _ _ (.func f) h1.1 h2.1 h1.2 h2.2⟩
    · cases hv
  · split at hv
    · rename_i l hl
      obtain ⟨v', h1, h2⟩ := abuild_sound (P := P) (parts' := (_ : Array (Nat × Operand)).map fun (i, x) => (i, a.eval x)) (by rw [Array.toList_map]; exact aparts_sound ha _ _ hl) hv
      exact ⟨v', fun w => val_run (h1 w), h2⟩
    · cases hv
  · split at hv
    · cases hv
    · rename_i d v0 hnot hd hx
      cases hv
      refine ⟨.iface _ _, fun w => ?_, .iface _ _ _ (aeval_sound ha hx)⟩
      refine val_run ?_
      cases d <;> first
        | exact absurd rfl (hnot _)
        | simp [Instr.makeInterface, run_underlying hd, Result.andThen]
    · cases hv
  · cases hv
end
end
end Go.AE

/- One operation, whatever it does. -/
namespace Go.AE
noncomputable section
open Go.RowKit

inductive ARes where
  | vals (outs : List (Value × AH))
  | skip (h : AH)
  | enter (f : FuncId) (args : List Value)
  | round (l : Nat) (tm : List Value) (assign body : Code)

def one : Option (Value × AH) → Option ARes
  | some p => some (.vals [p])
  | none => none
def same (h : AH) : Option Value → Option ARes
  | some v => some (.vals [(v, h)])
  | none => none
def skips : Option AH → Option ARes
  | some h => some (.skip h)
  | none => none

def setAll : List (Tmp × Value) → List Value → List Value
  | [], tm => tm
  | (t, v) :: r, tm => setAll r (lset tm v t)

def acall (P : Program) (tm : List Value) (h : AH) (ty : TypeId) (c : Call) : Option ARes :=
  match c.callee with
  | .builtin .append => (match c.argTypes.toList, c.args.toList with
    | [t0, t1], [x, y] => (match aeval tm x, aeval tm y with | some u, some v => one (aappend P h t0 t1 u v) | _, _ => none)
    | _, _ => none)
  | .builtin .copy => (match c.argTypes.toList, c.args.toList with
    | [t0, t1], [x, y] => (match aeval tm x, aeval tm y with | some u, some v => one (acopy P h t0 u v) | _, _ => none)
    | _, _ => none)
  | .builtin .len => (match c.argTypes.toList, c.args.toList with
    | [t], [x] => (match aeval tm x with | some u => same h (alen P h t u) | _ => none)
    | _, _ => none)
  | .builtin .delete => (match c.argTypes.toList, c.args.toList with
    | [t0, t1], [x, y] => (match aeval tm x, aeval tm y with | some u, some v => (match adelete P h t0 u v with | some h' => some (.vals [(.tuple #[], h')]) | none => none) | _, _ => none)
    | _, _ => none)
  | .builtin .min => (match aevals tm c.args.toList with
    | some l => same h (aground P l (Builtin.min_ c.argTypes ty l.toArray))
    | none => none)
  | .builtin .max => (match aevals tm c.args.toList with
    | some l => same h (aground P l (Builtin.max_ c.argTypes ty l.toArray))
    | none => none)
  | .builtin _ => none
  | .invoke _ _ => none
  | .value f =>
    (match aeval tm f, aevals tm c.args.toList with
     | some (.func (.func g) first cap), some l => (match P.funcs[g]? with
       | some fn => if fn.body.isSome then some (.enter g (first.toList ++ l ++ cap.toList)) else none
       | none => none)
     | some (.func (.yield r) first cap), some l =>
       if first.size = 0 then
       (match h.get r with
        | some (.loop st pe tml ps as bd df) => if l.length = ps.size then some (.round r (setAll (ps.toList.zip l) tml) as bd) else none
        | _ => none)
       else none
     | _, _ => none)

def oval (tm : List Value) : Option Operand → Option (Option Value)
  | none => some none
  | some x => match aeval tm x with | some v => some (some v) | none => none

def aop (P : Program) (tm : List Value) (h : AH) (o : Oper) : Option ARes :=
  match apure P tm o with
  | some v => some (.vals [(v, h)])
  | none =>
    match o.op with
    | .alloc t => one (aalloc P h t)
    | .box t x => (match aeval tm x with | some v => one (abox P h t v) | none => none)
    | .buildSlice t n ps => (match aparts tm ps.toList with | some l => one (abuildSlice P h t n l) | none => none)
    | .load t x => (match aeval tm x with | some v => same h (aload P h t v) | none => none)
    | .store t x y => (match aeval tm x, aeval tm y with | some u, some v => skips (astore P h t u v) | _, _ => none)
    | .convert src dst x => (match aeval tm x with | some v => one (aconv P h src dst v) | none => none)
    | .makeMap t none => some (.vals [(.map (some h.next), h.new (.map [] 0))])
    | .makeSlice t x y => (match aeval tm x, aeval tm y with | some u, some v => one (amakeSlice P h t u v) | _, _ => none)
    | .slice t x lo hi mx => (match aeval tm x, oval tm lo, oval tm hi, oval tm mx with | some u, some a, some b, some c => same h (aslice P h t u a b c) | _, _, _, _ => none)
    | .lookup t x k ok => (match aeval tm x, aeval tm k with | some u, some v => same h (alookup P h t u v ok) | _, _ => none)
    | .mapUpdate t m k x | .insert t m k x => (match aeval tm m, aeval tm k, aeval tm x with | some u, some v, some z => skips (amapUpdate P h t u v z) | _, _, _ => none)
    | .range t x => (match aeval tm x with | some v => one (arange P h t v) | none => none)
    | .next it s => (match aeval tm it with | some v => (match anext h v s with | some outs => some (.vals outs) | none => none) | none => none)
    | .entry it => (match aeval tm it with | some v => same h (aentry h v) | none => none)
    | .call c => acall P tm h o.type c
    | _ => none

def OpOK (P : Program) (w0 : World) (β : Inj) (h : AH) (s : Sem Next) (w : World) : ARes → Prop
  | .vals outs => ∃ x ∈ outs, ∃ v' w' β', s.run P w = .ok (.value v') w' ∧ Inj.le β β' ∧ VR β' x.1 v' ∧ WR w0 β' x.2 w'
  | .skip h' => ∃ w' β', s.run P w = .ok .skip w' ∧ Inj.le β β' ∧ WR w0 β' h' w'
  | .enter f args => ∃ args', s.run P w = .ok (.enter f args') w ∧ AR β args.toArray args'
  | .round l tm as bd => ∃ L fn T, β l = some L ∧ s.run P w = .ok (.round L.blk fn T as bd) w ∧ AR β tm.toArray T

section
variable {P : Program} {w0 w : World} {β : Inj} {h : AH} {tm : List Value} {a : Act}

theorem OpOK.ofV {s : Sem Value} {p : Option (Value × AH)} {r : ARes} (hr : one p = some r) (hs : ∀ v h', p = some (v, h') → VOK P w0 β s w v h') : OpOK P w0 β h (do pure (.value (← s))) w r := by
  cases p with
  | none => cases hr
  | some p =>
    obtain ⟨v, h'⟩ := p
    cases hr
    obtain ⟨v', w', β', h1, h2, h3, h4⟩ := hs v h' rfl
    exact ⟨(v, h'), by simp, v', w', β', val_run h1, h2, h3, h4⟩
theorem OpOK.ofSame {s : Sem Value} {p : Option Value} {r : ARes} (hw : WR w0 β h w) (hr : same h p = some r) (hs : ∀ v, p = some v → ∃ v', s.run P w = .ok v' w ∧ VR β v v') : OpOK P w0 β h (do pure (.value (← s))) w r := by
  cases p with
  | none => cases hr
  | some v =>
    cases hr
    obtain ⟨v', h1, h2⟩ := hs v rfl
    exact ⟨(v, h), by simp, v', w, β, val_run h1, Inj.le.refl _, h2, hw⟩
theorem OpOK.ofU {s : Sem Unit} {p : Option AH} {r : ARes} (hr : skips p = some r) (hs : ∀ h', p = some h' → UOK P w0 β s w h') : OpOK P w0 β h (do s; pure Next.skip) w r := by
  cases p with
  | none => cases hr
  | some h' =>
    cases hr
    obtain ⟨w', β', h1, h2, h3⟩ := hs h' rfl
    exact ⟨w', β', by rw [Sem.run_bind, h1]; rfl, h2, h3⟩

theorem oval_sound (ha : AR β tm.toArray a.tmps) {x : Option Operand} {v : Option Value} (hx : oval tm x = some v) : OVR β v (x.map a.eval) := by
  cases x with
  | none => cases hx; trivial
  | some x =>
    simp only [oval] at hx
    split at hx
    · rename_i v hv
      cases hx
      exact aeval_sound ha hv
    · cases hx

theorem args2 {l : Array Operand} {x y : Operand} (hl : l.toList = [x, y]) : l.map a.eval = #[a.eval x, a.eval y] := by
  apply Array.ext'; simp [hl]
theorem args1 {l : Array Operand} {x : Operand} (hl : l.toList = [x]) : l.map a.eval = #[a.eval x] := by
  apply Array.ext'; simp [hl]
theorem types2 {l : Array TypeId} {x y : TypeId} (hl : l.toList = [x, y]) : l = #[x, y] := by
  apply Array.ext'; simp [hl]
theorem types1 {l : Array TypeId} {x : TypeId} (hl : l.toList = [x]) : l = #[x] := by
  apply Array.ext'; simp [hl]

theorem setAll_rel : ∀ (l : List (Tmp × Value)) (l' : List (Tmp × Value)) (tm : List Value) (T : Array Value), l.length = l'.length → (∀ i (h1 : i < l.length) (h2 : i < l'.length), l[i].1 = l'[i].1 ∧ VR β l[i].2 l'[i].2) → AR β tm.toArray T →
    AR β (setAll l tm).toArray (l'.foldl (fun T (p : Tmp × Value) => T.setIfInBounds p.1 p.2) T) := by
  intro l
  induction l with
  | nil =>
    intro l' tm T hl _ hr
    cases l' with
    | nil => exact hr
    | cons _ _ => simp at hl
  | cons p r ih =>
    intro l' tm T hl hp hr
    cases l' with
    | nil => simp at hl
    | cons p' r' =>
      have h0 := hp 0 (by simp) (by simp)
      simp only [List.getElem_cons_zero] at h0
      simp only [setAll, lset_eq, List.foldl_cons]
      rw [← h0.1]
      refine ih r' _ _ (by simpa using hl) (fun i h1 h2 => hp (i + 1) (by simpa using h1) (by simpa using h2)) ?_
      have := hr.set p.1 h0.2
      have e : (tm.set p.1 p.2).toArray = tm.toArray.setIfInBounds p.1 p.2 := by simp
      rw [e]; exact this

theorem acall_sound (hN : ∀ (f : FuncId) (fn : Func), P.funcs[f]? = some fn → (fn.name == "runtime.NumGoroutine") = false) {c : Call} {ty : TypeId} {r : ARes} (hw : WR w0 β h w) (ha : AR β tm.toArray a.tmps) (hv : acall P tm h ty c = some r) :
    OpOK P w0 β h (do let d ← resolve a.eval c ty; invoke d.target d.args) w r := by
  unfold acall at hv
  split at hv
  · rename_i hc
    split at hv
    · rename_i t0 t1 x y ht hl
      split at hv
      · rename_i u v hx hy
        have h1 := OpOK.ofV (P := P) (w0 := w0) (β := β) (h := h) (w := w) (s := Builtin.append_ #[t0, t1] ty #[a.eval x, a.eval y]) hv fun v h' e => aappend_sound hw (aeval_sound ha hx) (aeval_sound ha hy) e
        have e2 := args2 (a := a) hl
        have e3 := types2 ht
        have : (do let d ← resolve a.eval c ty; invoke d.target d.args : Sem Next) = (do pure (.value (← Builtin.append_ #[t0, t1] ty #[a.eval x, a.eval y]))) := by
          simp [resolve, hc, e2, e3, invoke, builtin]
        rw [this]; exact h1
      · cases hv
    · cases hv
  · rename_i hc
    split at hv
    · rename_i t0 t1 x y ht hl
      split at hv
      · rename_i u v hx hy
        have h1 := OpOK.ofV (P := P) (w0 := w0) (β := β) (h := h) (w := w) (s := Builtin.copy_ #[t0, t1] ty #[a.eval x, a.eval y]) hv fun v h' e => acopy_sound hw (aeval_sound ha hx) (aeval_sound ha hy) e
        have e2 := args2 (a := a) hl
        have e3 := types2 ht
        have : (do let d ← resolve a.eval c ty; invoke d.target d.args : Sem Next) = (do pure (.value (← Builtin.copy_ #[t0, t1] ty #[a.eval x, a.eval y]))) := by
          simp [resolve, hc, e2, e3, invoke, builtin]
        rw [this]; exact h1
      · cases hv
    · cases hv
  · rename_i hc
    split at hv
    · rename_i t x ht hl
      split at hv
      · rename_i u hx
        have h1 := OpOK.ofSame (P := P) (w0 := w0) (s := Builtin.len_ #[t] ty #[a.eval x]) hw hv fun v e => alen_sound hw (aeval_sound ha hx) e
        have e2 := args1 (a := a) hl
        have e3 := types1 ht
        have : (do let d ← resolve a.eval c ty; invoke d.target d.args : Sem Next) = (do pure (.value (← Builtin.len_ #[t] ty #[a.eval x]))) := by
          simp [resolve, hc, e2, e3, invoke, builtin]
        rw [this]; exact h1
      · cases hv
    · cases hv
  · rename_i hc
    split at hv
    · rename_i t0 t1 x y ht hl
      split at hv
      · rename_i u v hx hy
        split at hv
        · rename_i h' hd
          cases hv
          obtain ⟨v', w', β', h1, h2, h3, h4⟩ := adelete_sound (t1 := t1) (ty := ty) hw (aeval_sound ha hx) (aeval_sound ha hy) hd
          have e2 := args2 (a := a) hl
          have e3 := types2 ht
          have : (do let d ← resolve a.eval c ty; invoke d.target d.args : Sem Next) = (do pure (.value (← Builtin.delete_ #[t0, t1] ty #[a.eval x, a.eval y]))) := by
            simp [resolve, hc, e2, e3, invoke, builtin]
          rw [this]
          exact ⟨(.tuple #[], h'), by simp, v', w', β', val_run h1, h2, h3, h4⟩
        · cases hv
      · cases hv
    · cases hv
  · rename_i hc
    split at hv
    · rename_i l hl
      have hr := aevals_sound ha _ _ hl
      have e1 : (c.args.toList.map a.eval).toArray = c.args.map a.eval := by apply Array.ext'; simp
      rw [e1] at hr
      have h1 := OpOK.ofSame (P := P) (w0 := w0) (s := Builtin.min_ c.argTypes ty (c.args.map a.eval)) hw hv fun v e => by
        obtain ⟨g0, g1, g2⟩ := aground_sound (β := β) e
        have hag : ground 9 (.agg l.toArray) = true := by simpa [ground] using g0
        have := (VR.agg (β := β) _ _ hr.1 hr.2).ground 9 hag
        simp only [Value.agg.injEq] at this
        rw [this]
        exact ⟨v, g1 w, g2⟩
      have : (do let d ← resolve a.eval c ty; invoke d.target d.args : Sem Next) = (do pure (.value (← Builtin.min_ c.argTypes ty (c.args.map a.eval)))) := by
        simp [resolve, hc, invoke, builtin]
      rw [this]; exact h1
    · cases hv
  · rename_i hc
    split at hv
    · rename_i l hl
      have hr := aevals_sound ha _ _ hl
      have e1 : (c.args.toList.map a.eval).toArray = c.args.map a.eval := by apply Array.ext'; simp
      rw [e1] at hr
      have h1 := OpOK.ofSame (P := P) (w0 := w0) (s := Builtin.max_ c.argTypes ty (c.args.map a.eval)) hw hv fun v e => by
        obtain ⟨g0, g1, g2⟩ := aground_sound (β := β) e
        have hag : ground 9 (.agg l.toArray) = true := by simpa [ground] using g0
        have := (VR.agg (β := β) _ _ hr.1 hr.2).ground 9 hag
        simp only [Value.agg.injEq] at this
        rw [this]
        exact ⟨v, g1 w, g2⟩
      have : (do let d ← resolve a.eval c ty; invoke d.target d.args : Sem Next) = (do pure (.value (← Builtin.max_ c.argTypes ty (c.args.map a.eval)))) := by
        simp [resolve, hc, invoke, builtin]
      rw [this]; exact h1
    · cases hv
  · cases hv
  · cases hv
  · rename_i f hc
    split at hv
    · rename_i g first cap l hf hl
      split at hv
      · rename_i fn hfn
        split at hv
        · rename_i hbody
          cases hv
          have hr := aevals_sound ha _ _ hl
          have e1 : (c.args.toList.map a.eval).toArray = c.args.map a.eval := by apply Array.ext'; simp
          rw [e1] at hr
          have hfr := aeval_sound ha hf
          obtain ⟨u, hu⟩ : ∃ u, a.eval f = u := ⟨_, rfl⟩
          rw [hu] at hfr
          cases hfr with
          | func f0 f' x x' y y' hfn' h1 h2 h3 h4 =>
            cases hfn' with
            | func f0 =>
              refine ⟨x' ++ c.args.map a.eval ++ y', ?_, ?_⟩
              · have hname := hN g fn hfn
                have hname' : ¬ fn.name = "runtime.NumGoroutine" := by simpa using hname
                have hb : ¬ fn.body = none := by intro hq; rw [hq] at hbody; cases hbody
                simp [resolve, hc, hu, Deferred.ofValue, invoke, callFunc, Result.andThen, hfn, hname', hb]
              · have := (AR.append (AR.append (x := first) (x' := x') ⟨h1, h3⟩ hr) (y := cap) (y' := y') ⟨h2, h4⟩)
                have e : (first.toList ++ l ++ cap.toList).toArray = first ++ l.toArray ++ cap := by apply Array.ext'; simp
                rw [e]; exact this
        · cases hv
      · cases hv
    · rename_i rr first cap l hf hl
      split at hv
      · rename_i hz
        split at hv
        · rename_i st pe tml ps as bd df hb
          split at hv
          · rename_i hlen
            cases hv
            have hr := aevals_sound ha _ _ hl
            have e1 : (c.args.toList.map a.eval).toArray = c.args.map a.eval := by apply Array.ext'; simp
            rw [e1] at hr
            have hfr := aeval_sound ha hf
            obtain ⟨u, hu⟩ : ∃ u, a.eval f = u := ⟨_, rfl⟩
            rw [hu] at hfr
            obtain ⟨L, O, k1, k2, k3, k4⟩ := hw.obj rr _ hb
            cases k3 with
            | loop st pe fn tml T ps as bd df D hd ht =>
              cases hfr with
              | func f0 f' x x' y y' hfn' h1 h2 h3 h4 =>
                cases hfn' with
                | yield l0 M hM =>
                  rw [k1] at hM; cases hM
                  have hx0 : x' = #[] := Array.eq_empty_of_size_eq_zero (by rw [← h1]; exact hz)
                  subst hx0
                  have hsz : (c.args.map a.eval).size = ps.size := by rw [← hr.1]; simpa using hlen
                  refine ⟨L, fn, (ps.zip (c.args.map a.eval)).foldl (fun T (p : Tmp × Value) => T.setIfInBounds p.1 p.2) T, k1, ?_, ?_⟩
                  · simp only [resolve, hc, hu, Deferred.ofValue, Sem.run_bind, Sem.run_pure, Result.andThen, invoke, Instr.yield, Instr.getLoop, getObj, Sem.run, k2]
                    simp [hsz]
                  · rw [← Array.foldl_toList, Array.toList_zip]
                    refine setAll_rel _ _ _ _ (by rw [List.length_zip, List.length_zip, hlen, (Array.length_toList : (c.args.map a.eval).toList.length = _), hsz]) (fun i i1 i2 => ?_) ht
                    simp only [List.getElem_zip, true_and]
                    have hi : i < l.length := by simp at i1; omega
                    have hi' : i < (c.args.map a.eval).size := by rw [← hr.1]; simpa using hi
                    have := hr.2 i (by simpa using hi)
                    rw [toArray_getD] at this
                    have hi2 : i < c.args.size := by simpa using hi'
                    simpa [List.getD_eq_getElem?_getD, hi, Array.getD, hi2] using this
          · cases hv
        · cases hv
      · cases hv
    · cases hv
end
end
end Go.AE

/- One operation: what is computed holds. -/
namespace Go.AE
noncomputable section
open Go.RowKit

section
variable {P : Program} {w0 w : World} {β : Inj} {h : AH} {tm : List Value} {a : Act}

theorem aop_sound (hN : ∀ (f : FuncId) (fn : Func), P.funcs[f]? = some fn → (fn.name == "runtime.NumGoroutine") = false) {o : Oper} {r : ARes} (hw : WR w0 β h w) (ha : AR β tm.toArray a.tmps) (hv : aop P tm h o = some r) :
    OpOK P w0 β h (execOp a.eval o) w r := by
  unfold aop at hv
  split at hv
  · rename_i v hp
    cases hv
    obtain ⟨v', h1, h2⟩ := apure_sound ha hp
    exact ⟨(v, h), by simp, v', w, β, h1 w, Inj.le.refl _, h2, hw⟩
  · unfold execOp
    split at hv <;> first | (rename_i hop; rw [hop]) | skip
    · exact OpOK.ofV hv fun v h' e => aalloc_sound hw e
    · split at hv
      · rename_i hx
        exact OpOK.ofV hv fun v h' e => abox_sound hw (aeval_sound ha hx) e
      · cases hv
    · rename_i t n ps
      split at hv
      · rename_i l hl
        refine OpOK.ofV hv fun v h' e => abuildSlice_sound hw ?_ e
        rw [Array.toList_map]
        exact aparts_sound ha _ _ hl
      · cases hv
    · split at hv
      · rename_i hx
        exact OpOK.ofSame hw hv fun v e => aload_sound hw (aeval_sound ha hx) e
      · cases hv
    · split at hv
      · rename_i hx hy
        exact OpOK.ofU hv fun h' e => astore_sound hw (aeval_sound ha hx) (aeval_sound ha hy) e
      · cases hv
    · split at hv
      · rename_i hx
        exact OpOK.ofV hv fun v h' e => aconv_sound hw (aeval_sound ha hx) e
      · cases hv
    · cases hv
      have hle : Inj.le β (β.add h.next ⟨w.heap.size, 0, 0, 0, 0⟩) := Inj.add_le (hw.fresh _ (Nat.le_refl _))
      obtain ⟨h1, h2⟩ := hw.new (L := ⟨w.heap.size, 0, 0, 0, 0⟩) rfl (OR.ofEs (β := β.add h.next ⟨w.heap.size, 0, 0, 0, 0⟩) (es := []) (ES := #[]) 0 .nil)
      refine ⟨_, List.mem_singleton.2 rfl, .map (some w.heap.size), _, _, val_run (by simp [Instr.makeMap]), h2, ?_, h1⟩
      exact VR.map h.next ⟨w.heap.size, 0, 0, 0, 0⟩ Inj.add_at
    · split at hv
      · rename_i hx hy
        exact OpOK.ofV hv fun v h' e => amakeSlice_sound hw (aeval_sound ha hx) (aeval_sound ha hy) e
      · cases hv
    · split at hv
      · rename_i hx h1 h2 h3
        exact OpOK.ofSame hw hv fun v e => aslice_sound hw (aeval_sound ha hx) (oval_sound ha h1) (oval_sound ha h2) (oval_sound ha h3) e
      · cases hv
    · split at hv
      · rename_i hx hy
        exact OpOK.ofSame hw hv fun v e => alookup_sound hw (aeval_sound ha hx) (aeval_sound ha hy) e
      · cases hv
    · split at hv
      · rename_i hx hy hz
        exact OpOK.ofU hv fun h' e => amapUpdate_sound hw (aeval_sound ha hx) (aeval_sound ha hy) (aeval_sound ha hz) e
      · cases hv
    · split at hv
      · rename_i hx hy hz
        exact OpOK.ofU hv fun h' e => amapUpdate_sound hw (aeval_sound ha hx) (aeval_sound ha hy) (aeval_sound ha hz) e
      · cases hv
    · split at hv
      · rename_i hx
        exact OpOK.ofV hv fun v h' e => arange_sound hw (aeval_sound ha hx) e
      · cases hv
    · split at hv
      · rename_i hx
        split at hv
        · rename_i outs hn
          cases hv
          obtain ⟨x, q1, v', w', β', q2, q3, q4, q5⟩ := anext_sound (P := P) (ty := o.type) hw (aeval_sound ha hx) hn
          exact ⟨x, q1, v', w', β', val_run q2, q3, q4, q5⟩
        · cases hv
      · cases hv
    · split at hv
      · rename_i hx
        exact OpOK.ofSame hw hv fun v e => aentry_sound hw (aeval_sound ha hx) e
      · cases hv
    · exact acall_sound hN hw ha hv
    · cases hv
end
end
end Go.AE
