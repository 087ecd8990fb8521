/- A part of the proof of SnapPieces. Conditions: those of the card. -/
import Derived.Test.YtcpedibmacomcaaGreatDoorAeX

/- Appending, making, copying, converting: rows whose capacity is whatever it is. -/
namespace Go.AE
noncomputable section
open Go.RowKit

/-- The type of a slice's elements: its zero's cells, its bytes. -/
def ElemT (P : Program) (t e : TypeId) (z : List Value) (bytes : Nat) : Prop :=
  ∃ i zv, P.underlying t = some (.slice e) ∧ P.info? e = some i ∧ i.zero = some zv ∧ zv.cells.toList = z ∧ i.size = z.length ∧ 0 < z.length ∧ ground 8 zv = true ∧ oneCells z = true ∧ i.bytes = bytes

section
variable {P : Program} {w0 w : World} {β : Inj} {h : AH}

theorem run_fresh' {t0 t1 ty e : TypeId} {d1 : TypeDesc} {i : TypeInfo} {z s' x' : Value} {base : Option Addr} {sLen sCap n : Nat} {O N : Array Value} (ht0 : P.underlying t0 = some (.slice e)) (ht1 : P.underlying t1 = some d1)
    (hd1 : isIntD d1 = false) (hi : P.info? e = some i) (hz : i.zero = some z) (hs : s' = .slice base sLen sCap) (hn : (Builtin.lenOf x').run P w = .ok n w)
    (hg : sCap < sLen + n) (hbig : sLen + n ≤ 4611686018427387904) (hfit : (sLen + n) * i.bytes ≤ 140737488355328)
    (hO : (Builtin.firstCells i.size sLen s').run P w.drew = .ok O w.drew) (hN : (Builtin.firstCells i.size n x').run P w.drew = .ok N w.drew) :
    (Builtin.append_ #[t0, t1] ty #[s', x']).run P w = .ok (.slice (some ⟨w.heap.size, 0, none⟩) (sLen + n) (grownCap w (sLen + n) sCap e))
      (w.drew.alloc (.cells (O ++ N ++ Builtin.zeroCells z.cells (grownCap w (sLen + n) sCap e - (sLen + n))) e)) := by
  subst hs
  have h1 : ¬ (sLen + n ≤ sCap) := by omega
  have h2 : ¬ (9223372036854775807 < ((sLen : Int) + (n : Int))) := by omega
  have h3 : ¬ (281474976710656 < Builtin.nextslicecap (sLen + n) sCap * i.bytes) := by have := growslice_fits (by omega) hfit; omega
  cases d1 <;> first
    | (simp [isIntD] at hd1; done)
    | (simp [Builtin.append_, run_underlying ht0, run_underlying ht1, run_sizeOf hi, run_typeInfo hi, run_zero hi hz, hn, h1, h2, h3, Question.forced, hO, hN, newRow, grownCap, Result.andThen]; rfl)

/-- Nothing is appended. -/
theorem AppW.zero {t0 t1 e : TypeId} {z : List Value} {bytes : Nat} {d1 : TypeDesc} {base : Option Addr} {l c : Nat} {x : Value} {K : Value → AH → Prop} (ht : ElemT P t0 e z bytes) (ht1 : P.underlying t1 = some d1) (hd1 : isIntD d1 = false)
    (hx : alenOf x = some 0) (hlc : l ≤ c) (hk : K (.slice base l c) h) : AppW P h t0 t1 (.slice base l c) x K := by
  refine ⟨fun w0 β w s' x' ty hw hs hxr => ?_⟩
  obtain ⟨i, zv, q1, q2, q3, q4, q5, q6, q7, q8, q9⟩ := ht
  have hn := alenOf_run (P := P) (w := w) hxr hx
  obtain ⟨N, hN, hNr, hNl⟩ := asrc_sound (P := P) (size := i.size) (n := 0) (l := []) hw hxr ⟨0, hx, Nat.le_refl _⟩ rfl
  have hNe : N = #[] := by
    have := hNr.1
    apply Array.eq_empty_of_size_eq_zero
    simpa using this.symm
  subst hNe
  cases hs with
  | nils l c =>
    rw [run_room q1 ht1 hd1 q2 hn (by omega) hN (fun a ha => by cases ha) (fun _ => rfl)]
    exact ⟨_, h, β, hk, Inj.le.refl _, .nils _ _, hw⟩
  | slz a a' =>
    rw [run_room q1 ht1 hd1 q2 hn (by omega) hN (fun a ha => by simp [storeCells]) (fun _ => rfl)]
    exact ⟨_, h, β, hk, Inj.le.refl _, .slz _ _, hw⟩
  | osl g o l c =>
    rw [run_room q1 ht1 hd1 q2 hn (by omega) hN (fun a ha => by simp [storeCells]) (fun _ => rfl)]
    exact ⟨_, h, β, hk, Inj.le.refl _, .osl _ _ _ _, hw⟩
  | sl b o l c s L hL hsl =>
    rw [run_room q1 ht1 hd1 q2 hn (by omega) hN (fun a ha => by simp [storeCells]) (fun _ => rfl)]
    exact ⟨_, h, β, hk, Inj.le.refl _, .sl _ _ _ _ _ _ hL hsl, hw⟩

/-- There is room. -/
theorem AppW.fits {t0 t1 e : TypeId} {z : List Value} {bytes : Nat} {d1 : TypeDesc} {b o l c n : Nat} {x : Value} {C news : List Value} {zz : Nat} {K : Value → AH → Prop} (ht : ElemT P t0 e z bytes) (ht1 : P.underlying t1 = some d1)
    (hd1 : isIntD d1 = false) (hx : alenOf x = some n) (hn0 : 0 < n) (hs : xsrc h z.length n x = some news) (hone : oneCells news = true) (hb : h.get b = some (.row C zz false)) (hroom : l + n ≤ c) (hfit : o + c * z.length ≤ C.length)
    (hk : K (.slice (some ⟨b, o, none⟩) (l + n) c) (h.put b (.row (lsplice C (o + l * z.length) news) zz false))) : AppW P h t0 t1 (.slice (some ⟨b, o, none⟩) l c) x K := by
  refine ⟨fun w0 β w s' x' ty hw hsr hxr => ?_⟩
  obtain ⟨i, zv, q1, q2, q3, q4, q5, q6, q7, q8, q9⟩ := ht
  have hn := alenOf_run (P := P) (w := w) hxr hx
  rw [← q5] at hs hfit hk
  obtain ⟨N, hN, hNr, hNl⟩ := xsrc_sound (P := P) hw hxr ⟨n, hx, Nat.le_refl _⟩ hs
  obtain ⟨L, C', e', fr, k1, k2, hl, hez, hC, hxt, hfr, hc, hbase⟩ := hw.row hb
  cases hsr with
  | slz a a' => omega
  | sl b o l c' s M hM hsl =>
    rw [k1] at hM; cases hM
    have hle : l * i.size + n * i.size ≤ c * i.size := by rw [← Nat.add_mul]; exact Nat.mul_le_mul_right _ hroom
    obtain ⟨w1, hst, hw1⟩ := store_row (P := P) (o := o + l * i.size) (l := news) (a' := N) hw hb k1 hNr (by omega) hone
    rw [run_room q1 ht1 hd1 q2 hn (by omega) hN (w1 := w1) (fun a ha => by cases ha; rw [add_none, Nat.add_assoc]; exact hst) (fun ha => by cases ha)]
    exact ⟨_, _, β, hk, Inj.le.refl _, .sl _ _ _ _ _ _ k1 hsl, hw1⟩

/-- A slice whose capacity is known to the last place. -/
def Exact (h : AH) : Value → Prop
  | .slice none _ _ => True
  | .slice (some ⟨_, _, some 0⟩) _ _ => True
  | .slice (some ⟨b, _, none⟩) _ _ => ∃ c z, h.get b = some (.row c z false)
  | _ => False

/-- There is none: a new array, of some capacity. -/
theorem AppW.grows {t0 t1 e : TypeId} {z : List Value} {bytes : Nat} {d1 : TypeDesc} {base : Option Addr} {l c n : Nat} {x : Value} {old news : List Value} {K : Value → AH → Prop} (ht : ElemT P t0 e z bytes) (ht1 : P.underlying t1 = some d1)
    (hd1 : isIntD d1 = false) (hx : alenOf x = some n) (hs : xsrc h z.length n x = some news) (hone : oneCells news = true) (hold : xsrc h z.length l (.slice base l c) = some old) (hex : Exact h (.slice base l c)) (hroom : c < l + n)
    (hbig : l + n ≤ 4611686018427387904) (hfit : (l + n) * bytes ≤ 140737488355328)
    (hk : ∀ c', l + n ≤ c' → K (.slice (some ⟨h.next, 0, none⟩) (l + n) c') (h.new (.row (old ++ news ++ azeros z (c' - (l + n))) z.length false))) : AppW P h t0 t1 (.slice base l c) x K := by
  refine ⟨fun w0 β w s' x' ty hw hsr hxr => ?_⟩
  obtain ⟨i, zv, q1, q2, q3, q4, q5, q6, q7, q8, q9⟩ := ht
  have hn := alenOf_run (P := P) (w := w) hxr hx
  subst q4 q9
  rw [← q5] at hs hold hk
  have hdw : WR w0 β h w.drew := hw.drew
  obtain ⟨N, hN, hNr, hNl⟩ := xsrc_sound (P := P) hdw hxr ⟨n, hx, Nat.le_refl _⟩ hs
  obtain ⟨O, hO, hOr, hOl⟩ := xsrc_sound (P := P) hdw hsr ⟨l, rfl, Nat.le_refl _⟩ hold
  have hs' : ∃ bs, s' = .slice bs l c := by
    cases hsr with
    | nils l c => exact ⟨_, rfl⟩
    | slz a a' => exact ⟨_, rfl⟩
    | osl g o l c => exact ⟨_, rfl⟩
    | sl b o l c s L hL hsl =>
      obtain ⟨c2, z2, hb2⟩ := hex
      obtain ⟨L', C', e', fr, k1, k2, hl, hez, hC, hxt, hfr, hc, hbase⟩ := hw.row hb2
      rw [hL] at k1; cases k1
      have h0 : s = 0 := by
        rcases hsl with h0 | ⟨h1, h2, h3⟩
        · exact h0
        · have h4 := hxt rfl
          by_cases hs0 : s = 0
          · exact hs0
          · have := Nat.mul_pos (Nat.pos_of_ne_zero hs0) h3; omega
      subst h0
      exact ⟨_, rfl⟩
  obtain ⟨bs, hbs⟩ := hs'
  rw [run_fresh' (ty := ty) q1 ht1 hd1 q2 q3 hbs hn hroom hbig hfit hO hN]
  have hcap : l + n ≤ grownCap w (l + n) c e := by unfold grownCap; show l + n ≤ l + n + _; omega
  have hz0 := zeros_rel (β := β) (z := zv) (grownCap w (l + n) c e - (l + n)) q7
  have hall : AR β (old ++ news ++ azeros zv.cells.toList (grownCap w (l + n) c e - (l + n))).toArray (O ++ N ++ Builtin.zeroCells zv.cells (grownCap w (l + n) c e - (l + n))) := by
    have e1 : (old ++ news ++ azeros zv.cells.toList (grownCap w (l + n) c e - (l + n))).toArray = old.toArray ++ news.toArray ++ (azeros zv.cells.toList (grownCap w (l + n) c e - (l + n))).toArray := by apply Array.ext'; simp
    rw [e1]
    exact AR.append (AR.append hOr hNr) hz0
  obtain ⟨β', h1, h2, h3⟩ := new_row (e := e) (z := i.size) hdw hall
  refine ⟨_, _, β', hk _ hcap, h1, ?_, h3⟩
  have := VR.sl (β := β') h.next 0 (l + n) (grownCap w (l + n) c e) 0 _ h2 (.inl rfl)
  simpa using this

/-- make. -/
theorem MakeW.intro {t e : TypeId} {z : List Value} {bytes : Nat} {k k' : IntKind} {n m : Int} {K : Value → AH → Prop} (ht : ElemT P t e z bytes) (h0 : 0 ≤ n) (hnm : n ≤ m) (hm : m ≤ 4611686018427387904) (hb : (bytes : Int) * m ≤ 281474976710656)
    (hk : K (.slice (some ⟨h.next, 0, none⟩) n.toNat m.toNat) (h.new (.row (azeros z m.toNat) z.length false))) : MakeW P h t (.int k n) (.int k' m) K := by
  refine ⟨fun w0 β w l' c' hw hl hc => ?_⟩
  obtain ⟨i, zv, q1, q2, q3, q4, q5, q6, q7, q8, q9⟩ := ht
  cases hl; cases hc
  subst q4 q9
  rw [← q5] at hk
  have hr := zeros_rel (β := β) (z := zv) m.toNat q7
  have c6 : zv.cells.size = i.size := by rw [q5]; simp
  obtain ⟨β', h1, h2, h3⟩ := new_row (e := e) (z := i.size) hw hr
  refine SW.of_vok (v := .slice (some ⟨h.next, 0, none⟩) n.toNat m.toNat) ⟨.slice (some ⟨w.heap.size, 0, none⟩) n.toNat m.toNat, _, β', ?_, h1, ?_, h3⟩ hk
  · have w1 : IntKind.i64.wrap n = n := IntWalk.i64_in n (by omega)
    have w2 : IntKind.i64.wrap m = m := IntWalk.i64_in m (by omega)
    have t1 : ¬ (m < 0 ∨ (281474976710656 : Int) < (i.bytes : Int) * m) := by omega
    have t2 : ¬ (n < 0) := by omega
    have t3 : ¬ (m < n) := by omega
    simp only [Instr.makeSlice, Sem.run_bind, run_underlying q1, Result.andThen, asInt, asIntOf, Sem.run_pure, run_typeInfo q2, w1, w2]
    rw [if_neg (by simp; omega)]
    by_cases h0 : m.toNat * i.size = 0
    · simp [run_askRoom, Result.andThen, run_sizeOf q2, newRow, h0, c6]
      have hr0 : Array.range 0 = #[] := rfl
      rw [hr0]; simp
    · simp [run_askRoom, Result.andThen, run_sizeOf q2, newRow, h0, run_zero q2 q3, c6]
  · have := VR.sl (β := β') h.next 0 n.toNat m.toNat 0 _ h2 (.inl rfl)
    simpa using this

/-- copy. -/
theorem CopyW.intro {t0 t1 e : TypeId} {z : List Value} {bytes : Nat} {b o dl dc m : Nat} {x : Value} {C l : List Value} {zz : Nat} {lo : Bool} {K : Value → AH → Prop} (ht : ElemT P t0 e z bytes) (hx : alenOf x = some m) (hpos : 0 < min m dl)
    (hs : xsrc h z.length (min m dl) x = some l) (hone : oneCells l = true) (hb : h.get b = some (.row C zz lo)) (hfit : o + min m dl * z.length ≤ C.length)
    (hk : K (.int .i64 (min m dl : Nat)) (h.put b (.row (lsplice C o l) zz lo))) : CopyW P h t0 t1 (.slice (some ⟨b, o, none⟩) dl dc) x K := by
  refine ⟨fun w0 β w s' x' ty hw hsr hxr => ?_⟩
  obtain ⟨i, zv, q1, q2, q3, q4, q5, q6, q7, q8, q9⟩ := ht
  subst q4
  rw [← q5] at hs hfit
  have hn := alenOf_run (P := P) (w := w) hxr hx
  obtain ⟨N, hN, hNr, hNl⟩ := xsrc_sound (P := P) hw hxr ⟨m, hx, Nat.min_le_left m dl⟩ hs
  obtain ⟨L, C', e', fr, k1, k2, hl, hez, hC, hxt, hfr, hc, hbase⟩ := hw.row hb
  cases hsr with
  | slz a a' => rw [Nat.min_zero] at hpos; exact absurd hpos (Nat.lt_irrefl _)
  | sl b o l' c' s M hM hsl =>
    rw [k1] at hM; cases hM
    obtain ⟨w', hst, hw'⟩ := store_row (P := P) (o := o) (l := l) (a' := N) hw hb k1 hNr (by omega) hone
    refine SW.of_vok (v := .int .i64 (min m dl : Nat)) ⟨goInt (min m dl : Nat), w', β, ?_, Inj.le.refl _, .int _ _, hw'⟩ hk
    simp [Builtin.copy_, run_underlying q1, hn, Result.andThen, run_sizeOf q2, hN, hst]

/-- copy of nothing. -/
theorem CopyW.zero {t0 t1 e : TypeId} {z : List Value} {bytes : Nat} {base : Option Addr} {dl dc m : Nat} {x : Value} {K : Value → AH → Prop} (ht : ElemT P t0 e z bytes) (hx : alenOf x = some m) (h0 : min m dl = 0)
    (hk : K (.int .i64 0) h) : CopyW P h t0 t1 (.slice base dl dc) x K := by
  refine ⟨fun w0 β w s' x' ty hw hsr hxr => ?_⟩
  obtain ⟨i, zv, q1, q2, q3, q4, q5, q6, q7, q8, q9⟩ := ht
  have hn := alenOf_run (P := P) (w := w) hxr hx
  obtain ⟨N, hN, hNr, hNl⟩ := asrc_sound (P := P) (size := i.size) (n := 0) (l := []) hw hxr ⟨m, hx, Nat.zero_le _⟩ rfl
  have hNe : N = #[] := by
    have := hNr.1
    apply Array.eq_empty_of_size_eq_zero
    simpa using this.symm
  subst hNe
  have key : ∀ bs, s'= .slice bs dl dc → SW w0 β K ((Builtin.copy_ #[t0, t1] ty #[s', x']).run P w) := fun bs e => by
    subst e
    refine SW.of_vok (v := .int .i64 0) ⟨goInt 0, w, β, ?_, Inj.le.refl _, .int _ _, hw⟩ hk
    have h0' : Nat.min m dl = 0 := h0
    cases bs <;> simp [Builtin.copy_, run_underlying q1, hn, Result.andThen, run_sizeOf q2, h0, hN, storeCells]
  cases hsr with
  | nils l c => exact key _ rfl
  | slz a a' => exact key _ rfl
  | osl g o l c => exact key _ rfl
  | sl b o l c s L hL hsl =>
    refine SW.of_vok (v := .int .i64 0) ⟨goInt 0, w, β, ?_, Inj.le.refl _, .int _ _, hw⟩ hk
    simp [Builtin.copy_, run_underlying q1, hn, Result.andThen, run_sizeOf q2, h0, hN, storeCells]

/-- string(b) -/
theorem ConvW.str {src dst e : TypeId} {p : Option Addr} {l c : Nat} {xs : List UInt8} {K : Value → AH → Prop} (hs : P.underlying src = some (.slice e)) (hd : P.underlying dst = some .string) (he : P.underlying e = some (.int .u8))
    (hx : xsrc h 1 l (.slice p l c) = some (bv xs)) (hk : K (.string ⟨xs.toArray⟩) h) : ConvW P h src dst (.slice p l c) K :=
  ⟨fun w0 β w x' hw hxr => SW.of_vok (v := .string ⟨xs.toArray⟩) ⟨.string ⟨xs.toArray⟩, w, β, conv_str_run hw hxr hs hd he hx, Inj.le.refl _, .string _, hw⟩ hk⟩

/-- []byte(s) -/
theorem ConvW.bytes {src dst e : TypeId} {s : ByteArray} {K : Value → AH → Prop} (hs : P.underlying src = some .string) (hd : P.underlying dst = some (.slice e)) (he : P.underlying e = some (.int .u8))
    (hk : ∀ c, s.size ≤ c → K (.slice (some ⟨h.next, 0, none⟩) s.size c) (h.new (.row (bv s.data.toList ++ List.replicate (c - s.size) (.int .u8 0)) 1 false))) : ConvW P h src dst (.string s) K := by
  refine ⟨fun w0 β w x' hw hxr => ?_⟩
  cases hxr
  have hcap : s.size ≤ grownCap w s.size 0 e := by unfold grownCap; show s.size ≤ s.size + _; omega
  have hCs : (bytesRow s (grownCap w s.size 0 e)).size = s.data.size + (grownCap w s.size 0 e - s.size) := by
    simp only [bytesRow, Array.size_append, Array.size_map, Array.size_replicate]
  have hW : WR w0 β h w.drew := hw.drew
  have hle : Inj.le β (β.add h.next ⟨w.drew.heap.size, 0, (bv s.data.toList ++ List.replicate (grownCap w s.size 0 e - s.size) (Value.int .u8 0)).length, 1, 0⟩) := Inj.add_le (hw.fresh _ (Nat.le_refl _))
  have hlen : (bv s.data.toList ++ List.replicate (grownCap w s.size 0 e - s.size) (Value.int .u8 0)).length = (bytesRow s (grownCap w s.size 0 e)).size := by rw [hCs]; simp [bv]
  have hcells : (bytesRow s (grownCap w s.size 0 e)) = (bv s.data.toList ++ List.replicate (grownCap w s.size 0 e - s.size) (Value.int .u8 0)).toArray := by
    apply Array.ext'; simp [bytesRow, bv]
  have ho : OR (β.add h.next ⟨w.drew.heap.size, 0, (bv s.data.toList ++ List.replicate (grownCap w s.size 0 e - s.size) (Value.int .u8 0)).length, 1, 0⟩) ⟨w.drew.heap.size, 0, (bv s.data.toList ++ List.replicate (grownCap w s.size 0 e - s.size) (Value.int .u8 0)).length, 1, 0⟩
      (.row (bv s.data.toList ++ List.replicate (grownCap w s.size 0 e - s.size) (Value.int .u8 0)) 1 false) (.cells (bytesRow s (grownCap w s.size 0 e)) e ((bytesRow s (grownCap w s.size 0 e)).size, (bytesRow s (grownCap w s.size 0 e)).size + 1)) := by
    refine .row _ 1 false _ e _ rfl rfl (by simp only [hlen]; omega) (fun _ => rfl) (.inr (Nat.le_refl _)) fun i hi => ?_
    rw [hcells]
    simp only [Nat.zero_add]
    rw [toArray_getD]
    have hg : ground 8 ((bv s.data.toList ++ List.replicate (grownCap w s.size 0 e - s.size) (Value.int .u8 0)).getD i undef) = true := by
      rw [List.getD_eq_getElem?_getD, List.getElem?_eq_getElem hi]
      have hm := List.getElem_mem hi
      simp only [Option.getD_some]
      rcases List.mem_append.1 hm with hm | hm
      · obtain ⟨q, _, hq⟩ := List.mem_map.1 hm; rw [← hq]; rfl
      · rw [(List.mem_replicate.1 hm).2]; rfl
    exact refl_ground _ 8 _ hg
  obtain ⟨h1, h2⟩ := hW.new rfl ho
  refine SW.of_vok (v := .slice (some ⟨h.next, 0, none⟩) s.size (grownCap w s.size 0 e)) ⟨_, _, _, run_bytes_of_string w src dst e s hs hd he, h2, ?_, h1⟩ (hk _ hcap)
  have := VR.sl (β := β.add h.next ⟨w.drew.heap.size, 0, (bv s.data.toList ++ List.replicate (grownCap w s.size 0 e - s.size) (Value.int .u8 0)).length, 1, 0⟩) h.next 0 s.size (grownCap w s.size 0 e) 0 _ Inj.add_at (.inl rfl)
  simpa using this
end
end
end Go.AE

/- Slices that are read; closed calls. -/
namespace Go.AE
noncomputable section
open Go.RowKit

theorem WR.later {w0 w w' : World} {β : Inj} {h : AH} (hw : WR w0 β h w) (hb : Below w.heap.size w w') : WR w0 β h w' := by
  refine ⟨hw.below.trans (hb.mono hw.below.size), ?_, hw.inj, hw.fresh, hw.glob⟩
  intro b o h1
  obtain ⟨L, O, q1, q2, q3, q4⟩ := hw.obj b o h1
  exact ⟨L, O, q1, by rw [hb.block _ (Array.getElem?_eq_some_iff.1 q2).1]; exact q2, q3, q4⟩

theorem ground_all_AR {args : List Value} (hg : args.all (ground 8) = true) (β : Inj) : AR β args.toArray args.toArray := by
  refine ⟨rfl, fun i hi => ?_⟩
  have hi' : i < args.length := by simpa using hi
  have := List.all_eq_true.1 hg _ (List.getElem_mem hi')
  rw [toArray_getD, List.getD_eq_getElem?_getD, List.getElem?_eq_getElem hi']
  exact refl_ground β 8 _ this
/-- A closed call that the evaluator answers. -/
theorem CallW.of_ev {P : Program} (hN : NoNum P) (k : Nat) {f : FuncId} {args : List Value} {gl : List (Nat × List Value)} {v : Value} {h : AH} {K : Value → AH → Prop} (hv : allAre v ((ev P k).call f args (.start gl)) = true)
    (hg : ground 8 v = true) (ha : args.all (ground 8) = true) (hgl : ∀ g c, assoc gl g = some c → assoc h.gl g = some c) (hk : K v h) : CallW P f args h K := by
  refine ⟨fun w0 β w args' hw har n => ?_⟩
  have hargs : args' = args.toArray := by
    refine array_ext_getD har.1 fun i hi => ?_
    have hi' : i < args.length := by simpa using hi
    have h1 := List.all_eq_true.1 ha _ (List.getElem_mem hi')
    have h2 := har.2 i hi
    have e : args.toArray.getD i undef = args[i] := by rw [toArray_getD, List.getD_eq_getElem?_getD, List.getElem?_eq_getElem hi']; rfl
    rw [e] at h2 ⊢
    exact h2.ground 8 h1
  subst hargs
  have hG : GL w gl := fun g c hc => by
    obtain ⟨C, e, fr, q1, q2⟩ := hw.glob g c (hgl g c hc)
    exact ⟨C, e, fr, by rw [hw.below.block g (Array.getElem?_eq_some_iff.1 q1).1]; exact q1, q2⟩
  cases hq : (ev P k).call f args (.start gl) with
  | none => rw [hq] at hv; cases hv
  | some outs =>
    rw [hq] at hv
    have hall := List.all_eq_true.1 hv
    have := (ev_sound hN w k).call f args (.start gl) outs hq (fun _ => none) w args.toArray (WR.start hG) (ground_all_AR ha _) n
    refine this.mono ?_
    rintro e w' ⟨v', rfl, x, h1, β', h2, h3, h4⟩
    have h5 := veq_eq 8 _ _ (hall x h1)
    rw [h5] at h3
    have h6 := h3.ground 8 hg
    subst h6
    exact ⟨v', rfl, v', h, β, hk, Inj.le.refl _, refl_ground β 8 _ hg, hw.later h4.below⟩

theorem all_sub {l : List Value} {n : Nat} (h : l.all known = true) : (l.take n).all known = true := List.all_eq_true.2 fun x hx => List.all_eq_true.1 h x (List.mem_of_mem_take hx)
theorem all_sub' {l : List Value} {n : Nat} (h : l.all known = true) : (l.drop n).all known = true := List.all_eq_true.2 fun x hx => List.all_eq_true.1 h x (List.mem_of_mem_drop hx)
/-- The cells of a slice of l elements of z cells each. -/
def Sl (h : AH) (z : Nat) (p : Option Addr) (l : Nat) (cs : List Value) : Prop :=
  cs.length = l * z ∧ (0 < l → ∃ a C, p = some a ∧ ((a.spot = none ∧ ∃ zz lo, h.get a.block = some (.row C zz lo)) ∨ (a.spot = some 0 ∧ assoc h.gl a.block = some C ∧ cs.all known = true)) ∧ a.off + l * z ≤ C.length ∧ (C.drop a.off).take (l * z) = cs)
/-- What was there is there. -/
def Keeps (h h' : AH) : Prop := (∀ b o, h.get b = some o → h'.get b = some o) ∧ h'.gl = h.gl
theorem Keeps.refl (h : AH) : Keeps h h := ⟨fun _ _ q => q, rfl⟩
theorem Keeps.trans {a b c : AH} (h : Keeps a b) (k : Keeps b c) : Keeps a c := ⟨fun i o q => k.1 i o (h.1 i o q), k.2.trans h.2⟩
theorem Sl.keeps {h h' : AH} {z : Nat} {p : Option Addr} {l : Nat} {cs : List Value} (hk : Keeps h h') (hs : Sl h z p l cs) : Sl h' z p l cs := by
  refine ⟨hs.1, fun hl => ?_⟩
  obtain ⟨a, C, q1, q2, q3⟩ := hs.2 hl
  refine ⟨a, C, q1, ?_, q3⟩
  rcases q2 with ⟨r1, zz, lo, r2⟩ | ⟨r1, r2⟩
  · exact .inl ⟨r1, zz, lo, hk.1 _ _ r2⟩
  · exact .inr ⟨r1, by rw [hk.2]; exact r2.1, r2.2⟩
theorem Sl.nil {h : AH} {z : Nat} {p : Option Addr} : Sl h z p 0 [] := ⟨by simp, fun h => absurd h (Nat.lt_irrefl _)⟩

section
variable {P : Program} {h : AH} {t e : TypeId} {j : TypeInfo} {d : TypeDesc} {z : Nat} {p : Option Addr} {l c : Nat} {cs : List Value} {i : Int} {k : IntKind}

theorem take_drop_get (C : List Value) (o n i : Nat) (hi : i < n) : ((C.drop o).take n)[i]? = C[o + i]? := by
  rw [List.getElem?_take_of_lt hi, List.getElem?_drop]

/-- The i-th element, where elements are one cell. -/
theorem Sl.at1 (hT : P.underlying t = some (.slice e)) (hj : P.info? e = some j) (hz : j.size = 1) (hd : P.underlying e = some d) (ha : isAggD d = false) (hs : Sl h 1 p l cs) (h0 : 0 ≤ i) (hi : i < l) :
    ∃ q, xindexAddr P t (.slice p l c) (.int k i) = some (.pointer q) ∧ xload P h e (.pointer q) = some (cs.getD i.toNat undef) := by
  have hil : i.toNat < l := by omega
  obtain ⟨a, C, rfl, q2, q3, q4⟩ := hs.2 (by omega)
  obtain ⟨b, o, s⟩ := a
  simp only [Nat.mul_one] at q3 q4
  have hc : cs.getD i.toNat undef = C.getD (o + i.toNat) undef := by
    rw [List.getD_eq_getElem?_getD, List.getD_eq_getElem?_getD, ← q4, take_drop_get _ _ _ _ hil]
  have hlt : o + i.toNat < C.length := by omega
  rw [hc]
  rcases q2 with ⟨r1, zz, lo, r2⟩ | ⟨r1, r2⟩
  · simp only at r1 r2
    subst r1
    refine ⟨some ⟨b, o + i.toNat * j.size, none⟩, ?_, ?_⟩
    · simp only [xindexAddr, eindexAddr, hT, aindexAddr, h0, hi, and_self, if_true, hj]
    · simp only [xload, eload, aload, r2, hd, ha, hz, Nat.mul_one]
      simp [List.getD_eq_getElem?_getD, hlt]
  · simp only at r1 r2
    obtain ⟨r2, r3⟩ := r2
    subst r1
    have hk : known (C.getD (o + i.toNat) undef) = true := by rw [← hc]; exact all_getD r3 (by rw [hs.1]; omega)
    refine ⟨some ⟨b, o + i.toNat * j.size, some 0⟩, ?_, ?_⟩
    · simp only [xindexAddr, eindexAddr, hT, h0, hi, and_self, if_true, hj]
    · simp only [xload, eload, aload, r2, hd, hj, ha, hz, Nat.mul_one, Bool.false_eq_true, false_and, if_false]
      rw [List.getD_eq_getElem?_getD] at hk ⊢
      rw [List.getElem?_eq_getElem hlt, Option.getD_some] at hk ⊢
      simp only [hk, if_true]
/-- The i-th element, where they are more. -/
theorem Sl.atN (hT : P.underlying t = some (.slice e)) (hj : P.info? e = some j) (hz : j.size = z) (hd : P.underlying e = some d) (ha : isAggD d = true) (hs : Sl h z p l cs) (h0 : 0 ≤ i) (hi : i < l) :
    ∃ q, xindexAddr P t (.slice p l c) (.int k i) = some (.pointer q) ∧ NonNil (.pointer q) ∧ xload P h e (.pointer q) = some (.agg ((cs.drop (i.toNat * z)).take z).toArray) := by
  have hil : i.toNat < l := by omega
  obtain ⟨a, C, rfl, q2, q3, q4⟩ := hs.2 (by omega)
  obtain ⟨b, o, s⟩ := a
  simp only at q3 q4
  have hm : i.toNat * z + z ≤ l * z := by
    have : (i.toNat + 1) * z ≤ l * z := Nat.mul_le_mul_right _ hil
    rw [Nat.add_mul] at this; omega
  have hc : (cs.drop (i.toNat * z)).take z = (C.drop (o + i.toNat * z)).take z := by
    rw [← q4, List.drop_take, List.drop_drop, List.take_take]
    congr 1; omega
  rw [hc]
  rcases q2 with ⟨r1, zz, lo, r2⟩ | ⟨r1, r2⟩
  · simp only at r1 r2
    subst r1
    refine ⟨some ⟨b, o + i.toNat * j.size, none⟩, ?_, .ptr _ _, ?_⟩
    · simp only [xindexAddr, eindexAddr, hT, aindexAddr, h0, hi, and_self, if_true, hj]
    · simp only [xload, eload, aload, r2, hd, ha, hz, hj, if_true]
      rw [if_pos (by omega)]
  · simp only at r1 r2
    obtain ⟨r2, r3⟩ := r2
    subst r1
    refine ⟨some ⟨b, o + i.toNat * j.size, some 0⟩, ?_, .eld _ _, ?_⟩
    · simp only [xindexAddr, eindexAddr, hT, h0, hi, and_self, if_true, hj]
    · simp only [xload, eload, r2, hd, hj, ha, hz, true_and]
      rw [if_pos ⟨by omega, by rw [← hc]; exact all_sub (all_sub' r3)⟩]
/-- Its first n elements, as a source. -/
theorem Sl.src (hs : Sl h z p l cs) {n : Nat} (hn : n ≤ l) : xsrc h z n (.slice p l c) = some (cs.take (n * z)) := by
  by_cases h0 : n = 0
  · subst h0
    rw [Nat.zero_mul, List.take_zero]
    unfold xsrc
    have : ∀ r, esrc h z 0 (.slice p l c) = some r → r = [] := by
      intro r hr
      unfold esrc at hr
      split at hr
      · split at hr
        · split at hr
          · cases hr; simp
          · cases hr
        · cases hr
      · cases hr
    split
    · rename_i r hr; rw [this r hr]
    · rfl
  · obtain ⟨a, C, rfl, q2, q3, q4⟩ := hs.2 (by omega)
    obtain ⟨b, o, s⟩ := a
    simp only at q3 q4
    have hm : n * z ≤ l * z := Nat.mul_le_mul_right _ hn
    have e : cs.take (n * z) = (C.drop o).take (n * z) := by
      rw [← q4, List.take_take]; congr 1; omega
    rw [e]
    obtain ⟨n, rfl⟩ : ∃ m, n = m + 1 := ⟨n - 1, by omega⟩
    rcases q2 with ⟨r1, zz, lo, r2⟩ | ⟨r1, r2⟩
    · simp only at r1 r2
      subst r1
      simp only [xsrc, esrc, asrc, r2]
      rw [if_pos (by omega)]
    · simp only at r1 r2
      subst r1
      obtain ⟨r2, r3⟩ := r2
      simp only [xsrc, esrc, r2]
      rw [if_pos ⟨by omega, by rw [← e]; exact all_sub r3⟩]
end
end
end Go.AE

/- What changes of a heap. -/
namespace Go.AE
noncomputable section
open Go.RowKit

/-- Every object's name is one that was given. -/
def Wf (h : AH) : Prop := ∀ b o, h.get b = some o → b < h.next
theorem CallW.wf {P : Program} {f : FuncId} {args : List Value} {h : AH} {Q : Value → AH → Prop} (hc : Wf h → CallW P f args h Q) : CallW P f args h Q :=
  ⟨fun w0 β w args' hw ha n => (hc fun b o hb => hw.lt hb).out w0 β w args' hw ha n⟩
theorem Wf.new {h : AH} (hw : Wf h) (o : AObj) : Wf (h.new o) := by
  intro b x hb
  rw [AH.get_new] at hb
  show b < h.next + 1
  split at hb
  · omega
  · have := hw b x hb; omega
theorem Wf.put {h : AH} (hw : Wf h) {b : Nat} {o : AObj} (hb : h.get b = some o) (o' : AObj) : Wf (h.put b o') := by
  intro i x hi
  rw [AH.get_put] at hi
  show i < h.next
  split at hi
  · rename_i e; subst e; exact hw b o hb
  · exact hw i x hi
theorem Wf.none {h : AH} (hw : Wf h) {b : Nat} (hb : h.next ≤ b) : h.get b = none := by
  cases hq : h.get b with
  | none => rfl
  | some o => have := hw b o hq; omega

/-- h' is h, but for the cells in W, and for what is new. -/
structure Chg (W : Nat → Nat → Prop) (h h' : AH) : Prop where
  gl : h'.gl = h.gl
  next : h.next ≤ h'.next
  row : ∀ b C z lo, h.get b = some (.row C z lo) → ∃ C', h'.get b = some (.row C' z lo) ∧ C'.length = C.length ∧ ∀ i, ¬ W b i → C'[i]? = C[i]?
  obj : ∀ b o, h.get b = some o → (∀ C z lo, o ≠ .row C z lo) → (∀ i, ¬ W b i) → h'.get b = some o
  wf : Wf h → Wf h'
def Nothing : Nat → Nat → Prop := fun _ _ => False
theorem Chg.refl (W : Nat → Nat → Prop) (h : AH) : Chg W h h := ⟨rfl, Nat.le_refl _, fun b C z lo hb => ⟨C, hb, rfl, fun _ _ => rfl⟩, fun _ _ hb _ _ => hb, fun w => w⟩
theorem Chg.mono {W W' : Nat → Nat → Prop} {h h' : AH} (hc : Chg W h h') (hw : ∀ b o, h.get b = some o → ∀ i, W b i → W' b i) : Chg W' h h' :=
  ⟨hc.gl, hc.next, fun b C z lo hb => let ⟨C', q1, q2, q3⟩ := hc.row b C z lo hb; ⟨C', q1, q2, fun i hi => q3 i fun hq => hi (hw b _ hb i hq)⟩, fun b o hb hn hi => hc.obj b o hb hn fun i hq => hi i (hw b o hb i hq), hc.wf⟩
theorem Chg.trans {W : Nat → Nat → Prop} {a b c : AH} (h : Chg W a b) (k : Chg W b c) : Chg W a c := by
  refine ⟨k.gl.trans h.gl, Nat.le_trans h.next k.next, ?_, ?_, fun w => k.wf (h.wf w)⟩
  · intro i C z lo hi
    obtain ⟨C', q1, q2, q3⟩ := h.row i C z lo hi
    obtain ⟨C2, r1, r2, r3⟩ := k.row i C' z lo q1
    exact ⟨C2, r1, r2.trans q2, fun j hj => (r3 j hj).trans (q3 j hj)⟩
  · intro i o hi hn hw
    exact k.obj i o (h.obj i o hi hn hw) hn hw
/-- A new object. -/
theorem Chg.new {W : Nat → Nat → Prop} {h : AH} (hw : Wf h) (o : AObj) : Chg W h (h.new o) := by
  have ne : ∀ b x, h.get b = some x → ¬ h.next = b := fun b x hb e => by have := hw b x hb; omega
  refine ⟨rfl, Nat.le_succ _, fun b C z lo hb => ⟨C, ?_, rfl, fun _ _ => rfl⟩, fun b x hb _ _ => ?_, fun w => w.new o⟩
  · rw [AH.get_new, if_neg (ne b _ hb)]; exact hb
  · rw [AH.get_new, if_neg (ne b _ hb)]; exact hb
/-- Cells of a row are written. -/
theorem Chg.put {W : Nat → Nat → Prop} {h : AH} {b : Nat} {C C' : List Value} {z : Nat} {lo : Bool} (hb : h.get b = some (.row C z lo)) (hl : C'.length = C.length) (hi : ∀ i, ¬ W b i → C'[i]? = C[i]?) : Chg W h (h.put b (.row C' z lo)) := by
  refine ⟨rfl, Nat.le_refl _, fun i D y l hd => ?_, fun i x hx hn _ => ?_, fun w => w.put hb _⟩
  · by_cases e : b = i
    · subst e
      rw [hb] at hd; cases hd
      exact ⟨C', by rw [AH.get_put, if_pos rfl]; rfl, hl, hi⟩
    · exact ⟨D, by rw [AH.get_put, if_neg e]; exact hd, rfl, fun _ _ => rfl⟩
  · by_cases e : b = i
    · subst e
      rw [hb] at hx; cases hx
      exact absurd rfl (hn C z lo)
    · rw [AH.get_put, if_neg e]; exact hx

/-- A slice that lies apart from W. -/
def ApartW (W : Nat → Nat → Prop) (p : Option Addr) (n : Nat) : Prop := ∀ a, p = some a → a.spot = none → ∀ i, a.off ≤ i → i < a.off + n → ¬ W a.block i
theorem Sl.chg {W : Nat → Nat → Prop} {h h' : AH} {z : Nat} {p : Option Addr} {l : Nat} {cs : List Value} (hc : Chg W h h') (hs : Sl h z p l cs) (ha : ApartW W p (l * z)) : Sl h' z p l cs := by
  refine ⟨hs.1, fun hl => ?_⟩
  obtain ⟨a, C, q1, q2, q3, q4⟩ := hs.2 hl
  rcases q2 with ⟨r1, zz, lo, r2⟩ | ⟨r1, r2⟩
  · obtain ⟨C', k1, k2, k3⟩ := hc.row _ _ _ _ r2
    refine ⟨a, C', q1, .inl ⟨r1, zz, lo, k1⟩, by omega, ?_⟩
    rw [← q4]
    apply List.ext_getElem?
    intro i
    by_cases hi : i < l * z
    · rw [take_drop_get _ _ _ _ hi, take_drop_get _ _ _ _ hi]
      exact k3 _ (ha a q1 r1 _ (by omega) (by omega))
    · rw [List.getElem?_eq_none (by simp; omega), List.getElem?_eq_none (by simp; omega)]
  · exact ⟨a, C, q1, .inr ⟨r1, by rw [hc.gl]; exact r2.1, r2.2⟩, q3, q4⟩
theorem ApartW.nothing {p : Option Addr} {n : Nat} : ApartW Nothing p n := fun _ _ _ _ _ _ h => h
theorem Sl.chg0 {h h' : AH} {z : Nat} {p : Option Addr} {l : Nat} {cs : List Value} (hc : Chg Nothing h h') (hs : Sl h z p l cs) : Sl h' z p l cs := hs.chg hc ApartW.nothing
theorem Chg.weak {W : Nat → Nat → Prop} {h h' : AH} (hc : Chg Nothing h h') : Chg W h h' := hc.mono fun _ _ _ _ q => q.elim

/-- The place of a slice's element, and a store into it. -/
theorem idx_row {P : Program} {t e : TypeId} {j : TypeInfo} {b o l c : Nat} {i : Int} {k : IntKind} (hT : P.underlying t = some (.slice e)) (hj : P.info? e = some j) (h0 : 0 ≤ i) (hi : i < l) :
    xindexAddr P t (.slice (some ⟨b, o, none⟩) l c) (.int k i) = some (.pointer (some ⟨b, o + i.toNat * j.size, none⟩)) := by
  simp only [xindexAddr, eindexAddr, hT, aindexAddr, h0, hi, and_self, if_true, hj]
theorem store1 {P : Program} {e : TypeId} {j : TypeInfo} {h : AH} {b o : Nat} {C : List Value} {z : Nat} {lo : Bool} {v : Value} (hj : P.info? e = some j) (hz : j.size = 1) (hb : h.get b = some (.row C z lo)) (ho : o < C.length)
    (hv : v.cells = #[v]) (h1 : oneCells [v] = true) : astore P h e (.pointer (some ⟨b, o, none⟩)) v = some (h.put b (.row (C.set o v) z lo)) := by
  have e1 : lsplice C o [v] = C.set o v := by
    unfold lsplice
    rw [List.set_eq_take_append_cons_drop, if_pos ho]
    simp
  simp only [astore, hb, hj, hz, hv]
  rw [if_pos ⟨rfl, by omega, h1⟩]
  simp only [e1]
end
end Go.AE

/- Slices that may be written and grown. -/
namespace Go.AE
noncomputable section
open Go.RowKit

/-- A slice of exact capacity in a row: its first l elements are cs. -/
def Gro (h : AH) (z : Nat) (p : Option Addr) (l c : Nat) (cs : List Value) : Prop :=
  l ≤ c ∧ cs.length = l * z ∧ ((p = none ∧ c = 0) ∨ ∃ b o C zz, p = some ⟨b, o, none⟩ ∧ h.get b = some (.row C zz false) ∧ o + c * z ≤ C.length ∧ (C.drop o).take (l * z) = cs)
theorem Gro.nil {h : AH} {z : Nat} : Gro h z none 0 0 [] := ⟨Nat.le_refl _, by simp, .inl ⟨rfl, rfl⟩⟩
theorem Gro.sl {h : AH} {z : Nat} {p : Option Addr} {l c : Nat} {cs : List Value} (hg : Gro h z p l c cs) : Sl h z p l cs := by
  obtain ⟨h1, h2, h3⟩ := hg
  refine ⟨h2, fun hl => ?_⟩
  rcases h3 with ⟨rfl, rfl⟩ | ⟨b, o, C, zz, rfl, h4, h5, h6⟩
  · omega
  · have : l * z ≤ c * z := Nat.mul_le_mul_right _ h1
    exact ⟨_, C, rfl, .inl ⟨rfl, zz, false, h4⟩, by show o + l * z ≤ C.length; omega, h6⟩
theorem Gro.exact {h : AH} {z : Nat} {p : Option Addr} {l c : Nat} {cs : List Value} (hg : Gro h z p l c cs) : Exact h (.slice p l c) := by
  rcases hg.2.2 with ⟨rfl, rfl⟩ | ⟨b, o, C, zz, rfl, h4, h5, h6⟩
  · trivial
  · exact ⟨C, zz, h4⟩

/-- Cells from a to b of what lies at p. -/
def Range (p : Option Addr) (a b : Nat) : Nat → Nat → Prop := fun r i => ∃ q, p = some q ∧ q.spot = none ∧ q.block = r ∧ q.off + a ≤ i ∧ i < q.off + b
/-- Two places, so many cells each, share none. -/
def Disj (p : Option Addr) (n : Nat) (q : Option Addr) (m : Nat) : Prop :=
  ∀ x y, p = some x → q = some y → x.spot = none → y.spot = none → n = 0 ∨ m = 0 ∨ x.block ≠ y.block ∨ x.off + n ≤ y.off ∨ y.off + m ≤ x.off
theorem Disj.apart {p q : Option Addr} {n m a b k : Nat} (hd : Disj p n q m) (hb : b ≤ n) (hk : k ≤ m) : ApartW (Range p a b) q k := by
  intro y hy hs i h1 h2 ⟨x, hx, hxs, h3, h4, h5⟩
  rcases hd x y hx hy hxs hs with h | h | h | h | h <;> omega
theorem Disj.symm {p q : Option Addr} {n m : Nat} (hd : Disj p n q m) : Disj q m p n := by
  intro x y hx hy hxs hys
  rcases hd y x hy hx hys hxs with h | h | h | h | h
  · exact .inr (.inl h)
  · exact .inl h
  · exact .inr (.inr (.inl (Ne.symm h)))
  · exact .inr (.inr (.inr (.inr h)))
  · exact .inr (.inr (.inr (.inl h)))
theorem Disj.le {p q : Option Addr} {n m n' m' : Nat} (hd : Disj p n q m) (hn : n' ≤ n) (hm : m' ≤ m) : Disj p n' q m' := by
  intro x y hx hy hxs hys
  rcases hd x y hx hy hxs hys with h | h | h | h | h
  · exact .inl (by omega)
  · exact .inr (.inl (by omega))
  · exact .inr (.inr (.inl h))
  · exact .inr (.inr (.inr (.inl (by omega))))
  · exact .inr (.inr (.inr (.inr (by omega))))
theorem Disj.none {q : Option Addr} {n m : Nat} : Disj Option.none n q m := fun x y hx => by cases hx
/-- What is new since N. -/
def New (N : Nat) : Nat → Nat → Prop := fun b _ => N ≤ b
theorem Chg.old {N : Nat} {h h' : AH} (hw : Wf h) (hN : h.next ≤ N) (hc : Chg (New N) h h') : Chg Nothing h h' :=
  hc.mono fun b o hb i (hi : N ≤ b) => by have := hw b o hb; omega
theorem Gro.chg {W : Nat → Nat → Prop} {h h' : AH} {z : Nat} {p : Option Addr} {l c : Nat} {cs : List Value} (hc : Chg W h h') (hg : Gro h z p l c cs) (ha : ApartW W p (l * z)) : Gro h' z p l c cs := by
  obtain ⟨h1, h2, h3⟩ := hg
  refine ⟨h1, h2, ?_⟩
  rcases h3 with ⟨rfl, rfl⟩ | ⟨b, o, C, zz, rfl, h4, h5, h6⟩
  · exact .inl ⟨rfl, rfl⟩
  · obtain ⟨C', k1, k2, k3⟩ := hc.row _ _ _ _ h4
    refine .inr ⟨b, o, C', zz, rfl, k1, by omega, ?_⟩
    rw [← h6]
    apply List.ext_getElem?
    intro i
    by_cases hi : i < l * z
    · rw [take_drop_get _ _ _ _ hi, take_drop_get _ _ _ _ hi]
      exact k3 _ (ha _ rfl rfl _ (by show o ≤ o + i; omega) (by show o + i < o + l * z; omega))
    · have : l * z ≤ c * z := Nat.mul_le_mul_right _ h1
      rw [List.getElem?_eq_none (by simp; omega), List.getElem?_eq_none (by simp; omega)]

theorem lsplice_get {c : List Value} {o : Nat} {l : List Value} (hn : o + l.length ≤ c.length) (i : Nat) : (lsplice c o l)[i]? = if o ≤ i ∧ i < o + l.length then l[i - o]? else c[i]? := by
  unfold lsplice
  by_cases h1 : i < o
  · rw [if_neg (by omega), List.append_assoc, List.getElem?_append_left (by simp; omega), List.getElem?_take_of_lt h1]
  · by_cases h2 : i < o + l.length
    · rw [if_pos ⟨by omega, h2⟩, List.append_assoc, List.getElem?_append_right (by simp; omega), List.getElem?_append_left (by simp; omega)]
      congr 1; simp; omega
    · rw [if_neg (by omega), List.getElem?_append_right (by simp; omega), List.getElem?_drop]
      congr 1; simp; omega

/-- append to a slice of exact capacity. -/
theorem AppW.gro {P : Program} {h : AH} {t0 t1 e : TypeId} {z : List Value} {bytes : Nat} {d1 : TypeDesc} {p : Option Addr} {l c n : Nat} {x : Value} {cs news : List Value} {K : Value → AH → Prop} (ht : ElemT P t0 e z bytes) (ht1 : P.underlying t1 = some d1)
    (hd1 : isIntD d1 = false) (hw : Wf h) (hg : Gro h z.length p l c cs) (hx : alenOf x = some n) (hs : xsrc h z.length n x = some news) (hone : oneCells news = true) (hbig : l + n ≤ 4611686018427387904) (hfit : (l + n) * bytes ≤ 140737488355328)
    (hk : ∀ p' c' h', Gro h' z.length p' (l + n) c' (cs ++ news) → Chg (Range p (l * z.length) (c * z.length)) h h' → ((p' = p ∧ c' = c ∧ h'.next = h.next) ∨ (p' = some ⟨h.next, 0, none⟩ ∧ h'.next = h.next + 1)) → K (.slice p' (l + n) c') h') :
    AppW P h t0 t1 (.slice p l c) x K := by
  have hnl : news.length = n * z.length := by
    unfold xsrc at hs
    split at hs
    · rename_i r hr
      cases hs
      unfold esrc at hr
      split at hr
      · split at hr
        · split at hr
          · cases hr; simp; omega
          · cases hr
        · cases hr
      · cases hr
    · unfold asrc at hs
      split at hs
      · cases hs; simp
      · split at hs
        · split at hs
          · split at hs
            · cases hs; simp; omega
            · cases hs
          · cases hs
        · split at hs
          · rename_i hc; cases hs; rw [hc.1]; have := hc.2; simp at this ⊢; omega
          · cases hs
        · cases hs
  obtain ⟨g1, g2, g3⟩ := hg
  by_cases hn : n = 0
  · subst hn
    have hne : news = [] := List.eq_nil_of_length_eq_zero (by omega)
    subst hne
    refine AppW.zero ht ht1 hd1 hx g1 ?_
    have := hk p c h (by rw [List.append_nil]; exact ⟨g1, g2, g3⟩) (Chg.refl _ _) (.inl ⟨rfl, rfl, rfl⟩)
    simpa using this
  · by_cases hroom : l + n ≤ c
    · rcases g3 with ⟨rfl, rfl⟩ | ⟨b, o, C, zz, rfl, h4, h5, h6⟩
      · omega
      · have hle : (l + n) * z.length ≤ c * z.length := Nat.mul_le_mul_right _ hroom
        have hadd : (l + n) * z.length = l * z.length + n * z.length := Nat.add_mul _ _ _
        have hlen : o + l * z.length + news.length ≤ C.length := by omega
        refine AppW.fits ht ht1 hd1 hx (by omega) hs hone h4 hroom h5 (hk _ c _ ?_ ?_ (.inl ⟨rfl, rfl, rfl⟩))
        · refine ⟨hroom, by rw [List.length_append]; omega, .inr ⟨b, o, _, zz, rfl, by rw [AH.get_put, if_pos rfl]; rfl, by rw [lsplice_length hlen]; exact h5, ?_⟩⟩
          apply List.ext_getElem?
          intro i
          by_cases hi : i < (l + n) * z.length
          · rw [take_drop_get _ _ _ _ hi, lsplice_get hlen]
            by_cases h1 : i < l * z.length
            · rw [if_neg (by omega), List.getElem?_append_left (by omega), ← h6, take_drop_get _ _ _ _ h1]
            · rw [if_pos (by omega), List.getElem?_append_right (by omega), g2]
              congr 1; omega
          · rw [List.getElem?_eq_none (by simp; omega), List.getElem?_eq_none (by rw [List.length_append]; omega)]
        · refine Chg.put h4 (lsplice_length hlen) fun i hi => ?_
          rw [lsplice_get hlen, if_neg]
          intro hq
          exact hi ⟨_, rfl, rfl, rfl, by show o + l * z.length ≤ i; omega, by show i < o + c * z.length; omega⟩
    · refine AppW.grows ht ht1 hd1 hx hs hone (old := cs) ?_ (Gro.exact ⟨g1, g2, g3⟩) (by omega) hbig hfit fun c' hc' => hk _ c' _ ?_ (Chg.new hw _) (.inr ⟨rfl, rfl⟩)
      · have := (Gro.sl (h := h) ⟨g1, g2, g3⟩).src (c := c) (Nat.le_refl l)
        rw [this, List.take_of_length_le (by omega)]
      · have hadd : (l + n) * z.length = l * z.length + n * z.length := Nat.add_mul _ _ _
        refine ⟨hc', by rw [List.length_append]; omega, .inr ⟨h.next, 0, _, z.length, rfl, by rw [AH.get_new, if_pos rfl]; rfl, ?_, ?_⟩⟩
        · rw [List.length_append, List.length_append, azeros_length]
          have : (l + n) * z.length + (c' - (l + n)) * z.length = c' * z.length := by rw [← Nat.add_mul]; congr 1; omega
          omega
        · rw [List.drop_zero, List.take_append_of_le_length (by rw [List.length_append]; omega), List.take_of_length_le (by rw [List.length_append]; omega)]

/-- One more element, put into a variable first. -/
theorem AppW.one {P : Program} {h : AH} {t0 t1 e : TypeId} {z : List Value} {bytes : Nat} {d1 : TypeDesc} {p : Option Addr} {l c zz : Nat} {cs vs : List Value} {K : Value → AH → Prop} (ht : ElemT P t0 e z bytes) (ht1 : P.underlying t1 = some d1)
    (hd1 : isIntD d1 = false) (hw : Wf h) (hg : Gro h z.length p l c cs) (hvl : vs.length = z.length) (hone : oneCells vs = true) (hbig : l + 1 ≤ 4611686018427387904) (hfit : (l + 1) * bytes ≤ 140737488355328)
    (hk : ∀ p' c' h', Gro h' z.length p' (l + 1) c' (cs ++ vs) → Chg (Range p (l * z.length) (c * z.length)) h h' → ((p' = p ∧ c' = c) ∨ ∃ b, p' = some ⟨b, 0, none⟩ ∧ h.next ≤ b) → K (.slice p' (l + 1) c') h') :
    AppW P (h.new (.row vs zz false)) t0 t1 (.slice p l c) (.slice (some ⟨h.next, 0, none⟩) 1 1) K := by
  refine AppW.gro ht ht1 hd1 (hw.new _) (hg.chg (Chg.new (W := Nothing) hw _) ApartW.nothing) rfl (n := 1) (news := vs) ?_ hone hbig hfit fun p' c' h' h1 h2 h3 => hk p' c' h' h1 ((Chg.new hw _).trans h2) ?_
  · have hget : (h.new (.row vs zz false)).get h.next = some (.row vs zz false) := by rw [AH.get_new, if_pos rfl]; rfl
    simp only [xsrc, esrc, asrc, hget]
    rw [if_pos (by omega)]
    simp only [List.drop_zero, Nat.zero_add, Nat.one_mul, ← hvl, List.take_length]
  · rcases h3 with ⟨h3, h4, _⟩ | ⟨h3, h4⟩
    · exact .inl ⟨h3, h4⟩
    · exact .inr ⟨_, h3, Nat.le_succ _⟩
/-- A slice that was there lies in front of what is new. -/
theorem Sl.old {h h' : AH} {W : Nat → Nat → Prop} {z : Nat} {p : Option Addr} {l N : Nat} {cs : List Value} (hw : Wf h) (hN : h.next ≤ N) (hc : Chg (fun b i => W b i ∨ N ≤ b) h h') (hs : Sl h z p l cs) (ha : ApartW W p (l * z)) : Sl h' z p l cs :=
  hs.chg (hc.mono fun b o hb i hq => hq.resolve_right (fun hn => by have := hw b o hb; omega)) ha
theorem Gro.place {h : AH} {z : Nat} {p : Option Addr} {l c : Nat} {cs : List Value} (hw : Wf h) (hg : Gro h z p l c cs) : (p = none ∧ c = 0) ∨ ∃ b o, p = some ⟨b, o, none⟩ ∧ b < h.next := by
  rcases hg.2.2 with h1 | ⟨b, o, C, zz, h1, h2, _⟩
  · exact .inl h1
  · exact .inr ⟨b, o, h1, hw b _ h2⟩
end
end Go.AE

/- Slices of slices. -/
namespace Go.AE
noncomputable section
open Go.RowKit
section
variable {P : Program} {h : AH} {t e : TypeId} {j : TypeInfo} {b o l c : Nat} {C : List Value} {zz : Nat} {k : IntKind} {n : Int}
theorem xslice_to (hT : P.underlying t = some (.slice e)) (hj : P.info? e = some j) (hb : h.get b = some (.row C zz false)) (hlc : l ≤ c) (h0 : 0 ≤ n) (hn : n ≤ c) :
    xslice P h t (.slice (some ⟨b, o, none⟩) l c) none (some (.int k n)) none = some (.slice (some ⟨b, o, none⟩) n.toNat c) := by
  have e1 : eslice P t (.slice (some ⟨b, o, none⟩) l c) none (some (.int k n)) none = none := by simp [eslice, hT, optInt]
  have ab : abounds l c none (some (.int k n)) none = some (0, n.toNat, c) := by simp [abounds, abound, h0, hn]
  simp only [xslice, e1, aslice, optInt, Bool.and_self, if_true, hT, hlc, ab, hj, hb, true_or]
  simp
theorem xslice_from (hT : P.underlying t = some (.slice e)) (hj : P.info? e = some j) (hb : h.get b = some (.row C zz false)) (hlc : l ≤ c) (h0 : 0 ≤ n) (hn : n ≤ l) :
    xslice P h t (.slice (some ⟨b, o, none⟩) l c) (some (.int k n)) none none = some (.slice (some ⟨b, o + n.toNat * j.size, none⟩) (l - n.toNat) (c - n.toNat)) := by
  have e1 : eslice P t (.slice (some ⟨b, o, none⟩) l c) (some (.int k n)) none none = none := by simp [eslice, hT, optInt]
  have ab : abounds l c (some (.int k n)) none none = some (n.toNat, l, c) := by simp [abounds, abound, h0, hn]
  simp only [xslice, e1, aslice, optInt, Bool.and_self, if_true, hT, hlc, ab, hj, hb, true_or]
theorem xslice_cap {k' : IntKind} (hT : P.underlying t = some (.slice e)) (hj : P.info? e = some j) (hb : h.get b = some (.row C zz false)) (hlc : l ≤ c) (h0 : 0 ≤ n) (hn : n ≤ c) :
    xslice P h t (.slice (some ⟨b, o, none⟩) l c) none (some (.int k n)) (some (.int k' n)) = some (.slice (some ⟨b, o, none⟩) n.toNat n.toNat) := by
  have e1 : eslice P t (.slice (some ⟨b, o, none⟩) l c) none (some (.int k n)) (some (.int k' n)) = none := by simp [eslice, hT, optInt]
  have ab : abounds l c none (some (.int k n)) (some (.int k' n)) = some (0, n.toNat, n.toNat) := by
    have : (n : Int) ≤ ((n.toNat : Nat) : Int) := by omega
    simp only [abounds, abound, h0, hn, this, and_self, if_true, Option.isSome, Option.isNone, Bool.and_false]
  simp only [xslice, e1, aslice, optInt, Bool.and_self, if_true, hT, hlc, ab, hj, hb, true_or]
  by_cases hz : n.toNat = 0
  · simp [hz]
  · simp [hz]
end
end
end Go.AE

/- Elements of growable slices: place, load, store. -/
namespace Go.AE
noncomputable section
open Go.RowKit
/-- The cell that a pointer leads to. -/
theorem load1 {P : Program} {e : TypeId} {d : TypeDesc} {h : AH} {b o : Nat} {C : List Value} {z : Nat} {lo : Bool} (hd : P.underlying e = some d) (ha : isAggD d = false) (hb : h.get b = some (.row C z lo)) (ho : o < C.length) :
    xload P h e (.pointer (some ⟨b, o, none⟩)) = some (C.getD o undef) := by
  simp only [xload, eload, aload, hb, hd, ha]
  simp [List.getD_eq_getElem?_getD, ho]
theorem Range.at {p : Option Addr} {x y b i : Nat} (h : Range p x y b i) : ∃ o, p = some ⟨b, o, none⟩ ∧ o + x ≤ i ∧ i < o + y := by
  obtain ⟨q, rfl, hs, rfl, h1, h2⟩ := h
  obtain ⟨qb, qo, qs⟩ := q
  cases hs
  exact ⟨qo, rfl, h1, h2⟩
theorem Gro.ptr {h : AH} {z : Nat} {p : Option Addr} {l c : Nat} {cs : List Value} (hg : Gro h z p l c cs) (hl : 0 < l) : ∃ b o C zz, p = some ⟨b, o, none⟩ ∧ h.get b = some (.row C zz false) ∧ o + c * z ≤ C.length ∧ (C.drop o).take (l * z) = cs := by
  rcases hg.2.2 with ⟨_, h2⟩ | h2
  · have := hg.1; omega
  · exact h2
/-- Place, load and store of the i-th element. -/
theorem Gro.elem {P : Program} {t e : TypeId} {j : TypeInfo} {d : TypeDesc} {h : AH} {p : Option Addr} {l c : Nat} {cs : List Value} {i : Int} {k : IntKind} (hT : P.underlying t = some (.slice e)) (hj : P.info? e = some j) (hz : j.size = 1) (hd : P.underlying e = some d) (ha : isAggD d = false)
    (hg : Gro h 1 p l c cs) (h0 : 0 ≤ i) (hi : i < l) :
    ∃ b o, p = some ⟨b, o, none⟩ ∧ xindexAddr P t (.slice p l c) (.int k i) = some (.pointer (some ⟨b, o + i.toNat, none⟩)) ∧ xload P h e (.pointer (some ⟨b, o + i.toNat, none⟩)) = some (cs.getD i.toNat undef) := by
  obtain ⟨b, o, C, zz, rfl, _, _, _⟩ := hg.ptr (by omega)
  have h1 := idx_row (P := P) (t := t) (e := e) (b := b) (o := o) (c := c) (k := k) hT hj h0 hi
  rw [hz, Nat.mul_one] at h1
  obtain ⟨q, h2, h3⟩ := AE.Sl.at1 (c := c) (k := k) hT hj hz hd ha hg.sl h0 hi
  rw [h1] at h2
  cases h2
  exact ⟨b, o, rfl, h1, h3⟩
theorem Gro.store {P : Program} {e : TypeId} {j : TypeInfo} {h : AH} {b o : Nat} {l c : Nat} {cs : List Value} {n : Nat} {v : Value} (hj : P.info? e = some j) (hz : j.size = 1) (hv : v.cells = #[v]) (h1 : oneCells [v] = true)
    (hg : Gro h 1 (some ⟨b, o, none⟩) l c cs) (hi : n < l) :
    ∃ h', astore P h e (.pointer (some ⟨b, o + n, none⟩)) v = some h' ∧ Gro h' 1 (some ⟨b, o, none⟩) l c (cs.set n v) ∧ Chg (Range (some ⟨b, o, none⟩) n (n + 1)) h h' := by
  obtain ⟨b', o', C, zz, h2, h3, h4, h5⟩ := hg.ptr (by omega)
  cases h2
  have hlc := hg.1
  refine ⟨_, store1 hj hz h3 (by omega) hv h1, ⟨hlc, by rw [List.length_set]; exact hg.2.1, .inr ⟨b, o, _, zz, rfl, by rw [AH.get_put, if_pos rfl]; rfl, by rw [List.length_set]; exact h4, ?_⟩⟩, Chg.put h3 (by rw [List.length_set]) fun i hi => ?_⟩
  · rw [← h5, Nat.mul_one]
    refine List.ext_getElem? fun i => ?_
    simp only [List.getElem?_take, List.getElem?_drop, List.getElem?_set, List.length_take, List.length_drop]
    by_cases e : n = i
    · subst e
      rw [if_pos rfl, if_pos (by omega), if_pos (by omega), if_pos rfl, if_pos (by omega)]
    · rw [if_neg (by omega : ¬ o + n = o + i), if_neg e]
  · rw [List.getElem?_set, if_neg]
    intro e
    exact hi ⟨_, rfl, rfl, rfl, by show o + n ≤ i; omega, by show i < o + (n + 1); omega⟩
end
end Go.AE
