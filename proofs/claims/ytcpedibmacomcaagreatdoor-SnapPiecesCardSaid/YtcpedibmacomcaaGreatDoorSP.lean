/- A part of the proof of SnapPieces. Conditions: those of the card. -/
import Derived.Test.YtcpedibmacomcaaGreatDoorSG
import Derived.Test.YtcpedibmacomcaaGreatDoorAeD

set_option maxRecDepth 100000
namespace Go.Proofs.Tryz
open Go Go.AE
theorem take_succ_getD {α : Type} (xs : List α) (d : α) (n : Nat) (h : n < xs.length) : xs.take (n + 1) = xs.take n ++ [xs.getD n d] := by
  rw [List.take_succ_eq_append_getElem h, List.getD_eq_getElem?_getD, List.getElem?_eq_getElem h]; rfl
theorem u8_ext {a b : UInt8} : ((a.toNat : Int) = (b.toNat : Int)) ↔ a = b := by
  constructor
  · intro h; exact UInt8.toNat_inj.1 (by omega)
  · rintro rfl; rfl
theorem eqBytes {h : AH} {ap bp : Option Addr} {al ac bl bc : Nat} {xs ys : List UInt8} {Q : Value → AH → Prop} (ha : Sl h 1 ap al (bv xs)) (hb : Sl h 1 bp bl (bv ys)) (hal : al ≤ 4611686018427387904)
    (hQ : Q (.bool (decide (xs = ys))) h) : CallW prog 10 [.slice ap al ac, .slice bp bl bc] h Q := by
  have la := Sl.len1 ha
  have lb := Sl.len1 hb
  refine wcall10 _ _ _ _ _ _ h Q ?_
  unfold wT10
  rw [iteB_iff]
  refine ⟨fun hne => ?_, fun heq => ?_⟩
  · have : ¬ xs = ys := fun e => by subst e; simp at hne; omega
    rw [decide_eq_false this] at hQ; exact hQ
  · have hlen : al = bl := by simp at heq; omega
    refine LoopAt.rule noNum (by kernel_rfl) (fun m tm h' => h' = h ∧ ∃ i : Int, tm = wfr10_0 ap al ac bp bl bc i (lget tm undef) ∧ 0 ≤ i ∧ i ≤ al ∧ m = al - i.toNat ∧ xs.take i.toNat = ys.take i.toNat) al
      ⟨rfl, 0, by kernel_rfl, by omega, by omega, by omega, by simp⟩ ?_
    rintro m tm h' ⟨rfl, i, htm, h1, h2, rfl, h3⟩
    obtain ⟨g, rfl⟩ : ∃ g, tm = wfr10_0 ap al ac bp bl bc i g := ⟨_, htm⟩
    rw [← wround10_0]
    unfold wB10_0
    rw [iteB_iff]
    refine ⟨fun hlt => ?_, fun hge => ?_⟩
    · have hlt := of_decide_eq_true hlt
      obtain ⟨q, a1, a2⟩ := Sl.byte (c := ac) (k := .i64) ha h1 hlt
      obtain ⟨r, b1, b2⟩ := Sl.byte (c := bc) (k := .i64) hb h1 (by omega)
      refine ⟨q, a1, _, a2, r, b1, _, b2, ?_⟩
      rw [iteB_iff]
      have hx := take_succ_getD xs 0 i.toNat (by omega)
      have hy := take_succ_getD ys 0 i.toNat (by omega)
      refine ⟨fun hn => ?_, fun he => ⟨rfl, _, ?_, rfl, i + 1, ?_, by omega, by omega, rfl, ?_⟩⟩
      · have : ¬ xs = ys := fun e => by subst e; simp at hn
        rw [decide_eq_false this] at hQ; exact hQ
      · omega
      · rw [wrap_succ h1 hlt hal]; kernel_rfl
      · have he : xs.getD i.toNat 0 = ys.getD i.toNat 0 := by simpa [u8_ext] using he
        rw [show (i + 1).toNat = i.toNat + 1 by omega, hx, hy, h3, he]
    · have hge := of_decide_eq_false hge
      have hi : i.toNat = al := by omega
      rw [hi] at h3
      have : xs = ys := by rw [List.take_of_length_le (by omega), List.take_of_length_le (by omega)] at h3; exact h3
      rw [decide_eq_true this] at hQ; exact hQ

/-! ### lists of slices -/
abbrev Pc := Option Addr × Nat × Nat
def sv (x : Pc) : Value := .slice x.1 x.2.1 x.2.2
/-- The i-th slice of a list of them. -/
theorem Sl.slice {h : AH} {p : Option Addr} {l c : Nat} {ps : List Pc} {i : Int} {k : IntKind} (hs : Sl h 1 p l (ps.map sv)) (h0 : 0 ≤ i) (hi : i < l) :
    ∃ q, xindexAddr prog 25 (.slice p l c) (.int k i) = some (.pointer q) ∧ xload prog h 22 (.pointer q) = some (sv (ps.getD i.toNat (none, 0, 0))) := by
  obtain ⟨q, h1, h2⟩ := AE.Sl.at1 (P := prog) (t := 25) (e := 22) (j := ((prog.info? 22).getD default)) (d := .slice 5) (c := c) (k := k) (by kernel_rfl) (by kernel_rfl) (by kernel_rfl) (by kernel_rfl) rfl hs h0 hi
  have hl : ps.length = l := by have := hs.1; simpa using this
  refine ⟨q, h1, ?_⟩
  rw [h2]
  have hil : i.toNat < ps.length := by omega
  simp [List.getD_eq_getElem?_getD, hil]
/-- A list of pieces, and what they hold. -/
structure Pcs (h : AH) (p : Option Addr) (l : Nat) (ps : List Pc) (xss : List (List UInt8)) : Prop where
  row : Sl h 1 p l (ps.map sv)
  len : xss.length = ps.length
  piece : ∀ i, i < ps.length → Sl h 1 (ps.getD i (none, 0, 0)).1 (ps.getD i (none, 0, 0)).2.1 (bv (xss.getD i []))
  small : ∀ i, i < ps.length → (ps.getD i (none, 0, 0)).2.1 ≤ 4611686018427387904
theorem Pcs.plen {h : AH} {p : Option Addr} {l : Nat} {ps : List Pc} {xss : List (List UInt8)} (hp : Pcs h p l ps xss) : ps.length = l := by have := hp.row.1; simpa using this

theorem eqPieces {h : AH} {ap bp : Option Addr} {al ac bl bc : Nat} {pa pb : List Pc} {xs ys : List (List UInt8)} {Q : Value → AH → Prop} (ha : Pcs h ap al pa xs) (hb : Pcs h bp bl pb ys) (hal : al ≤ 4611686018427387904)
    (hQ : Q (.bool (decide (xs = ys))) h) : CallW prog 9 [.slice ap al ac, .slice bp bl bc] h Q := by
  have la := ha.plen
  have lb := hb.plen
  have lx := ha.len
  have ly := hb.len
  refine wcall9 _ _ _ _ _ _ h Q ?_
  unfold wT9
  rw [iteB_iff]
  refine ⟨fun hne => ?_, fun heq => ?_⟩
  · have : ¬ xs = ys := fun e => by subst e; simp at hne; omega
    rw [decide_eq_false this] at hQ; exact hQ
  · have hlen : al = bl := by simp at heq; omega
    refine LoopAt.rule noNum (by kernel_rfl) (fun m tm h' => h' = h ∧ ∃ i : Int, tm = wfr9_0 ap al ac bp bl bc i (lget tm undef) ∧ 0 ≤ i ∧ i ≤ al ∧ m = al - i.toNat ∧ xs.take i.toNat = ys.take i.toNat) al
      ⟨rfl, 0, by kernel_rfl, by omega, by omega, by omega, by simp⟩ ?_
    rintro m tm h' ⟨rfl, i, htm, h1, h2, rfl, h3⟩
    obtain ⟨g, rfl⟩ : ∃ g, tm = wfr9_0 ap al ac bp bl bc i g := ⟨_, htm⟩
    rw [← wround9_0]
    unfold wB9_0
    rw [iteB_iff]
    refine ⟨fun hlt => ?_, fun hge => ?_⟩
    · have hlt := of_decide_eq_true hlt
      obtain ⟨q, a1, a2⟩ := Sl.slice (c := ac) (k := .i64) ha.row h1 hlt
      obtain ⟨r, b1, b2⟩ := Sl.slice (c := bc) (k := .i64) hb.row h1 (by omega)
      refine ⟨q, a1, _, _, _, a2, r, b1, _, _, _, b2, ?_⟩
      refine eqBytes (ha.piece _ (by omega)) (hb.piece _ (by omega)) (ha.small _ (by omega)) ⟨_, rfl, ?_⟩
      rw [iteB_iff]
      have hx := take_succ_getD xs [] i.toNat (by omega)
      have hy := take_succ_getD ys [] i.toNat (by omega)
      refine ⟨fun hn => ?_, fun he => ⟨rfl, _, ?_, rfl, i + 1, ?_, by omega, by omega, rfl, ?_⟩⟩
      · have : ¬ xs = ys := fun e => by subst e; simp at hn
        rw [decide_eq_false this] at hQ; exact hQ
      · omega
      · rw [wrap_succ h1 hlt hal]; kernel_rfl
      · have he : xs.getD i.toNat [] = ys.getD i.toNat [] := by simpa using he
        rw [show (i + 1).toNat = i.toNat + 1 by omega, hx, hy, h3, he]
    · have hge := of_decide_eq_false hge
      have hi : i.toNat = al := by omega
      rw [hi] at h3
      have : xs = ys := by rw [List.take_of_length_le (by omega), List.take_of_length_le (by omega)] at h3; exact h3
      rw [decide_eq_true this] at hQ; exact hQ
end Go.Proofs.Tryz

set_option maxRecDepth 100000
namespace Go.Proofs.Tryz
open Go Go.AE
theorem elem22 : ElemT prog 22 5 [.int .u8 0] 1 := ⟨(prog.info? 5).getD default, .int .u8 0, by kernel_rfl, by kernel_rfl, by kernel_rfl, rfl, by kernel_rfl, by decide, rfl, rfl, by kernel_rfl⟩
theorem elem25 : ElemT prog 25 22 [.slice none 0 0] 24 := ⟨(prog.info? 22).getD default, .slice none 0 0, by kernel_rfl, by kernel_rfl, by kernel_rfl, rfl, by kernel_rfl, by decide, rfl, rfl, by kernel_rfl⟩
theorem und22 : prog.underlying 22 = some (.slice 5) := by kernel_rfl
theorem und25 : prog.underlying 25 = some (.slice 22) := by kernel_rfl
theorem u8_lt (c : UInt8) : (c.toNat : Int) < 256 ∧ 0 ≤ (c.toNat : Int) := ⟨by have := c.toNat_lt; omega, by omega⟩

/-- Bytes behind bytes. -/
theorem behind {h : AH} {p q : Option Addr} {l c m qc : Nat} {xs ys : List UInt8} {Q : Value → AH → Prop} (hw : Wf h) (hg : Gro h 1 p l c (bv xs)) (hs : Sl h 1 q m (bv ys)) (hd : Disj p c q m) (hlm : l + m ≤ 1099511627776)
    (hQ : ∀ p' c' h', Gro h' 1 p' (l + m) c' (bv (xs ++ ys)) → Chg (Range p l c) h h' → ((p' = p ∧ c' = c) ∨ ∃ b, p' = some ⟨b, 0, none⟩ ∧ h.next ≤ b) → Q (.slice p' (l + m) c') h') : CallW prog 51 [.slice p l c, .slice q m qc] h Q := by
  have hy := Sl.len1 hs
  refine wcall51 _ _ _ _ _ _ h Q ?_
  unfold wT51
  refine LoopAt.rule noNum (by kernel_rfl) (fun k tm h' => ∃ (p' : Option Addr) (c' : Nat) (i : Int), tm = wfr51_0 p' (l + i.toNat) c' q m qc i (lget tm undef) ∧ 0 ≤ i ∧ i ≤ m ∧ k = m - i.toNat ∧ Gro h' 1 p' (l + i.toNat) c' (bv (xs ++ ys.take i.toNat)) ∧
      Chg (fun b i => Range p l c b i ∨ h.next ≤ b) h h' ∧ ((p' = p ∧ c' = c) ∨ ∃ b, p' = some ⟨b, 0, none⟩ ∧ h.next ≤ b)) m
    ⟨p, c, 0, by kernel_rfl, by omega, by omega, by omega, by simpa using hg, Chg.refl _ _, .inl ⟨rfl, rfl⟩⟩ ?_
  rintro k tm h' ⟨p', c', i, htm, h1, h2, rfl, h3, h4, h5⟩
  obtain ⟨g, rfl⟩ : ∃ g, tm = wfr51_0 p' (l + i.toNat) c' q m qc i g := ⟨_, htm⟩
  have hw' := h4.wf hw
  rw [← wround51_0]
  unfold wB51_0
  rw [iteB_iff]
  refine ⟨fun hlt => ?_, fun hge => ?_⟩
  · have hlt := of_decide_eq_true hlt
    have hs' : Sl h' 1 q m (bv ys) := hs.old hw (Nat.le_refl _) h4 (hd.apart (Nat.le_refl _) (by omega))
    obtain ⟨r, a1, a2⟩ := Sl.byte (c := qc) (k := .i64) hs' h1 hlt
    refine ⟨r, a1, _, a2, ?_⟩
    refine AppW.one elem22 und22 rfl hw' h3 rfl rfl (by omega) (by omega) fun p2 c2 h2' g1 g2 g3 => ?_
    refine ⟨p2, _, c2, rfl, rfl, m - (i + 1).toNat, by omega, p2, c2, i + 1, ?_, by omega, by omega, rfl, ?_, ?_, ?_⟩
    · rw [wrap_succ h1 hlt (by omega), show l + (i + 1).toNat = l + i.toNat + 1 by omega]; kernel_rfl
    · rw [show l + (i + 1).toNat = l + i.toNat + 1 by omega, show (i + 1).toNat = i.toNat + 1 by omega, take_succ_getD ys 0 i.toNat (by omega), ← List.append_assoc, bv_append]
      exact g1
    · refine h4.trans (g2.mono ?_)
      rintro b o hb j ⟨a, ha, hs, hb1, hj1, hj2⟩
      simp only [List.length_singleton, Nat.mul_one] at hj1 hj2
      rcases h5 with ⟨rfl, rfl⟩ | ⟨b', hb', hn⟩
      · exact .inl ⟨a, ha, hs, hb1, by omega, by omega⟩
      · rw [hb'] at ha; cases ha
        exact .inr (by simp only at hb1; omega)
    · rcases g3 with ⟨rfl, rfl⟩ | ⟨b, rfl, hb⟩
      · exact h5
      · exact .inr ⟨b, rfl, Nat.le_trans h4.next hb⟩
  · have hge := of_decide_eq_false hge
    have hi : i.toNat = m := by omega
    rw [hi] at h3 ⊢
    rw [List.take_of_length_le (by omega)] at h3
    exact hQ p' c' h' h3 (h4.mono fun b o hb j hq => hq.resolve_right (fun hn => by have := hw b o hb; omega)) h5
/-- A copy. -/
theorem copyBytes {h : AH} {q : Option Addr} {m qc : Nat} {ys : List UInt8} {Q : Value → AH → Prop} (hw : Wf h) (hs : Sl h 1 q m (bv ys)) (hlm : m ≤ 1099511627776)
    (hQ : ∀ p' c' h', Gro h' 1 p' m c' (bv ys) → Chg Nothing h h' → ((p' = none ∧ c' = 0) ∨ ∃ b, p' = some ⟨b, 0, none⟩ ∧ h.next ≤ b) → Q (.slice p' m c') h') : CallW prog 50 [.slice q m qc] h Q := by
  have hy := Sl.len1 hs
  refine wcall50 _ _ _ h Q ?_
  unfold wT50
  refine LoopAt.rule noNum (by kernel_rfl) (fun k tm h' => ∃ (p' : Option Addr) (c' : Nat) (i : Int), tm = wfr50_0 q m qc p' i.toNat c' i (lget tm undef) ∧ 0 ≤ i ∧ i ≤ m ∧ k = m - i.toNat ∧ Gro h' 1 p' i.toNat c' (bv (ys.take i.toNat)) ∧
      Chg (fun b i => Nothing b i ∨ h.next ≤ b) h h' ∧ ((p' = none ∧ c' = 0) ∨ ∃ b, p' = some ⟨b, 0, none⟩ ∧ h.next ≤ b)) m
    ⟨none, 0, 0, by kernel_rfl, by omega, by omega, by omega, Gro.nil, Chg.refl _ _, .inl ⟨rfl, rfl⟩⟩ ?_
  rintro k tm h' ⟨p', c', i, htm, h1, h2, rfl, h3, h4, h5⟩
  obtain ⟨g, rfl⟩ : ∃ g, tm = wfr50_0 q m qc p' i.toNat c' i g := ⟨_, htm⟩
  have hw' := h4.wf hw
  rw [← wround50_0]
  unfold wB50_0
  rw [iteB_iff]
  refine ⟨fun hlt => ?_, fun hge => ?_⟩
  · have hlt := of_decide_eq_true hlt
    have hs' : Sl h' 1 q m (bv ys) := hs.old hw (Nat.le_refl _) h4 ApartW.nothing
    obtain ⟨r, a1, a2⟩ := Sl.byte (c := qc) (k := .i64) hs' h1 hlt
    refine ⟨r, a1, _, a2, ?_⟩
    refine AppW.one elem22 und22 rfl hw' h3 rfl rfl (by omega) (by omega) fun p2 c2 h2' g1 g2 g3 => ?_
    refine ⟨p2, _, c2, rfl, rfl, m - (i + 1).toNat, by omega, p2, c2, i + 1, ?_, by omega, by omega, rfl, ?_, ?_, ?_⟩
    · rw [wrap_succ h1 hlt (by omega), show (i + 1).toNat = i.toNat + 1 by omega]; kernel_rfl
    · rw [show (i + 1).toNat = i.toNat + 1 by omega, take_succ_getD ys 0 i.toNat (by omega), bv_append]
      exact g1
    · refine h4.trans (g2.mono ?_)
      rintro b o hb j ⟨a, ha, hs, hb1, hj1, hj2⟩
      rcases h5 with ⟨rfl, rfl⟩ | ⟨b', hb', hn⟩
      · cases ha
      · rw [hb'] at ha; cases ha
        exact .inr (by simp only at hb1; omega)
    · rcases g3 with ⟨rfl, rfl⟩ | ⟨b, rfl, hb⟩
      · exact h5
      · exact .inr ⟨b, rfl, Nat.le_trans h4.next hb⟩
  · have hge := of_decide_eq_false hge
    have hi : i.toNat = m := by omega
    rw [hi] at h3 ⊢
    rw [List.take_of_length_le (by omega)] at h3
    exact hQ p' c' h' h3 (h4.mono fun b o hb j hq => hq.resolve_right (fun hn => by have := hw b o hb; omega)) h5
end Go.Proofs.Tryz

set_option maxRecDepth 100000
namespace Go.Proofs.Tryz
open Go Go.AE
noncomputable def inf5 : TypeInfo := (prog.info? 5).getD default
theorem info5 : prog.info? 5 = some inf5 := by kernel_rfl
theorem size5 : inf5.size = 1 := by kernel_rfl
/-- A row of bytes. -/
def BR (h : AH) (b : Nat) (ws : List UInt8) : Prop := h.get b = some (.row (bv ws) 1 false)
theorem BR.idx {b o l c : Nat} {i : Int} {k : IntKind} (h0 : 0 ≤ i) (hi : i < l) : xindexAddr prog 22 (.slice (some ⟨b, o, none⟩) l c) (.int k i) = some (.pointer (some ⟨b, o + i.toNat, none⟩)) := by
  rw [idx_row und22 info5 h0 hi, size5, Nat.mul_one]
theorem bv_set (ws : List UInt8) (o : Nat) (n : UInt8) : (bv ws).set o (.int .u8 n.toNat) = bv (ws.set o n) := by simp [bv, List.map_set]
theorem BR.store {h : AH} {b o : Nat} {ws : List UInt8} (hb : BR h b ws) (ho : o < ws.length) (n : UInt8) : astore prog h 5 (.pointer (some ⟨b, o, none⟩)) (.int .u8 n.toNat) = some (h.put b (.row (bv (ws.set o n)) 1 false)) := by
  rw [store1 info5 size5 hb (by rw [bv_length]; exact ho) rfl rfl, bv_set]
theorem BR.put {h : AH} {b : Nat} (ws : List UInt8) : BR (h.put b (.row (bv ws) 1 false)) b ws := by unfold BR; rw [AH.get_put, if_pos rfl]; rfl
theorem BR.sl {h : AH} {b o l : Nat} {ws : List UInt8} (hb : BR h b ws) (hl : o + l ≤ ws.length) : Sl h 1 (some ⟨b, o, none⟩) l (bv ((ws.drop o).take l)) := by
  refine ⟨by simp [bv]; omega, fun _ => ⟨_, _, rfl, .inl ⟨rfl, 1, false, hb⟩, by rw [bv_length]; show o + l * 1 ≤ _; omega, ?_⟩⟩
  rw [Nat.mul_one]
  show ((bv ws).drop o).take l = _
  rw [bv_drop, bv_take]
theorem zeros22 (n : Nat) : azeros [.int .u8 0] n = bv (List.replicate n 0) := by
  induction n with
  | zero => rfl
  | succ n ih =>
    rw [List.replicate_succ]
    show azeros _ (n + 1) = .int .u8 0 :: bv (List.replicate n 0)
    rw [← ih]; rfl
theorem u8_of {e : Int} (h0 : 0 ≤ e) (h1 : e < 256) : IntKind.u8.wrap e = ((UInt8.ofNat e.toNat).toNat : Int) := by
  have h2 : (UInt8.ofNat e.toNat).toNat = e.toNat := by rw [UInt8.toNat_ofNat']; omega
  rw [h2]
  simp only [IntKind.wrap, IntKind.bits, IntKind.signed]
  simp
  omega
def mkb (j : Nat) : UInt8 := UInt8.ofNat (170 + j % 5)
theorem mkb_eq {i : Int} (h0 : 0 ≤ i) : IntKind.u8.wrap (IntKind.i64.wrap (170 + i.tmod 5)) = ((mkb i.toNat).toNat : Int) := by
  have e : i.tmod 5 = i % 5 := Int.tmod_eq_emod_of_nonneg h0
  rw [e, wrap_in (by omega), u8_of (by omega) (by omega)]
  unfold mkb
  rw [show (170 + i % 5).toNat = 170 + i.toNat % 5 by omega]
/-- A text with marks behind it. -/
def wideOf (xs : List UInt8) : List UInt8 := xs ++ (List.range 64).map fun j => mkb (xs.length + j)
theorem wideOf_length (xs : List UInt8) : (wideOf xs).length = xs.length + 64 := by simp [wideOf]
theorem wideOf_getD (xs : List UInt8) (i : Nat) (hi : i < xs.length + 64) : (wideOf xs).getD i 0 = if i < xs.length then xs.getD i 0 else mkb i := by
  unfold wideOf
  by_cases h : i < xs.length
  · rw [if_pos h, List.getD_eq_getElem?_getD, List.getElem?_append_left h, ← List.getD_eq_getElem?_getD]
  · rw [if_neg h, List.getD_eq_getElem?_getD, List.getElem?_append_right (by omega), List.getElem?_map, List.getElem?_range (by omega)]
    simp
    congr 1; omega
theorem take_set_succ {α : Type} (ws : List α) (v : α) (i : Nat) (hi : i < ws.length) : (ws.set i v).take (i + 1) = ws.take i ++ [v] := by
  rw [List.take_succ_eq_append_getElem (by simpa using hi), List.take_set_of_le (Nat.le_refl _)]
  simp

theorem wideBytes {h : AH} {p : Option Addr} {l c : Nat} {xs : List UInt8} {Q : Value → AH → Prop} (hw : Wf h) (hs : Sl h 1 p l (bv xs)) (hl : l ≤ 1099511627776)
    (hQ : ∀ h', BR h' h.next (wideOf xs) → Chg Nothing h h' → h.next < h'.next → Q (.slice (some ⟨h.next, 0, none⟩) l (l + 64)) h') : CallW prog 6 [.slice p l c] h Q := by
  have hx := Sl.len1 hs
  have hwl := wideOf_length xs
  have w1 : IntKind.i64.wrap ((l : Int) + 64) = (l : Int) + 64 := wrap_in (by omega)
  refine wcall6 _ _ _ h Q ?_
  unfold wT6
  rw [w1]
  refine MakeW.intro elem22 (by omega) (by omega) (by omega) (by omega) ⟨_, _, _, rfl, ?_⟩
  have e1 : ((l : Int) + 64).toNat = l + 64 := by omega
  rw [e1, zeros22]
  refine LoopAt.rule noNum (by kernel_rfl) (fun k tm h' => ∃ (i : Int) (ws : List UInt8), tm = wfr6_0 p l c (some ⟨h.next, 0, none⟩) (l + 64) (l + 64) i (lget tm undef) ∧ 0 ≤ i ∧ i ≤ l + 64 ∧ k = l + 64 - i.toNat ∧
      BR h' h.next ws ∧ ws.length = l + 64 ∧ ws.take i.toNat = (wideOf xs).take i.toNat ∧ Chg (New h.next) h h' ∧ h.next < h'.next) (l + 64)
    ⟨0, List.replicate (l + 64) 0, by kernel_rfl, by omega, by omega, by omega, by unfold BR; rw [AH.get_new, if_pos rfl]; rfl, by simp, by simp, Chg.new hw _, Nat.lt_succ_self _⟩ ?_
  rintro k tm h' ⟨i, ws, htm, h1, h2, rfl, h3, h4, h5, h6, h7⟩
  obtain ⟨g, rfl⟩ : ∃ g, tm = wfr6_0 p l c (some ⟨h.next, 0, none⟩) (l + 64) (l + 64) i g := ⟨_, htm⟩
  rw [← wround6_0]
  unfold wB6_0
  rw [iteB_iff]
  refine ⟨fun hlt => ?_, fun hge => ?_⟩
  · have hlt : i < l + 64 := by have := of_decide_eq_true hlt; omega
    refine ⟨_, BR.idx h1 (by omega), ?_⟩
    rw [Nat.zero_add, mkb_eq h1]
    refine ⟨_, h3.store (by omega) _, ?_⟩
    have g1 : Chg (New h.next) h (h'.put h.next (.row (bv (ws.set i.toNat (mkb i.toNat))) 1 false)) := h6.trans (Chg.put h3 (by simp [bv]) fun j hj => absurd (Nat.le_refl _) hj)
    have ht := take_succ_getD (wideOf xs) 0 i.toNat (by omega)
    rw [wideOf_getD _ _ (by omega), ← h5] at ht
    rw [iteB_iff]
    refine ⟨fun hlt2 => ?_, fun hge2 => ?_⟩
    · have hlt2 := of_decide_eq_true hlt2
      have hs' := hs.chg (g1.old hw (Nat.le_refl _)) ApartW.nothing
      obtain ⟨r, a1, a2⟩ := Sl.byte (c := c) (k := .i64) hs' h1 hlt2
      refine ⟨r, a1, _, a2, _, BR.idx h1 (by omega), ?_⟩
      rw [Nat.zero_add]
      refine ⟨_, (BR.put _).store (by simp; omega) _, ?_⟩
      refine ⟨rfl, l + 64 - (i + 1).toNat, by omega, i + 1, _, ?_, by omega, by omega, rfl, BR.put _, by simp [h4], ?_, g1.trans (Chg.put (BR.put _) (by simp [bv]) fun j hj => absurd (Nat.le_refl _) hj), h7⟩
      · rw [show IntKind.i64.wrap (i + 1) = i + 1 from wrap_in (by omega)]; kernel_rfl
      · rw [show (i + 1).toNat = i.toNat + 1 by omega, take_set_succ _ _ _ (by simp; omega), ht, if_pos (by omega), List.take_set_of_le (Nat.le_refl _)]
    · have hge2 := of_decide_eq_false hge2
      refine ⟨rfl, l + 64 - (i + 1).toNat, by omega, i + 1, _, ?_, by omega, by omega, rfl, BR.put _, by simp [h4], ?_, g1, h7⟩
      · rw [show IntKind.i64.wrap (i + 1) = i + 1 from wrap_in (by omega)]; kernel_rfl
      · rw [show (i + 1).toNat = i.toNat + 1 by omega, take_set_succ _ _ _ (by omega), ht, if_neg (by omega)]
  · have hge := of_decide_eq_false hge
    have hi : i.toNat = l + 64 := by omega
    rw [hi, List.take_of_length_le (by omega), List.take_of_length_le (by omega)] at h5
    subst h5
    refine ⟨_, _, _, xslice_to und22 info5 h3 (Nat.le_refl _) (by omega) (by omega), ?_⟩
    rw [Int.toNat_natCast]
    exact hQ h' h3 (h6.old hw (Nat.le_refl _)) h7
/-- Do the marks stand? -/
theorem spareBytes {h : AH} {b l : Nat} {xs : List UInt8} {Q : Value → AH → Prop} (hb : BR h b (wideOf xs)) (hx : xs.length = l) (hl : l ≤ 1099511627776) (hQ : Q (.bool true) h) : CallW prog 11 [.slice (some ⟨b, 0, none⟩) l (l + 64)] h Q := by
  have hwl := wideOf_length xs
  have w1 : IntKind.i64.wrap ((l : Int) + 64) = (l : Int) + 64 := wrap_in (by omega)
  refine wcall11 _ _ _ h Q ?_
  unfold wT11
  rw [w1]
  refine ⟨_, _, _, xslice_to und22 info5 hb (by omega) (by omega) (by omega), ?_⟩
  have e1 : ((l : Int) + 64).toNat = l + 64 := by omega
  rw [e1]
  have hsl : Sl h 1 (some ⟨b, 0, none⟩) (l + 64) (bv (wideOf xs)) := by
    have := hb.sl (o := 0) (l := l + 64) (by omega)
    rwa [List.drop_zero, List.take_of_length_le (by omega)] at this
  refine LoopAt.rule noNum (by kernel_rfl) (fun k tm h' => h' = h ∧ ∃ (i : Int), tm = wfr11_0 (some ⟨b, 0, none⟩) (l + 64) (l + 64) i (lget tm undef) ∧ l ≤ i ∧ i ≤ l + 64 ∧ k = l + 64 - i.toNat) 64
    ⟨rfl, l, by kernel_rfl, by omega, by omega, by omega⟩ ?_
  rintro k tm h' ⟨rfl, i, htm, h1, h2, rfl⟩
  obtain ⟨g, rfl⟩ : ∃ g, tm = wfr11_0 (some ⟨b, 0, none⟩) (l + 64) (l + 64) i g := ⟨_, htm⟩
  rw [← wround11_0]
  unfold wB11_0
  rw [iteB_iff]
  refine ⟨fun hlt => ?_, fun hge => hQ⟩
  have hlt : i < l + 64 := by have := of_decide_eq_true hlt; omega
  have hlt' : i < ((l + 64 : Nat) : Int) := by omega
  have h0' : 0 ≤ i := by omega
  obtain ⟨r, a1, a2⟩ := Sl.byte (c := l + 64) (k := .i64) hsl h0' hlt'
  refine ⟨r, a1, _, a2, ?_⟩
  rw [mkb_eq (by omega), wideOf_getD _ _ (by omega), if_neg (by omega), iteB_iff]
  refine ⟨fun hn => by simp at hn, fun _ => ⟨rfl, l + 64 - (i + 1).toNat, by omega, rfl, i + 1, ?_, by omega, by omega, rfl⟩⟩
  rw [show IntKind.i64.wrap (i + 1) = i + 1 from wrap_in (by omega)]; kernel_rfl
end Go.Proofs.Tryz

set_option maxRecDepth 100000
namespace Go.Proofs.Tryz
open Go Go.AE
theorem BR.get {h : AH} {b : Nat} {ws : List UInt8} (hb : BR h b ws) : h.get b = some (.row (bv ws) 1 false) := hb
theorem BR.chg {W : Nat → Nat → Prop} {h h' : AH} {b : Nat} {ws : List UInt8} (hc : Chg W h h') (hb : BR h b ws) (ha : ∀ i, ¬ W b i) : BR h' b ws := by
  obtain ⟨C', h1, h2, h3⟩ := hc.row _ _ _ _ hb
  have : C' = bv ws := List.ext_getElem? fun i => h3 i (ha i)
  rw [this] at h1; exact h1
theorem BR.gro {h : AH} {b o l c : Nat} {ws : List UInt8} (hb : BR h b ws) (hlc : l ≤ c) (hl : o + c ≤ ws.length) : Gro h 1 (some ⟨b, o, none⟩) l c (bv ((ws.drop o).take l)) := by
  refine ⟨hlc, by simp [bv]; omega, .inr ⟨b, o, _, 1, rfl, hb, by rw [bv_length]; omega, ?_⟩⟩
  rw [Nat.mul_one, bv_drop, bv_take]
/-- The t-th piece. -/
def ch (s : Nat) (xs : List UInt8) (t : Nat) : List UInt8 := (xs.drop (t * s)).take s
def cnt (s m : Nat) : Nat := (m + s - 1) / s
theorem cnt_lt {s m j : Nat} (hs : 0 < s) (h : j * s < m) : j < cnt s m := by
  refine Nat.lt_of_lt_of_le (Nat.lt_succ_self j) ((Nat.le_div_iff_mul_le hs).2 ?_)
  rw [Nat.succ_mul]; omega
theorem cnt_ge {s m j : Nat} (hs : 0 < s) (h : m ≤ j * s) : cnt s m ≤ j := by
  refine Nat.lt_succ_iff.1 ((Nat.div_lt_iff_lt_mul hs).2 ?_)
  rw [Nat.succ_mul]; omega
theorem cutBad {h : AH} {q : Option Addr} {m qc : Nat} {a1 : Int} {Q : Value → AH → Prop} (hb : a1 < 1 ∨ 4096 < a1) (hQ : Q (.tuple ⟨[.slice none 0 0, .int .i64 1]⟩) h) : CallW prog 8 [.slice q m qc, .int .i64 a1] h Q := by
  refine wcall8 _ _ _ _ h Q ?_
  unfold wT8
  rw [iteB_iff]
  refine ⟨fun _ => hQ, fun h1 => ?_⟩
  rw [iteB_iff]
  refine ⟨fun _ => hQ, fun h2 => ?_⟩
  have := of_decide_eq_false h1
  have := of_decide_eq_false h2
  omega
theorem min_step {j s m : Nat} (h : j * s < m) : min ((j + 1) * s) m = j * s + min s (m - j * s) := by
  rw [Nat.succ_mul]
  generalize j * s = a at *
  omega
/-- The t-th piece of a row of m bytes. -/
def pcAt (A s m t : Nat) : Pc := (some ⟨A, t * s, none⟩, min s (m - t * s), min s (m - t * s))
theorem cutGood {h : AH} {q : Option Addr} {m qc s : Nat} {xs : List UInt8} {Q : Value → AH → Prop} (hw : Wf h) (hs : Sl h 1 q m (bv xs)) (hm : m ≤ 1099511627776) (h1 : 1 ≤ s) (h2 : s ≤ 4096)
    (hQ : ∀ p c h', Gro h' 1 p (cnt s m) c (((List.range (cnt s m)).map (pcAt h.next s m)).map sv) → BR h' h.next xs → Chg Nothing h h' → h.next < h'.next → (∀ b o, p = some ⟨b, o, none⟩ → h.next < b) → Q (.tuple ⟨[.slice p (cnt s m) c, .int .i64 0]⟩) h') : CallW prog 8 [.slice q m qc, .int .i64 s] h Q := by
  have hx := Sl.len1 hs
  have hcnt : cnt s m ≤ m := cnt_ge (by omega) (Nat.le_mul_of_pos_right m (by omega))
  refine wcall8 _ _ _ _ h Q ?_
  unfold wT8
  rw [iteB_iff]
  refine ⟨fun hh => by have := of_decide_eq_true hh; omega, fun _ => ?_⟩
  rw [iteB_iff]
  refine ⟨fun hh => by have := of_decide_eq_true hh; omega, fun _ => ?_⟩
  refine MakeW.intro elem22 (by omega) (by omega) (by omega) (by omega) ⟨_, _, _, rfl, ?_⟩
  rw [Int.toNat_natCast, zeros22]
  have key : ∀ h1 : AH, Chg (New h.next) h h1 → BR h1 h.next xs → h.next < h1.next → ∀ (n8 : Int), LoopAt prog none (bodyOf f8) [1, 1, 1, 1, 1, 0, 0] [Value.slice q m qc, Value.int IntKind.i64 s, undef, undef, Value.slice none 0 0, Value.int IntKind.i64 0, Value.slice (some ⟨h.next, 0, none⟩) m m, Value.slice none 0 0, undef, Value.int IntKind.i64 s, Value.bool (decide ((s : Int) < 1)), Value.bool false, Value.int IntKind.i64 s, Value.bool (decide (4096 < (s : Int))), Value.bool false, Value.slice q m qc, Value.int IntKind.i64 (↑m : Int), Value.slice (some ⟨h.next, 0, none⟩) m m, Value.slice (some ⟨h.next, 0, none⟩) m m, Value.slice q m qc, Value.int IntKind.i64 n8, undef, undef, undef, undef, undef, undef, undef, undef, undef, undef, undef, undef, undef, undef, undef, undef, undef, undef] [] h1 (leaveT prog f8 Q) := by
    intro h1 hc1 hb1 hn1 n8
    refine LoopAt.rule noNum (by kernel_rfl) (fun k tm h' => ∃ (j : Nat) (lp : Option Addr) (lc : Nat), tm = wfr8_0 s (some ⟨h.next, min (j * s) m, none⟩) (m - min (j * s) m) (m - min (j * s) m) lp j lc (lget tm undef) ∧ j ≤ cnt s m ∧ k = cnt s m - j ∧
      Gro h' 1 lp j lc (((List.range j).map (pcAt h.next s m)).map sv) ∧ BR h' h.next xs ∧ Chg (New h.next) h h' ∧ h.next < h'.next ∧ ∀ b o, lp = some ⟨b, o, none⟩ → h.next < b) (cnt s m)
      ⟨0, none, 0, by rw [Nat.zero_mul, Nat.zero_min, Nat.sub_zero]; kernel_rfl, by omega, by omega, Gro.nil, hb1, hc1, hn1, fun b o e => by cases e⟩ ?_
    rintro k tm h' ⟨j, lp, lc, htm, i1, rfl, i2, i3, i4, i5, i6⟩
    obtain ⟨g, rfl⟩ : ∃ g, tm = wfr8_0 s (some ⟨h.next, min (j * s) m, none⟩) (m - min (j * s) m) (m - min (j * s) m) lp j lc g := ⟨_, htm⟩
    have hw' := i4.wf hw
    rw [← wround8_0]
    unfold wB8_0
    rw [iteB_iff]
    refine ⟨fun hlt => ?_, fun hge => ?_⟩
    · have hlt := of_decide_eq_true hlt
      have hjm : j * s < m := by omega
      have hj : j < cnt s m := cnt_lt (by omega) hjm
      have ej : min (j * s) m = j * s := by omega
      have em : min (s : Int) ((m - j * s : Nat) : Int) = ((min s (m - j * s) : Nat) : Int) := by omega
      rw [ej, em]
      refine ⟨_, _, _, xslice_cap und22 info5 i3 (Nat.le_refl _) (by omega) (by omega), ?_⟩
      rw [Int.toNat_natCast]
      refine AppW.one elem25 und25 rfl hw' i2 rfl rfl (by omega) (by omega) fun p2 c2 h2' g1 g2 g3 => ?_
      have hnA : ∀ i, ¬ Range lp (j * 1) (lc * 1) h.next i := by
        rintro i ⟨a, ha, hsp, hbk, _, _⟩
        have := i6 a.block a.off (by rw [ha]; cases a; cases hsp; rfl)
        omega
      have i3' : BR h2' h.next xs := i3.chg g2 hnA
      refine ⟨_, _, _, rfl, _, _, _, xslice_from und22 info5 i3' (Nat.le_refl _) (by omega) (by omega), ?_⟩
      rw [Int.toNat_natCast, size5, Nat.mul_one]
      refine ⟨rfl, cnt s m - (j + 1), by omega, j + 1, p2, c2, ?_, by omega, rfl, ?_, i3', i4.trans (g2.mono ?_), Nat.lt_of_lt_of_le i5 g2.next, ?_⟩
      · rw [min_step hjm, show m - (j * s + min s (m - j * s)) = m - j * s - min s (m - j * s) by omega]
        kernel_rfl
      · rw [List.range_succ, List.map_append, List.map_append]
        exact g1
      · rintro b o hb i ⟨a, ha, hsp, hbk, _, _⟩
        have := i6 a.block a.off (by rw [ha]; cases a; cases hsp; rfl)
        show h.next ≤ b
        omega
      · rcases g3 with ⟨rfl, rfl⟩ | ⟨b, rfl, hb⟩
        · exact i6
        · intro b' o e; cases e; omega
    · have hge := of_decide_eq_false hge
      have : cnt s m ≤ j := cnt_ge (by omega) (by omega)
      have : j = cnt s m := by omega
      subst this
      exact hQ lp lc h' i2 i3 (i4.old hw (Nat.le_refl _)) i5 i6
  have c0 : Chg (New h.next) h (h.new (.row (bv (List.replicate m 0)) 1 false)) := Chg.new hw _
  have b0 : BR (h.new (.row (bv (List.replicate m 0)) 1 false)) h.next (List.replicate m 0) := by unfold BR; rw [AH.get_new, if_pos rfl]; rfl
  by_cases hm0 : m = 0
  · subst hm0
    have : xs = [] := List.length_eq_zero_iff.1 hx
    subst this
    exact CopyW.zero elem22 rfl (by omega) ⟨_, rfl, key _ c0 b0 (Nat.lt_succ_self _) _⟩
  · have hs' : Sl (h.new (.row (bv (List.replicate m 0)) 1 false)) 1 q m (bv xs) := hs.chg0 (Chg.new hw _)
    refine CopyW.intro (m := m) (l := bv xs) elem22 rfl (by omega) ?_ (bv_one _) b0 (by rw [bv_length]; simp) ⟨_, rfl, key _ ?_ ?_ ?_ _⟩
    · have := hs'.src (c := qc) (n := min m m) (by omega)
      rw [Nat.mul_one, Nat.min_self, List.take_of_length_le (by rw [bv_length]; omega)] at this
      rw [Nat.min_self]; exact this
    · exact c0.trans (Chg.put b0 (by rw [lsplice_length] <;> simp [bv, hx]) fun i hi => absurd (Nat.le_refl _) hi)
    · have : lsplice (bv (List.replicate m 0)) 0 (bv xs) = bv xs := by simp [lsplice, bv, hx]
      rw [this]; exact BR.put _
    · exact Nat.lt_succ_self _
end Go.Proofs.Tryz

set_option maxRecDepth 100000
namespace Go.Proofs.Tryz
open Go Go.AE
abbrev nilP : Pc := (none, 0, 0)
noncomputable def inf22 : TypeInfo := (prog.info? 22).getD default
theorem info22 : prog.info? 22 = some inf22 := by kernel_rfl
theorem size22 : inf22.size = 1 := by kernel_rfl
/-- Pieces that are memory of their own. -/
structure Own (h : AH) (N : Nat) (lp : Option Addr) (lc : Nat) (ps : List Pc) (f : Nat → List UInt8) : Prop where
  row : Gro h 1 lp ps.length lc (ps.map sv)
  lpN : ∀ b o, lp = some ⟨b, o, none⟩ → N ≤ b
  piece : ∀ t, t < ps.length → Gro h 1 (ps.getD t nilP).1 (ps.getD t nilP).2.1 (ps.getD t nilP).2.2 (bv (f t))
  new : ∀ t, t < ps.length → ∀ b o, (ps.getD t nilP).1 = some ⟨b, o, none⟩ → N ≤ b ∧ (∀ o', lp ≠ some ⟨b, o', none⟩) ∧ ∀ t', t' < ps.length → t' ≠ t → ∀ o', (ps.getD t' nilP).1 ≠ some ⟨b, o', none⟩
theorem getD_app {ps : List Pc} {x : Pc} {t : Nat} : (ps ++ [x]).getD t nilP = if t < ps.length then ps.getD t nilP else if t = ps.length then x else nilP := by
  simp only [List.getD_eq_getElem?_getD]
  by_cases h : t < ps.length
  · rw [if_pos h, List.getElem?_append_left h]
  · rw [if_neg h, List.getElem?_append_right (by omega)]
    by_cases h' : t = ps.length
    · subst h'; simp
    · rw [if_neg h', List.getElem?_eq_none (by simp; omega)]; rfl
theorem getD_set {ps : List Pc} {x : Pc} {n t : Nat} (hn : n < ps.length) : (ps.set n x).getD t nilP = if t = n then x else ps.getD t nilP := by
  simp only [List.getD_eq_getElem?_getD, List.getElem?_set]
  by_cases h : t = n
  · subst h; rw [if_pos rfl, if_pos hn, if_pos rfl]; rfl
  · rw [if_neg (fun e => h e.symm), if_neg h]
theorem _root_.Go.AE.Gro.block {h : AH} {p : Option Addr} {l c : Nat} {cs : List Value} {b o : Nat} (hw : Wf h) (hg : Gro h 1 p l c cs) (hp : p = some ⟨b, o, none⟩) : b < h.next := by
  rcases hg.place hw with ⟨rfl, _⟩ | ⟨b', o', rfl, hb⟩
  · cases hp
  · cases hp; exact hb
theorem Own.chg {W : Nat → Nat → Prop} {h h' : AH} {N : Nat} {lp : Option Addr} {lc : Nat} {ps : List Pc} {f : Nat → List UInt8} (ho : Own h N lp lc ps f) (hc : Chg W h h') (hW : ∀ b i, W b i → b < N) : Own h' N lp lc ps f := by
  refine ⟨ho.row.chg hc ?_, ho.lpN, fun t ht => (ho.piece t ht).chg hc ?_, ho.new⟩
  · rintro ⟨ab, ao, asp⟩ ha hs i _ _ hw
    cases hs
    have := ho.lpN _ _ ha
    have : ab < N := hW _ _ hw
    omega
  · rintro ⟨ab, ao, asp⟩ ha hs i _ _ hw
    cases hs
    have := (ho.new t ht _ _ ha).1
    have : ab < N := hW _ _ hw
    omega
/-- A nil piece more. -/
theorem Own.push {h : AH} {N : Nat} {lp : Option Addr} {lc : Nat} {ps : List Pc} {f : Nat → List UInt8} {K : Value → AH → Prop} (hw : Wf h) (hN : N ≤ h.next) (ho : Own h N lp lc ps f) (hn : ps.length < 1099511627776) (hf : f ps.length = [])
    (hk : ∀ p' c' h', Own h' N p' c' (ps ++ [nilP]) f → Chg (New N) h h' → K (.slice p' (ps.length + 1) c') h') :
    AppW prog (h.new (.row [.slice none 0 0] 1 false)) 25 25 (.slice lp ps.length lc) (.slice (some ⟨h.next, 0, none⟩) 1 1) K := by
  refine AppW.one elem25 und25 rfl hw ho.row rfl rfl (by omega) (by omega) fun p' c' h' g1 g2 g3 => ?_
  have hlp : ∀ b o, p' = some ⟨b, o, none⟩ → N ≤ b ∧ ∀ t, t < ps.length → ∀ o', (ps.getD t nilP).1 ≠ some ⟨b, o', none⟩ := by
    intro b o hp
    rcases g3 with ⟨rfl, rfl⟩ | ⟨b', rfl, hb⟩
    · exact ⟨ho.lpN _ _ hp, fun t ht o' e => (ho.new t ht _ _ e).2.1 _ hp⟩
    · cases hp
      exact ⟨by omega, fun t ht o' e => by have := (ho.piece t ht).block hw e; omega⟩
  refine hk p' c' h' ⟨?_, fun b o e => (hlp b o e).1, fun t ht => ?_, fun t ht b o e => ?_⟩ (g2.mono ?_)
  · rw [List.map_append, List.length_append]; exact g1
  · rw [getD_app]
    by_cases h1 : t < ps.length
    · rw [if_pos h1]
      refine (ho.piece t h1).chg g2 ?_
      rintro ⟨ab, ao, asp⟩ ha hs i _ _ hr
      cases hs
      obtain ⟨o, hr, _⟩ := hr.at
      exact (ho.new t h1 _ _ ha).2.1 _ hr
    · have : t = ps.length := by simp at ht; omega
      rw [if_neg h1, if_pos this, this, hf]
      exact Gro.nil
  · rw [getD_app] at e
    by_cases h1 : t < ps.length
    · rw [if_pos h1] at e
      refine ⟨(ho.new t h1 _ _ e).1, fun o' e' => (hlp _ _ e').2 t h1 _ e, fun t' ht' hne o' e' => ?_⟩
      rw [getD_app] at e'
      by_cases h2 : t' < ps.length
      · rw [if_pos h2] at e'; exact (ho.new t h1 _ _ e).2.2 t' h2 hne _ e'
      · rw [if_neg h2] at e'
        split at e' <;> cases e'
    · rw [if_neg h1] at e
      split at e <;> cases e
  · intro b o hb i hr
    obtain ⟨o, hr, _⟩ := hr.at
    exact ho.lpN _ _ hr
/-- A byte more in the last piece: what the code asks. -/
theorem Own.last {h : AH} {N J : Nat} {lp : Option Addr} {lc : Nat} {ps : List Pc} {f : Nat → List UInt8} (hw : Wf h) (hN : N ≤ h.next) (ho : Own h N lp lc ps f) (hJ : ps.length = J + 1) (hn : J < 1099511627776) (hl : (ps.getD J nilP).2.1 ≤ 1099511627776) (v : UInt8) :
    ∃ b o, xindexAddr prog 25 (.slice lp (J + 1) lc) (.int .i64 (IntKind.i64.wrap (((J + 1 : Nat) : Int) - 1))) = some (.pointer (some ⟨b, o + J, none⟩)) ∧
      (∀ h1, Own h1 N lp lc ps f → xload prog h1 22 (.pointer (some ⟨b, o + J, none⟩)) = some (sv (ps.getD J nilP))) ∧
      ∀ K : Value → AH → Prop, (∀ p' c' h', (∃ h4, astore prog h' 22 (.pointer (some ⟨b, o + J, none⟩)) (.slice p' ((ps.getD J nilP).2.1 + 1) c') = some h4 ∧ Own h4 N lp lc (ps.set J (p', (ps.getD J nilP).2.1 + 1, c')) (fun t => if t = J then f J ++ [v] else f t) ∧ Chg (New N) h h4) →
        K (.slice p' ((ps.getD J nilP).2.1 + 1) c') h') →
        AppW prog (h.new (.row [.int .u8 v.toNat] 1 false)) 22 22 (sv (ps.getD J nilP)) (.slice (some ⟨h.next, 0, none⟩) 1 1) K := by
  have e0 : IntKind.i64.wrap (((J + 1 : Nat) : Int) - 1) = (J : Int) := by
    rw [show ((J + 1 : Nat) : Int) - 1 = (J : Int) by omega, wrap_in (by omega)]
  rw [e0]
  have hlen : ps.length = J + 1 := hJ
  have hrow := ho.row
  rw [hJ] at hrow
  obtain ⟨b, o, hlp, a1, _⟩ := hrow.elem (P := prog) (t := 25) (e := 22) (i := (J : Int)) (k := .i64) (d := .slice 5) und25 info22 size22 (by kernel_rfl) rfl (by omega) (by omega)
  rw [Int.toNat_natCast] at a1
  refine ⟨b, o, a1, fun h1 ho1 => ?_, fun K hK => ?_⟩
  · have hrow1 := ho1.row
    rw [hJ] at hrow1
    obtain ⟨b', o', hlp', _, a2⟩ := hrow1.elem (P := prog) (t := 25) (e := 22) (i := (J : Int)) (k := .i64) (d := .slice 5) und25 info22 size22 (by kernel_rfl) rfl (by omega) (by omega)
    rw [hlp] at hlp'
    cases hlp'
    rw [Int.toNat_natCast] at a2
    rw [a2]
    simp [List.getD_eq_getElem?_getD, hlen]
  · have hp := ho.piece J (by omega)
    refine AppW.one elem22 und22 rfl hw hp rfl rfl (by omega) (by omega) fun p' c' h' g1 g2 g3 => ?_
    have g1' : Gro h' 1 p' ((ps.getD J nilP).2.1 + 1) c' (bv (f J ++ [v])) := by rw [bv_append]; exact g1
    have hW : ∀ bb i, Range (ps.getD J nilP).1 ((ps.getD J nilP).2.1 * [Value.int .u8 0].length) ((ps.getD J nilP).2.2 * [Value.int .u8 0].length) bb i → N ≤ bb ∧ (∀ o', lp ≠ some ⟨bb, o', none⟩) ∧ ∀ t', t' < ps.length → t' ≠ J → ∀ o', (ps.getD t' nilP).1 ≠ some ⟨bb, o', none⟩ := by
      intro bb i hr
      obtain ⟨o', hr, _⟩ := hr.at
      exact ho.new J (by omega) _ _ hr
    have hp' : ∀ bb oo, p' = some ⟨bb, oo, none⟩ → N ≤ bb ∧ (∀ o', lp ≠ some ⟨bb, o', none⟩) ∧ ∀ t', t' < ps.length → t' ≠ J → ∀ o', (ps.getD t' nilP).1 ≠ some ⟨bb, o', none⟩ := by
      intro bb oo e
      rcases g3 with ⟨rfl, rfl⟩ | ⟨b', rfl, hb⟩
      · exact ho.new J (by omega) _ _ e
      · cases e
        exact ⟨by omega, fun o' e => by have := ho.row.block hw e; omega, fun t' ht' _ o' e => by have := (ho.piece t' ht').block hw e; omega⟩
    have hrow' : Gro h' 1 lp ps.length lc (ps.map sv) := by
      refine ho.row.chg g2 ?_
      rintro ⟨ab, ao, asp⟩ ha hs i _ _ hr
      cases hs
      exact (hW _ _ hr).2.1 _ ha
    subst hlp
    obtain ⟨h4, s1, s2, s3⟩ := hrow'.store (P := prog) (e := 22) (n := J) (v := .slice p' ((ps.getD J nilP).2.1 + 1) c') info22 size22 rfl rfl (by omega)
    refine hK p' c' h' ⟨h4, s1, ⟨?_, ho.lpN, fun t ht => ?_, fun t ht bb oo e => ?_⟩, (g2.mono fun _ _ _ _ hr => (hW _ _ hr).1).trans (s3.mono fun bb _ _ i hr => ?_)⟩
    · rw [List.length_set]
      have : (ps.set J (p', (ps.getD J nilP).2.1 + 1, c')).map sv = (ps.map sv).set J (.slice p' ((ps.getD J nilP).2.1 + 1) c') := by rw [List.map_set]; rfl
      rw [this]; exact s2
    · rw [List.length_set] at ht
      rw [getD_set (by omega)]
      by_cases e : t = J
      · subst e
        simp only [if_pos]
        refine g1'.chg s3 ?_
        rintro ⟨ab, ao, asp⟩ ha hs i _ _ hr
        cases hs
        obtain ⟨oo, hr, _⟩ := hr.at
        exact (hp' _ _ ha).2.1 _ hr
      · simp only [if_neg e]
        refine ((ho.piece t ht).chg g2 ?_).chg s3 ?_
        · rintro ⟨ab, ao, asp⟩ ha hs i _ _ hr
          cases hs
          exact (hW _ _ hr).2.2 t ht e _ ha
        · rintro ⟨ab, ao, asp⟩ ha hs i _ _ hr
          cases hs
          obtain ⟨oo, hr, _⟩ := hr.at
          exact (ho.new t ht _ _ ha).2.1 _ hr
    · rw [List.length_set] at ht
      rw [getD_set (by omega)] at e
      by_cases et : t = J
      · subst et
        rw [if_pos rfl] at e
        obtain ⟨n1, n2, n3⟩ := hp' _ _ e
        refine ⟨n1, n2, fun t' ht' hne o' e' => ?_⟩
        rw [List.length_set] at ht'
        rw [getD_set (by omega), if_neg hne] at e'
        exact n3 t' ht' hne o' e'
      · rw [if_neg et] at e
        obtain ⟨n1, n2, n3⟩ := ho.new t ht _ _ e
        refine ⟨n1, n2, fun t' ht' hne o' e' => ?_⟩
        rw [List.length_set] at ht'
        rw [getD_set (by omega)] at e'
        by_cases et' : t' = J
        · rw [if_pos et'] at e'
          exact (hp' _ _ e').2.2 t ht et _ e
        · rw [if_neg et'] at e'
          exact n3 t' ht' hne o' e'
    · obtain ⟨oo, hr, _⟩ := hr.at
      exact ho.lpN _ _ hr
end Go.Proofs.Tryz

set_option maxRecDepth 100000
namespace Go.Proofs.Tryz
open Go Go.AE
theorem ch_next {s i J : Nat} {xs : List UInt8} (hi : i < xs.length) (h1 : J * s ≤ i) (h2 : i < J * s + s) : ch s (xs.take (i + 1)) J = ch s (xs.take i) J ++ [xs.getD i 0] := by
  unfold ch
  rw [take_succ_getD xs 0 i hi, List.drop_append_of_le_length (by simp; omega), List.take_append]
  have hl : (List.drop (J * s) (List.take i xs)).length = i - J * s := by simp; omega
  rw [hl]
  congr 1
  rw [List.take_of_length_le (by simp; omega)]
theorem ch_same {s i t : Nat} {xs : List UInt8} (hi : i < xs.length) (h1 : t * s + s ≤ i) : ch s (xs.take (i + 1)) t = ch s (xs.take i) t := by
  unfold ch
  rw [take_succ_getD xs 0 i hi, List.drop_append_of_le_length (by simp; omega), List.take_append_of_le_length (by simp; omega)]
theorem ch_nil {s i t : Nat} {xs : List UInt8} (h1 : i ≤ t * s) : ch s (xs.take i) t = [] := by
  unfold ch
  rw [List.drop_of_length_le (by simp; omega), List.take_nil]
theorem ch_len {s t : Nat} {xs : List UInt8} : (ch s xs t).length ≤ s := by unfold ch; simp; omega
theorem cnt_zero {s : Nat} (hs : 0 < s) : cnt s 0 = 0 := by have := cnt_ge (s := s) (m := 0) (j := 0) hs (by omega); omega
theorem cnt_succ {s i : Nat} (hs : 0 < s) : cnt s (i + 1) = i / s + 1 := by
  unfold cnt
  rw [show i + 1 + s - 1 = i + s by omega, Nat.add_div_right _ hs]
theorem cnt_eq {s i : Nat} (hs : 0 < s) (h : i % s = 0) : cnt s i = i / s := by
  have h1 := Nat.div_add_mod i s
  rw [h, Nat.mul_comm] at h1
  refine Nat.le_antisymm (cnt_ge hs (by omega)) ((Nat.le_div_iff_mul_le hs).2 ?_)
  omega
theorem cnt_ne {s i : Nat} (hs : 0 < s) (h : i % s ≠ 0) : cnt s i = i / s + 1 := by
  have h1 := Nat.div_add_mod i s
  have h2 := Nat.mod_lt i hs
  rw [Nat.mul_comm] at h1
  refine Nat.le_antisymm (cnt_ge hs (by rw [Nat.succ_mul]; omega)) (cnt_lt hs (by omega))
theorem Own.f {h : AH} {N : Nat} {lp : Option Addr} {lc : Nat} {ps : List Pc} {f g : Nat → List UInt8} (ho : Own h N lp lc ps f) (hf : ∀ t, t < ps.length → g t = f t) : Own h N lp lc ps g :=
  ⟨ho.row, ho.lpN, fun t ht => by rw [hf t ht]; exact ho.piece t ht, ho.new⟩
theorem refBad {h : AH} {q : Option Addr} {m qc : Nat} {a1 : Int} {Q : Value → AH → Prop} (hb : a1 < 1 ∨ 4096 < a1) (hQ : Q (.tuple ⟨[.slice none 0 0, .int .i64 1]⟩) h) : CallW prog 7 [.slice q m qc, .int .i64 a1] h Q := by
  refine wcall7 _ _ _ _ h Q ?_
  unfold wT7
  rw [iteB_iff]
  refine ⟨fun _ => hQ, fun h1 => ?_⟩
  rw [iteB_iff]
  refine ⟨fun _ => hQ, fun h2 => ?_⟩
  have := of_decide_eq_false h1
  have := of_decide_eq_false h2
  omega
theorem refGood {h : AH} {q : Option Addr} {m qc s : Nat} {xs : List UInt8} {Q : Value → AH → Prop} (hw : Wf h) (hs : Sl h 1 q m (bv xs)) (hm : m ≤ 1099511627776) (h1 : 1 ≤ s) (h2 : s ≤ 4096)
    (hQ : ∀ p c h' ps, Own h' h.next p c ps (ch s xs) → ps.length = cnt s m → Chg Nothing h h' → Q (.tuple ⟨[.slice p (cnt s m) c, .int .i64 0]⟩) h') : CallW prog 7 [.slice q m qc, .int .i64 s] h Q := by
  have hx := Sl.len1 hs
  refine wcall7 _ _ _ _ h Q ?_
  unfold wT7
  rw [iteB_iff]
  refine ⟨fun hh => by have := of_decide_eq_true hh; omega, fun _ => ?_⟩
  rw [iteB_iff]
  refine ⟨fun hh => by have := of_decide_eq_true hh; omega, fun _ => ?_⟩
  refine LoopAt.rule noNum (by kernel_rfl) (fun k tm h' => ∃ (i : Nat) (lp : Option Addr) (lc : Nat) (ps : List Pc), tm = wfr7_0 q m qc s lp ps.length lc i (lget tm undef) ∧ i ≤ m ∧ k = m - i ∧
      Own h' h.next lp lc ps (ch s (xs.take i)) ∧ ps.length = cnt s i ∧ Chg (New h.next) h h') m
    ⟨0, none, 0, [], by kernel_rfl, by omega, by omega, ⟨Gro.nil, fun b o e => (by cases e), fun t ht => absurd ht (Nat.not_lt_zero _), fun t ht => absurd ht (Nat.not_lt_zero _)⟩, (cnt_zero (by omega)).symm, Chg.refl _ _⟩ ?_
  rintro k tm h' ⟨i, lp, lc, ps, htm, i1, rfl, i2, i3, i4⟩
  obtain ⟨g, rfl⟩ : ∃ g, tm = wfr7_0 q m qc s lp ps.length lc i g := ⟨_, htm⟩
  have hw' := i4.wf hw
  have hs0 : 0 < s := by omega
  rw [← wround7_0]
  unfold wB7_0
  rw [iteB_iff]
  refine ⟨fun hlt => ?_, fun hge => ?_⟩
  · have hlt : i < m := by have := of_decide_eq_true hlt; omega
    rw [iteB_iff]
    refine ⟨fun hz => by have := of_decide_eq_true hz; omega, fun _ => ?_⟩
    have d1 := Nat.div_add_mod i s
    have d2 := Nat.mod_lt i hs0
    rw [Nat.mul_comm] at d1
    have hJ : i / s ≤ i := Nat.div_le_self _ _
    have hw64 : IntKind.i64.wrap ((i : Int) + 1) = ((i + 1 : Nat) : Int) := wrap_in (by omega)
    have hb : ∀ h2, Chg (New h.next) h h2 → ∃ qq, xindexAddr prog 22 (.slice q m qc) (.int .i64 i) = some (.pointer qq) ∧ xload prog h2 5 (.pointer qq) = some (.int .u8 (xs.getD i 0).toNat) := fun h2 hc => by
      have := Sl.byte (c := qc) (i := (i : Int)) (k := .i64) (hs.old (W := Nothing) hw (Nat.le_refl _) (hc.mono fun _ _ _ _ q => .inr q) ApartW.nothing) (by omega) (by omega)
      simpa using this
    have hend : ∀ (lp : Option Addr) (lc : Nat) (ps : List Pc) (x : Pc) (h4 : AH), ps.length = i / s + 1 → Own h4 h.next lp lc (ps.set (i / s) x) (fun t => if t = i / s then ch s (xs.take i) (i / s) ++ [xs.getD i 0] else ch s (xs.take i) t) →
        Own h4 h.next lp lc (ps.set (i / s) x) (ch s (xs.take (i + 1))) ∧ (ps.set (i / s) x).length = cnt s (i + 1) := by
      intro lp lc ps x h4 hl ho
      refine ⟨ho.f fun t ht => ?_, by rw [List.length_set, hl, cnt_succ hs0]⟩
      rw [List.length_set] at ht
      by_cases e : t = i / s
      · subst e
        rw [if_pos rfl]
        exact ch_next (by omega) (by omega) (by omega)
      · rw [if_neg e]
        refine ch_same (by omega) ?_
        have : (t + 1) * s ≤ i / s * s := Nat.mul_le_mul_right _ (by omega)
        rw [Nat.succ_mul] at this
        omega
    have hsmall : ∀ (h2 : AH) (lp : Option Addr) (lc : Nat) (ps : List Pc), ps.length = i / s + 1 → Own h2 h.next lp lc ps (ch s (xs.take i)) → (ps.getD (i / s) nilP).2.1 ≤ 1099511627776 := by
      intro h2 lp lc ps hl ho
      have h1 := (ho.piece (i / s) (by omega)).2.1
      have h2 := ch_len (s := s) (t := i / s) (xs := xs.take i)
      rw [bv_length] at h1
      omega
    rw [iteB_iff]
    refine ⟨fun hmod => ?_, fun hmod => ?_⟩
    · have hmod : i % s = 0 := by have := of_decide_eq_true hmod; rw [Int.tmod_eq_emod_of_nonneg (by omega)] at this; omega
      have hcnt := cnt_eq hs0 hmod
      refine i2.push hw' i4.next (by omega) (by rw [i3, hcnt]; exact ch_nil (by omega)) fun p2 c2 h2 o2 g2 => ?_
      have hl2 : (ps ++ [nilP]).length = i / s + 1 := by simp [i3, hcnt]
      have g2' := i4.trans g2
      have hw2 := g2'.wf hw
      rw [i3, hcnt]
      obtain ⟨b, o, a1, a2, a3⟩ := o2.last hw2 g2'.next hl2 (by omega) (hsmall _ _ _ _ hl2 o2) (xs.getD i 0)
      obtain ⟨qq, b1, b2⟩ := hb h2 g2'
      refine ⟨_, _, _, rfl, _, a1, _, _, _, a2 _ o2, _, b1, _, b2, ⟨_, _, _, a2 _ (o2.chg (Chg.new (W := Nothing) hw2 _) fun _ _ q => q.elim), rfl⟩, ⟨_, a1, rfl⟩, rfl, rfl, rfl, rfl, rfl, rfl, rfl, rfl, ?_⟩
      refine a3 _ fun p' c' h3 ⟨h4, s1, s2, s3⟩ => ⟨_, _, _, rfl, rfl, rfl, rfl, rfl, _, a1, h4, s1, ?_⟩
      obtain ⟨e1, e2⟩ := hend _ _ _ _ _ hl2 s2
      refine ⟨rfl, m - (i + 1), by omega, i + 1, p2, c2, _, ?_, by omega, rfl, e1, e2, g2'.trans s3⟩
      rw [List.length_set, hl2, hw64]
      kernel_rfl
    · have hmod : i % s ≠ 0 := by have := of_decide_eq_false hmod; rw [Int.tmod_eq_emod_of_nonneg (by omega)] at this; omega
      have hcnt := cnt_ne hs0 hmod
      have hl2 : ps.length = i / s + 1 := by rw [i3, hcnt]
      rw [hl2]
      obtain ⟨b, o, a1, a2, a3⟩ := i2.last hw' i4.next hl2 (by omega) (hsmall _ _ _ _ hl2 i2) (xs.getD i 0)
      obtain ⟨qq, b1, b2⟩ := hb h' i4
      refine ⟨_, a1, _, _, _, a2 _ i2, _, b1, _, b2, ⟨_, _, _, a2 _ (i2.chg (Chg.new (W := Nothing) hw' _) fun _ _ q => q.elim), rfl⟩, ⟨_, a1, rfl⟩, rfl, rfl, rfl, rfl, rfl, rfl, rfl, rfl, ?_⟩
      refine a3 _ fun p' c' h3 ⟨h4, s1, s2, s3⟩ => ⟨_, _, _, rfl, rfl, rfl, rfl, rfl, _, a1, h4, s1, ?_⟩
      obtain ⟨e1, e2⟩ := hend _ _ _ _ _ hl2 s2
      refine ⟨rfl, m - (i + 1), by omega, i + 1, lp, lc, _, ?_, by omega, rfl, e1, e2, i4.trans s3⟩
      rw [List.length_set, hl2, hw64]
      kernel_rfl
  · have hge := of_decide_eq_false hge
    have hi : i = m := by omega
    subst hi
    rw [i3]
    rw [List.take_of_length_le (by omega)] at i2
    exact hQ lp lc h' ps i2 i3 (i4.old hw (Nat.le_refl _))
end Go.Proofs.Tryz

set_option maxRecDepth 100000
namespace Go.Proofs.Tryz
open Go Go.AE
theorem elem35 : ElemT prog 35 25 [.slice none 0 0] 24 := ⟨(prog.info? 25).getD default, .slice none 0 0, by kernel_rfl, by kernel_rfl, by kernel_rfl, rfl, by kernel_rfl, by decide, rfl, rfl, by kernel_rfl⟩
theorem und35 : prog.underlying 35 = some (.slice 25) := by kernel_rfl
noncomputable def inf25 : TypeInfo := (prog.info? 25).getD default
noncomputable def inf35 : TypeInfo := (prog.info? 35).getD default
theorem info25 : prog.info? 25 = some inf25 := by kernel_rfl
theorem info35 : prog.info? 35 = some inf35 := by kernel_rfl
theorem size25 : inf25.size = 1 := by kernel_rfl
theorem size35 : inf35.size = 1 := by kernel_rfl
/-- A bag's cells. -/
def bagC (x y : Value) : List Value := x :: .slice none 0 0 :: .slice none 0 0 :: y :: List.replicate 17 (.slice none 0 0)
structure BagS (h : AH) (kb : Nat) (bp : Option Addr) (bc : Nat) (ps : List Pc) (pp : Option Addr) (pc : Nat) (qs : List Pc) : Prop where
  row : ∃ zz, h.get kb = some (.row (bagC (.slice bp ps.length bc) (.slice pp qs.length pc)) zz false)
  bytes : Gro h 1 bp ps.length bc (ps.map sv)
  pieces : Gro h 1 pp qs.length pc (qs.map sv)
  lb : ps.length ≤ 600
  lp : qs.length ≤ 600
  d1 : ∀ o, bp ≠ some ⟨kb, o, none⟩
  d2 : ∀ o, pp ≠ some ⟨kb, o, none⟩
  d3 : ∀ b o o', bp = some ⟨b, o, none⟩ → pp ≠ some ⟨b, o', none⟩
/-- The blocks of a bag. -/
def BagB (kb : Nat) (bp pp : Option Addr) (b : Nat) : Prop := b = kb ∨ (∃ o, bp = some ⟨b, o, none⟩) ∨ ∃ o, pp = some ⟨b, o, none⟩
def addP (ps : List Pc) (x : Pc) : List Pc := if ps.length < 600 then ps ++ [x] else ps
theorem addP_map (ps : List Pc) (x : Pc) : (ps ++ [x]).map sv = ps.map sv ++ [sv x] := by rw [List.map_append]; rfl
theorem BagS.lt {h : AH} {kb bc pc : Nat} {bp pp : Option Addr} {ps qs : List Pc} (hw : Wf h) (hg : BagS h kb bp bc ps pp pc qs) {b : Nat} (hb : BagB kb bp pp b) : b < h.next := by
  rcases hb with rfl | ⟨o, e⟩ | ⟨o, e⟩
  · obtain ⟨zz, hr⟩ := hg.row; exact hw _ _ hr
  · exact hg.bytes.block hw e
  · exact hg.pieces.block hw e
theorem BagS.chg {W : Nat → Nat → Prop} {h h' : AH} {kb bc pc : Nat} {bp pp : Option Addr} {ps qs : List Pc} (hg : BagS h kb bp bc ps pp pc qs) (hc : Chg W h h') (hW : ∀ b i, W b i → ¬ BagB kb bp pp b) : BagS h' kb bp bc ps pp pc qs := by
  obtain ⟨⟨zz, h1⟩, h2, h3, h4, h5, h6, h7, h8⟩ := hg
  refine ⟨⟨zz, ?_⟩, h2.chg hc ?_, h3.chg hc ?_, h4, h5, h6, h7, h8⟩
  · obtain ⟨C', g1, g2, g3⟩ := hc.row _ _ _ _ h1
    rw [g1, List.ext_getElem? fun i => g3 i fun hw => hW _ _ hw (.inl rfl)]
  · rintro ⟨ab, ao, asp⟩ ha hs i _ _ hw
    cases hs
    exact hW _ _ hw (.inr (.inl ⟨_, ha⟩))
  · rintro ⟨ab, ao, asp⟩ ha hs i _ _ hw
    cases hs
    exact hW _ _ hw (.inr (.inr ⟨_, ha⟩))
theorem addBytes {h : AH} {kb bc pc : Nat} {bp pp : Option Addr} {ps qs : List Pc} {p : Option Addr} {l c : Nat} {Q : Value → AH → Prop} (hw : Wf h) (hg : BagS h kb bp bc ps pp pc qs)
    (hQ : ∀ bp' bc' h', BagS h' kb bp' bc' (addP ps (p, l, c)) pp pc qs → Chg (fun b _ => BagB kb bp pp b) h h' → (∀ b, BagB kb bp' pp b → BagB kb bp pp b ∨ h.next ≤ b) → Q undef h') : CallW prog 13 [.pointer (some ⟨kb, 0, none⟩), .slice p l c] h Q := by
  obtain ⟨⟨zz, h1⟩, h2, h3, h4, h5, h6, h7, h8⟩ := id hg
  have hkb := hw _ _ h1
  have l1 := load1 (P := prog) (e := 25) (d := .slice 22) (o := 0) und25 rfl h1 (by simp [bagC])
  refine wcall13 _ _ _ _ h Q ?_
  unfold wT13
  refine ⟨.ptr _ _, .ptr _ _, _, _, _, l1, ?_⟩
  rw [iteB_iff]
  refine ⟨fun hlt => ?_, fun hge => ?_⟩
  · have hlt : ps.length < 600 := by have := of_decide_eq_true hlt; omega
    refine ⟨.ptr _ _, .ptr _ _, _, _, _, l1, ?_⟩
    refine AppW.one elem25 und25 rfl hw h2 rfl rfl (by omega) (by omega) fun p' c' h' g1 g2 g3 => ?_
    have hW : ∀ b i, Range bp (ps.length * [Value.slice none 0 0].length) (bc * [Value.slice none 0 0].length) b i → ∃ o, bp = some ⟨b, o, none⟩ := fun b i hr => by
      obtain ⟨o, hr, _⟩ := hr.at
      exact ⟨o, hr⟩
    obtain ⟨C', r1, r2, r3⟩ := g2.row _ _ _ _ h1
    have hC : C' = bagC (.slice bp ps.length bc) (.slice pp qs.length pc) := List.ext_getElem? fun i => r3 i fun hr => by
      obtain ⟨o, e⟩ := hW _ _ hr
      exact h6 _ e
    subst hC
    refine ⟨_, _, _, rfl, .ptr _ _, .ptr _ _, _, store1 info25 size25 r1 (by simp [bagC]) rfl rfl, ?_⟩
    have hp' : ∀ b o, p' = some ⟨b, o, none⟩ → (∃ o', bp = some ⟨b, o', none⟩) ∨ h.next ≤ b := by
      intro b o e
      rcases g3 with ⟨rfl, rfl⟩ | ⟨b', rfl, hb⟩
      · exact .inl ⟨_, e⟩
      · cases e; exact .inr hb
    have n1 : ∀ o, p' ≠ some ⟨kb, o, none⟩ := fun o e => by
      rcases hp' _ _ e with ⟨o', e'⟩ | hb
      · exact h6 _ e'
      · omega
    have put1 : Chg (fun b _ => b = kb) h' (h'.put kb (.row (bagC (.slice p' (ps.length + 1) c') (.slice pp qs.length pc)) zz false)) := Chg.put r1 (by simp [bagC]) fun i hi => absurd rfl hi
    refine hQ p' c' _ ?_ ((g2.mono fun b o hb i hr => .inr (.inl (hW _ _ hr))).trans (put1.mono fun b o hb i e => .inl e)) ?_
    · have ea : addP ps (p, l, c) = ps ++ [(p, l, c)] := by unfold addP; rw [if_pos hlt]
      rw [ea]
      refine ⟨⟨zz, ?_⟩, ?_, ?_, by rw [List.length_append]; exact hlt, h5, n1, h7, ?_⟩
      · rw [AH.get_put, if_pos rfl, List.length_append]; rfl
      · rw [addP_map, List.length_append]
        refine Gro.chg put1 g1 ?_
        rintro ⟨ab, ao, asp⟩ ha hs i _ _ hr
        cases hs
        cases hr
        exact n1 _ ha
      · refine (h3.chg g2 ?_).chg put1 ?_
        · rintro ⟨ab, ao, asp⟩ ha hs i _ _ hr
          cases hs
          obtain ⟨o, e⟩ := hW _ _ hr
          exact h8 _ _ _ e ha
        · rintro ⟨ab, ao, asp⟩ ha hs i _ _ hr
          cases hs
          cases hr
          exact h7 _ ha
      · intro b o o' e e'
        rcases hp' _ _ e with ⟨o', e2⟩ | hb
        · exact h8 _ _ _ e2 e'
        · have := h3.block hw e'; omega
    · rintro b (rfl | ⟨o, e⟩ | ⟨o, e⟩)
      · exact .inl (.inl rfl)
      · exact (hp' _ _ e).imp (fun e => .inr (.inl e)) id
      · exact .inl (.inr (.inr ⟨o, e⟩))
  · have hge : ¬ ps.length < 600 := by have := of_decide_eq_false hge; omega
    have ea : addP ps (p, l, c) = ps := by unfold addP; rw [if_neg hge]
    exact hQ bp bc h (by rw [ea]; exact hg) (Chg.refl _ _) fun b hb => .inl hb
end Go.Proofs.Tryz

set_option maxRecDepth 100000
namespace Go.Proofs.Tryz
open Go Go.AE
theorem foldl_take {α β : Type} (f : β → α → β) (a : β) (xs : List α) (d : α) (i : Nat) (hi : i < xs.length) : (xs.take (i + 1)).foldl f a = f ((xs.take i).foldl f a) (xs.getD i d) := by
  rw [take_succ_getD xs d i hi, List.foldl_append]; rfl
theorem addPieces {h : AH} {kb bc pc : Nat} {bp pp : Option Addr} {ps qs : List Pc} {p : Option Addr} {n c : Nat} {xs : List Pc} {Q : Value → AH → Prop} (hw : Wf h) (hg : BagS h kb bp bc ps pp pc qs) (hs : Sl h 1 p n (xs.map sv)) (hn : n ≤ 1099511627776)
    (hp : ∀ b o, p = some ⟨b, o, none⟩ → ¬ BagB kb bp pp b ∧ b < h.next)
    (hQ : ∀ bp' bc' pp' pc' h', BagS h' kb bp' bc' ((xs.take 600).foldl addP ps) pp' pc' (addP qs (p, n, c)) → Chg (fun b _ => BagB kb bp pp b) h h' → (∀ b, BagB kb bp' pp' b → BagB kb bp pp b ∨ h.next ≤ b) → Q undef h') : CallW prog 12 [.pointer (some ⟨kb, 0, none⟩), .slice p n c] h Q := by
  obtain ⟨⟨zz, h1⟩, h2, h3, h4, h5, h6, h7, h8⟩ := id hg
  have hkb := hw _ _ h1
  have hxl : xs.length = n := by have := hs.1; simpa using this
  have l1 := load1 (P := prog) (e := 35) (d := .slice 25) (o := 3) und35 rfl h1 (by simp [bagC])
  refine wcall12 _ _ _ _ h Q ?_
  unfold wT12
  refine ⟨.ptr _ _, .ptr _ _, _, _, _, l1, ?_⟩
  have key : ∀ (pp' : Option Addr) (pc' : Nat) (h1 : AH) (tm0 : List Value), tm0 = wfr12_0 (some ⟨kb, 0, none⟩) p n c 0 (lget tm0 undef) → BagS h1 kb bp bc ps pp' pc' (addP qs (p, n, c)) → Chg (fun b _ => BagB kb bp pp b) h h1 → (∀ b, BagB kb bp pp' b → BagB kb bp pp b ∨ h.next ≤ b) →
      LoopAt prog none (bodyOf f12) [1, 1, 0] tm0 [] h1 (leaveT prog f12 Q) := by
    intro pp' pc' h1 tm0 ht hg1 hc1 hb1
    refine LoopAt.rule noNum (by kernel_rfl) (fun k tm h' => ∃ (i : Nat) (bp' : Option Addr) (bc' : Nat), tm = wfr12_0 (some ⟨kb, 0, none⟩) p n c i (lget tm undef) ∧ i ≤ n ∧ i ≤ 600 ∧ k = n - i ∧ BagS h' kb bp' bc' ((xs.take i).foldl addP ps) pp' pc' (addP qs (p, n, c)) ∧
        Chg (fun b _ => BagB kb bp pp b) h h' ∧ ∀ b, BagB kb bp' pp' b → BagB kb bp pp b ∨ h.next ≤ b) n
      ⟨0, bp, bc, ht, by omega, by omega, by omega, hg1, hc1, hb1⟩ ?_
    rintro k tm h' ⟨i, bp', bc', htm, i1, i2, rfl, i3, i4, i5⟩
    obtain ⟨g, rfl⟩ : ∃ g, tm = wfr12_0 (some ⟨kb, 0, none⟩) p n c i g := ⟨_, htm⟩
    have hw' := i4.wf hw
    have fin : i = n ∨ i = 600 → Q undef h' := fun hi => by
      have e : xs.take i = xs.take 600 := by
        rcases hi with rfl | rfl
        · rw [List.take_of_length_le (by omega), List.take_of_length_le (by omega)]
        · rfl
      rw [e] at i3
      exact hQ _ _ _ _ _ i3 i4 i5
    rw [← wround12_0]
    unfold wB12_0
    rw [iteB_iff]
    refine ⟨fun hlt => ?_, fun hge => ?_⟩
    · have hlt : i < n := by have := of_decide_eq_true hlt; omega
      rw [iteB_iff]
      refine ⟨fun h6 => ?_, fun h6 => ?_⟩
      · have h6 : i < 600 := by have := of_decide_eq_true h6; omega
        have hs' : Sl h' 1 p n (xs.map sv) := hs.chg i4 (by
          rintro ⟨ab, ao, asp⟩ ha hsp j _ _ hr
          cases hsp
          exact (hp _ _ ha).1 hr)
        obtain ⟨r, a1, a2⟩ := Sl.slice (c := c) (i := (i : Int)) (k := .i64) hs' (by omega) (by omega)
        rw [Int.toNat_natCast] at a2
        refine ⟨r, a1, _, _, _, a2, ?_⟩
        refine addBytes hw' i3 fun bp2 bc2 h2 g1 g2 g3 => ⟨rfl, rfl, n - (i + 1), by omega, i + 1, bp2, bc2, ?_, by omega, by omega, rfl, ?_, ?_, ?_⟩
        · rw [show IntKind.i64.wrap ((i : Int) + 1) = ((i + 1 : Nat) : Int) from wrap_in (by omega)]; kernel_rfl
        · rw [foldl_take addP ps xs nilP i (by omega)]; exact g1
        · exact ((i4.mono fun b o hb j hr => .inl hr).trans (W := fun b _ => BagB kb bp pp b ∨ h.next ≤ b) (g2.mono fun b o hb j hr => i5 _ hr)).mono fun b o hb j hr => Or.resolve_right hr (by have := hw _ _ hb; omega)
        · intro b hb
          rcases g3 b hb with hb | hb
          · exact i5 _ hb
          · exact .inr (Nat.le_trans i4.next hb)
      · exact fin (.inr (by have := of_decide_eq_false h6; omega))
    · exact fin (.inl (by have := of_decide_eq_false hge; omega))
  rw [iteB_iff]
  refine ⟨fun hlt => ?_, fun hge => ?_⟩
  · have hlt : qs.length < 600 := by have := of_decide_eq_true hlt; omega
    refine ⟨.ptr _ _, .ptr _ _, _, _, _, l1, ?_⟩
    refine AppW.one elem35 und35 rfl hw h3 rfl rfl (by omega) (by omega) fun p' c' h' g1 g2 g3 => ?_
    have hW : ∀ b i, Range pp (qs.length * [Value.slice none 0 0].length) (pc * [Value.slice none 0 0].length) b i → ∃ o, pp = some ⟨b, o, none⟩ := fun b i hr => by
      obtain ⟨o, hr, _⟩ := hr.at
      exact ⟨o, hr⟩
    obtain ⟨C', r1, r2, r3⟩ := g2.row _ _ _ _ h1
    have hC : C' = bagC (.slice bp ps.length bc) (.slice pp qs.length pc) := List.ext_getElem? fun i => r3 i fun hr => by
      obtain ⟨o, e⟩ := hW _ _ hr
      exact h7 _ e
    subst hC
    refine ⟨_, _, _, rfl, .ptr _ _, .ptr _ _, _, store1 info35 size35 r1 (by simp [bagC]) rfl rfl, ?_⟩
    have hp' : ∀ b o, p' = some ⟨b, o, none⟩ → (∃ o', pp = some ⟨b, o', none⟩) ∨ h.next ≤ b := by
      intro b o e
      rcases g3 with ⟨rfl, rfl⟩ | ⟨b', rfl, hb⟩
      · exact .inl ⟨_, e⟩
      · cases e; exact .inr hb
    have n1 : ∀ o, p' ≠ some ⟨kb, o, none⟩ := fun o e => by
      rcases hp' _ _ e with ⟨o', e'⟩ | hb
      · exact h7 _ e'
      · omega
    have put1 : Chg (fun b _ => b = kb) h' (h'.put kb (.row (bagC (.slice bp ps.length bc) (.slice p' (qs.length + 1) c')) zz false)) := Chg.put r1 (by simp [bagC]) fun i hi => absurd rfl hi
    refine key p' c' _ _ (by kernel_rfl) ?_ ((g2.mono fun b o hb i hr => .inr (.inr (hW _ _ hr))).trans (put1.mono fun b o hb i e => .inl e)) ?_
    · have ea : addP qs (p, n, c) = qs ++ [(p, n, c)] := by unfold addP; rw [if_pos hlt]
      rw [ea]
      refine ⟨⟨zz, ?_⟩, ?_, ?_, h4, by rw [List.length_append]; exact hlt, h6, n1, ?_⟩
      · rw [AH.get_put, if_pos rfl, List.length_append]; rfl
      · refine (h2.chg g2 ?_).chg put1 ?_
        · rintro ⟨ab, ao, asp⟩ ha hs i _ _ hr
          cases hs
          obtain ⟨o, e⟩ := hW _ _ hr
          exact h8 _ _ _ ha e
        · rintro ⟨ab, ao, asp⟩ ha hs i _ _ hr
          cases hs
          cases hr
          exact h6 _ ha
      · rw [addP_map, List.length_append]
        refine Gro.chg put1 g1 ?_
        rintro ⟨ab, ao, asp⟩ ha hs i _ _ hr
        cases hs
        cases hr
        exact n1 _ ha
      · intro b o o' e e'
        rcases hp' _ _ e' with ⟨o', e2⟩ | hb
        · exact h8 _ _ _ e e2
        · have := h2.block hw e; omega
    · rintro b (rfl | ⟨o, e⟩ | ⟨o, e⟩)
      · exact .inl (.inl rfl)
      · exact .inl (.inr (.inl ⟨o, e⟩))
      · exact (hp' _ _ e).imp (fun e => .inr (.inr e)) id
  · have hge : ¬ qs.length < 600 := by have := of_decide_eq_false hge; omega
    have ea : addP qs (p, n, c) = qs := by unfold addP; rw [if_neg hge]
    exact key pp pc h _ (by kernel_rfl) (by rw [ea]; exact hg) (Chg.refl _ _) fun b hb => .inl hb
end Go.Proofs.Tryz
