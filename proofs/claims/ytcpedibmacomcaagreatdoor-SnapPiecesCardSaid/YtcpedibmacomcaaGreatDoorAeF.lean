/- A part of the proof of SnapPieces. Conditions: those of the card. -/
import Derived.Test.YtcpedibmacomcaaGreatDoorAeC

/- The evaluator again, laid out for the kernel: static work in closed terms, small bodies; equal to the plain one. -/
namespace Go.AE
noncomputable section
open Go.RowKit

structure Cl (α : Type) where
  run : α

/-! ### numbers -/
noncomputable def forceN {α : Type} (k : Nat → α) (n : Nat) : α := @Nat.rec (fun _ => α) (k 0) (fun m _ => k (Nat.succ m)) n
theorem forceN_eq {α : Type} (k : Nat → α) (n : Nat) : forceN k n = k n := by cases n <;> rfl
noncomputable def forceI {α : Type} (k : Int → α) (n : Int) : α := @Int.casesOn (fun _ => α) n (fun m => forceN (fun m => k (.ofNat m)) m) (fun m => forceN (fun m => k (.negSucc m)) m)
theorem forceI_eq {α : Type} (k : Int → α) (n : Int) : forceI k n = k n := by
  cases n with
  | ofNat m => exact forceN_eq (fun m => k (.ofNat m)) m
  | negSucc m => exact forceN_eq (fun m => k (.negSucc m)) m

def khalf : IntKind → Nat
  | .i8 | .u8 => 128
  | .i16 | .u16 => 32768
  | .i32 | .u32 => 2147483648
  | .i64 | .u64 => 9223372036854775808
def kidx : IntKind → Nat
  | .i8 => 0 | .u8 => 1 | .i16 => 2 | .u16 => 3 | .i32 => 4 | .u32 => 5 | .i64 => 6 | .u64 => 7
theorem kidx_eq {k k' : IntKind} (h : Nat.beq (kidx k) (kidx k') = true) : k = k' := by
  have := Nat.eq_of_beq_eq_true h
  cases k <;> cases k' <;> first | rfl | (simp [kidx] at this)
noncomputable def wrapF (k : IntKind) (n : Int) : Int := @Int.casesOn (fun _ => Int) n (fun m => cond (Nat.ble (Nat.succ m) (khalf k)) (.ofNat m) (k.wrap (.ofNat m))) (fun m => k.wrap (.negSucc m))
theorem wrap_small {k : IntKind} {m : Nat} (h : Nat.ble (Nat.succ m) (khalf k) = true) : k.wrap (.ofNat m) = .ofNat m := by
  have h : m + 1 ≤ khalf k := Nat.le_of_ble_eq_true h
  unfold IntKind.wrap
  cases k <;> simp only [khalf, IntKind.bits, IntKind.signed] at h ⊢ <;> simp <;> omega
theorem wrapF_eq (k : IntKind) (n : Int) : wrapF k n = k.wrap n := by
  cases n with
  | ofNat m =>
    show cond _ _ _ = _
    cases hq : Nat.ble (Nat.succ m) (khalf k) with
    | true => exact (wrap_small hq).symm
    | false => rfl
  | negSucc m => rfl

noncomputable def okInt (k : IntKind) (n : Int) : Option Value := forceI (fun z => some (.int k z)) n
theorem okInt_eq (k : IntKind) (n : Int) : okInt k n = some (.int k n) := forceI_eq _ _
noncomputable def okBool (b : Bool) : Option Value := @Bool.rec (fun _ => Option Value) (some (.bool false)) (some (.bool true)) b
theorem okBool_eq (b : Bool) : okBool b = some (.bool b) := by cases b <;> rfl

noncomputable def remF (k : IntKind) (a b : Int) : Option Value := match a, b with
  | .ofNat a, .ofNat b => cond (Nat.beq b 0) none (okInt k (.ofNat (Nat.mod a b)))
  | _, _ => none
noncomputable def shrF (k : IntKind) (a b : Int) : Option Value := match a, b with
  | .ofNat a, .ofNat b => okInt k (.ofNat (Nat.div a (Nat.pow 2 (Nat.min b k.bits))))
  | _, _ => none
noncomputable def leF (a b : Int) : Option Bool := match a, b with
  | .ofNat a, .ofNat b => some (Nat.ble a b)
  | _, _ => none
noncomputable def eqF (a b : Int) : Option Bool := match a, b with
  | .ofNat a, .ofNat b => some (Nat.beq a b)
  | _, _ => none
noncomputable def viaB (f : Bool → Bool) : Option Bool → Option Value
  | some b => okBool (f b)
  | none => none
/-- A fast answer for two numbers of one kind. -/
noncomputable def intF (op : BinOp) : Cl (IntKind → Int → Int → Option Value) := match op with
  | .add => ⟨fun k a b => okInt k (wrapF k (a + b))⟩
  | .sub => ⟨fun k a b => okInt k (wrapF k (a - b))⟩
  | .mul => ⟨fun k a b => okInt k (wrapF k (a * b))⟩
  | .rem => ⟨remF⟩
  | .leq => ⟨fun _ a b => viaB id (leF a b)⟩
  | .geq => ⟨fun _ a b => viaB id (leF b a)⟩
  | .lss => ⟨fun _ a b => viaB not (leF b a)⟩
  | .gtr => ⟨fun _ a b => viaB not (leF a b)⟩
  | .eql => ⟨fun _ a b => viaB id (eqF a b)⟩
  | .neq => ⟨fun _ a b => viaB not (eqF a b)⟩
  | .shr => ⟨shrF⟩
  | _ => ⟨fun _ _ _ => none⟩

theorem look_pure {α : Type} (P : Program) (a : α) : look P (pure a : Sem α) = some a := rfl
theorem leF_some {a b : Int} {r : Bool} (h : leF a b = some r) : r = decide (a ≤ b) := by
  cases a <;> cases b <;> simp only [leF, Option.some.injEq, reduceCtorEq] at h
  subst h
  rename_i a b
  by_cases hq : a ≤ b
  · rw [Nat.ble_eq_true_of_le hq]
    symm; simpa using hq
  · have : Nat.ble a b = false := by
      cases hb : Nat.ble a b with
      | false => rfl
      | true => exact absurd (Nat.le_of_ble_eq_true hb) hq
    rw [this]
    symm; simpa using hq
theorem eqF_some {a b : Int} {r : Bool} (h : eqF a b = some r) : r = decide (a = b) := by
  cases a <;> cases b <;> simp only [eqF, Option.some.injEq, reduceCtorEq] at h
  subst h
  rename_i a b
  by_cases hq : a = b
  · subst hq; simp [Nat.beq_refl]
  · have : Nat.beq a b = false := by
      cases hb : Nat.beq a b with
      | false => rfl
      | true => exact absurd (Nat.eq_of_beq_eq_true hb) hq
    rw [this]
    symm; simp only [decide_eq_false_iff_not]; exact fun e => hq (Int.ofNat.inj e)
theorem viaB_some {f : Bool → Bool} {o : Option Bool} {v : Value} (h : viaB f o = some v) : ∃ b, o = some b ∧ v = .bool (f b) := by
  cases o with
  | none => cases h
  | some b => rw [viaB, okBool_eq] at h; cases h; exact ⟨b, rfl, rfl⟩

theorem intF_some {P : Program} {op : BinOp} {t : TypeId} {xo yo : Operand} {k : IntKind} {a b : Int} {v : Value} (h : (intF op).run k a b = some v) :
    look P (do eqGuard op t xo yo (.int k a) (.int k b); binOp op t (.int k a) (.int k b)) = some v ∧ ground 8 v = true := by
  cases op <;> simp only [intF, reduceCtorEq] at h
  case add => rw [okInt_eq] at h; cases h; rw [wrapF_eq]; exact ⟨by simp [eqGuard, binOp, Op.intArith, look_pure], rfl⟩
  case sub => rw [okInt_eq] at h; cases h; rw [wrapF_eq]; exact ⟨by simp [eqGuard, binOp, Op.intArith, look_pure], rfl⟩
  case mul => rw [okInt_eq] at h; cases h; rw [wrapF_eq]; exact ⟨by simp [eqGuard, binOp, Op.intArith, look_pure], rfl⟩
  case rem =>
    cases a with
    | negSucc _ => cases h
    | ofNat a => cases b with
      | negSucc _ => cases h
      | ofNat b =>
        simp only [remF] at h
        cases hq : Nat.beq b 0 with
        | true => rw [hq] at h; cases h
        | false =>
          rw [hq] at h
          simp only [cond_false, okInt_eq, Option.some.injEq] at h
          subst h
          have hb : ¬ b = 0 := fun e => by subst e; simp at hq
          have hb' : ¬ (Int.ofNat b) = 0 := fun e => hb (Int.ofNat.inj e)
          refine ⟨?_, rfl⟩
          have e1 : (Int.ofNat a).tmod (Int.ofNat b) = Int.ofNat (Nat.mod a b) := rfl
          have e3 : (a : Int).tmod (b : Int) = ((a.mod b : Nat) : Int) := rfl
          simp [eqGuard, binOp, Op.intDiv, hb, e3, look_pure]
  case leq => obtain ⟨r, h1, rfl⟩ := viaB_some h; rw [leF_some h1]; exact ⟨by simp [eqGuard, binOp, Op.intCmp, look_pure], rfl⟩
  case geq => obtain ⟨r, h1, rfl⟩ := viaB_some h; rw [leF_some h1]; exact ⟨by simp [eqGuard, binOp, Op.intCmp, look_pure], rfl⟩
  case lss =>
    obtain ⟨r, h1, rfl⟩ := viaB_some h; rw [leF_some h1]
    have : (!decide (b ≤ a)) = decide (a < b) := by rw [← decide_not]; congr 1; exact propext Int.not_le
    rw [this]
    exact ⟨by simp [eqGuard, binOp, Op.intCmp, look_pure], rfl⟩
  case gtr =>
    obtain ⟨r, h1, rfl⟩ := viaB_some h; rw [leF_some h1]
    have : (!decide (a ≤ b)) = decide (a > b) := by rw [← decide_not]; congr 1; exact propext Int.not_le
    rw [this]
    exact ⟨by simp [eqGuard, binOp, Op.intCmp, look_pure], rfl⟩
  case eql =>
    obtain ⟨r, h1, rfl⟩ := viaB_some h; rw [eqF_some h1]
    have : (a == b) = decide (a = b) := rfl
    exact ⟨by simp [eqGuard, binOp, Op.intCmp, look_pure, this], rfl⟩
  case neq =>
    obtain ⟨r, h1, rfl⟩ := viaB_some h; rw [eqF_some h1]
    have : (a == b) = decide (a = b) := rfl
    exact ⟨by simp [eqGuard, binOp, Op.intCmp, look_pure, this, bne], rfl⟩
  case shr =>
    cases a with
    | negSucc _ => cases h
    | ofNat a => cases b with
      | negSucc _ => cases h
      | ofNat b =>
        simp only [shrF, okInt_eq, Option.some.injEq] at h
        subst h
        have e1 : (Int.ofNat a).fdiv (2 ^ min (Int.ofNat b).toNat k.bits) = Int.ofNat (Nat.div a (Nat.pow 2 (Nat.min b k.bits))) := by
          have e2 : (2 : Int) ^ min (Int.ofNat b).toNat k.bits = Int.ofNat (2 ^ min b k.bits) := by
            simp
          rw [e2]
          rw [Int.fdiv_eq_ediv_of_nonneg (Int.ofNat a) (b := Int.ofNat (2 ^ min b k.bits)) (Int.natCast_nonneg _)]
          rfl
        have hb : ¬ (Int.ofNat b) < 0 := by simp
        refine ⟨?_, rfl⟩
        simp only [eqGuard, binOp, Op.shift, hb, if_false, e1]
        rfl
end
end Go.AE

/- Rows read, written and grown, for the kernel. -/
namespace Go.AE
noncomputable section
open Go.RowKit

section
variable {α : Type}
noncomputable def lgetq (l : List α) : Nat → Option α := @List.rec α (fun _ => Nat → Option α) (fun _ => none) (fun x _ ih i => @Nat.rec (fun _ => Option α) (some x) (fun j _ => ih j) i) l
noncomputable def ltake (l : List α) : Nat → List α := @List.rec α (fun _ => Nat → List α) (fun _ => []) (fun x _ ih i => @Nat.rec (fun _ => List α) [] (fun j _ => x :: ih j) i) l
noncomputable def ldrop (l : List α) : Nat → List α := @List.rec α (fun _ => Nat → List α) (fun _ => []) (fun x r ih i => @Nat.rec (fun _ => List α) (x :: r) (fun j _ => ih j) i) l
noncomputable def lapp (l m : List α) : List α := @List.rec α (fun _ => List α) m (fun x _ ih => x :: ih) l
noncomputable def llen (l : List α) : Nat := @List.rec α (fun _ => Nat) 0 (fun _ _ ih => Nat.succ ih) l
noncomputable def allB (f : α → Bool) (l : List α) : Bool := @List.rec α (fun _ => Bool) true (fun x _ ih => cond (f x) ih false) l
theorem lgetq_eq (l : List α) (i : Nat) : lgetq l i = l[i]? := by
  induction l generalizing i with
  | nil => rfl
  | cons x r ih => cases i with
    | zero => rfl
    | succ i => show lgetq r i = _; rw [ih]; rfl
theorem ltake_eq (l : List α) (i : Nat) : ltake l i = l.take i := by
  induction l generalizing i with
  | nil => cases i <;> rfl
  | cons x r ih => cases i with
    | zero => rfl
    | succ i => show x :: ltake r i = _; rw [ih]; rfl
theorem ldrop_eq (l : List α) (i : Nat) : ldrop l i = l.drop i := by
  induction l generalizing i with
  | nil => cases i <;> rfl
  | cons x r ih => cases i with
    | zero => rfl
    | succ i => show ldrop r i = _; rw [ih]; rfl
theorem lapp_eq (l m : List α) : lapp l m = l ++ m := by
  induction l with
  | nil => rfl
  | cons x r ih => show x :: lapp r m = _; rw [ih]; rfl
theorem llen_eq (l : List α) : llen l = l.length := by
  induction l with
  | nil => rfl
  | cons x r ih => show Nat.succ (llen r) = _; rw [ih]; rfl
theorem allB_eq (f : α → Bool) (l : List α) : allB f l = l.all f := by
  induction l with
  | nil => rfl
  | cons x r ih =>
    show cond (f x) (allB f r) false = _
    rw [ih, List.all_cons]
    cases f x <;> rfl
end
noncomputable def lsplF (c : List Value) (o : Nat) (l : List Value) : List Value := lapp (ltake c o) (lapp l (ldrop c (Nat.add o (llen l))))
theorem lsplF_eq (c : List Value) (o : Nat) (l : List Value) : lsplF c o l = lsplice c o l := by
  unfold lsplF lsplice
  rw [lapp_eq, lapp_eq, ltake_eq, ldrop_eq, llen_eq, List.append_assoc]
  rfl
theorem cond_ble {α : Type} (a b : Nat) (x y : α) : cond (Nat.ble a b) x y = if a ≤ b then x else y := by
  by_cases h : a ≤ b
  · rw [Nat.ble_eq_true_of_le h, if_pos h]; rfl
  · have : Nat.ble a b = false := by
      cases hb : Nat.ble a b with
      | false => rfl
      | true => exact absurd (Nat.le_of_ble_eq_true hb) h
    rw [this, if_neg h]; rfl

/-! ### loads -/
noncomputable def fLoadA (n : Nat) (c : List Value) (o : Nat) : Option Value := cond (Nat.ble (Nat.add o n) (llen c)) (some (.agg (ltake (ldrop c o) n).toArray)) none
noncomputable def cload (P : Program) (t : TypeId) : Cl (List Value → Nat → Option Value) := match P.underlying t with
  | none => ⟨fun _ _ => none⟩
  | some d => cond (isAggD d) (match P.info? t with | some i => ⟨fLoadA i.size⟩ | none => ⟨fun _ _ => none⟩) ⟨lgetq⟩
noncomputable def fLoad2 (c : Cl (List Value → Nat → Option Value)) (o : Nat) (x : Option AObj) : Option Value := match x with
  | some (.row l _ _) => c.run l o
  | _ => none
noncomputable def aloadF (P : Program) (h : AH) (t : TypeId) (v : Value) : Option Value := match v with
  | .pointer (some ⟨b, o, none⟩) => fLoad2 (cload P t) o (h.get b)
  | v => aload P h t v
theorem cload_eq (P : Program) (t : TypeId) (c : List Value) (o : Nat) : (cload P t).run c o = match P.underlying t with
    | none => none
    | some d => if isAggD d then (match P.info? t with | some i => if o + i.size ≤ c.length then some (.agg ((c.drop o).take i.size).toArray) else none | none => none)
                    else c[o]? := by
  unfold cload
  cases P.underlying t with
  | none => rfl
  | some d =>
    simp only []
    cases isAggD d with
    | false => simp only [cond_false]; exact lgetq_eq c o
    | true =>
      simp only [cond_true, if_true]
      cases P.info? t with
      | none => rfl
      | some i =>
        show fLoadA i.size c o = _
        unfold fLoadA
        rw [cond_ble, llen_eq, ltake_eq, ldrop_eq]
        rfl
theorem aloadF_eq (P : Program) (h : AH) (t : TypeId) (v : Value) : aloadF P h t v = aload P h t v := by
  unfold aloadF
  split
  · rename_i b o
    unfold fLoad2 aload
    simp only [cload_eq]
    rfl
  · rfl

/-! ### stores -/
noncomputable def fStoreL (n : Nat) (o : Nat) (l : List Value) (h : AH) (b : Nat) (c : List Value) (z : Nat) (lo : Bool) : Option AH :=
  cond (Nat.beq (llen l) n) (cond (Nat.ble (Nat.add o n) (llen c)) (cond (allB Value.oneCell' l) (some (h.put b (.row (lsplF c o l) z lo))) none) none) none
noncomputable def fStore (n : Nat) (o : Nat) (x : Value) (h : AH) (b : Nat) (r : Option AObj) : Option AH := match r with
  | some (.row c z lo) => fStoreL n o x.cells.toList h b c z lo
  | _ => none
noncomputable def cstore (P : Program) (t : TypeId) : Cl (Nat → Value → AH → Nat → Option AObj → Option AH) := match P.info? t with
  | some i => ⟨fStore i.size⟩
  | none => ⟨fun _ _ _ _ _ => none⟩
noncomputable def astoreF (P : Program) (h : AH) (t : TypeId) (v x : Value) : Option AH := match v with
  | .pointer (some ⟨b, o, none⟩) => (cstore P t).run o x h b (h.get b)
  | _ => none
theorem astoreF_eq (P : Program) (h : AH) (t : TypeId) (v x : Value) : astoreF P h t v x = astore P h t v x := by
  unfold astoreF astore
  split
  · rename_i b o
    simp only []
    unfold cstore
    cases hg : h.get b with
    | none => cases P.info? t <;> rfl
    | some ob =>
      cases P.info? t with
      | none => cases ob <;> rfl
      | some i =>
        show fStore i.size o x h b (some ob) = _
        cases ob with
        | row c z lo =>
          show fStoreL i.size o x.cells.toList h b c z lo = _
          unfold fStoreL
          rw [beq_cond, cond_ble, allB_eq, lsplF_eq, llen_eq, llen_eq]
          simp only []
          have e : x.cells.toList.length = x.cells.size := by simp
          rw [e]
          by_cases h1 : x.cells.size = i.size
          · by_cases h2 : o + i.size ≤ c.length
            · cases h3 : x.cells.toList.all Value.oneCell' with
              | true =>
                have h3' : oneCells x.cells.toList = true := h3
                simp only [h1, h2, h3', if_true, cond_true, and_self, true_and]
                have h2' : o.add i.size ≤ c.length := h2
                simp [h2', h2]
              | false =>
                have h3' : ¬ oneCells x.cells.toList = true := by unfold oneCells; rw [h3]; simp
                simp [h1, h3']
            · have h2' : ¬ o.add i.size ≤ c.length := h2
              simp [h1, h2, h2']
          · simp [h1]
        | _ => rfl
  · rename_i hn
    split
    · rename_i b o; exact absurd rfl (hn b o)
    · rfl

/-! ### append -/
noncomputable def asrcF (h : AH) (size n : Nat) (x : Value) : Option (List Value) := @Nat.casesOn (fun _ => Option (List Value)) n (some []) fun n => match x with
  | .slice (some ⟨b, o, none⟩) _ _ => (match h.get b with | some (.row c _ _) => cond (Nat.ble (Nat.add o (Nat.mul (n + 1) size)) (llen c)) (some (ltake (ldrop c o) (Nat.mul (n + 1) size))) none | _ => none)
  | x => asrc h size (n + 1) x
theorem asrcF_eq (h : AH) (size n : Nat) (x : Value) : asrcF h size n x = asrc h size n x := by
  cases n with
  | zero => rfl
  | succ n =>
    unfold asrcF
    simp only []
    split
    · rename_i b o _ _
      unfold asrc
      simp only []
      cases h.get b with
      | none => rfl
      | some ob => cases ob with
        | row c z lo =>
          simp only []
          rw [cond_ble, llen_eq, ltake_eq, ldrop_eq]
          rfl
        | _ => rfl
    · rfl
noncomputable def fApp3 (size sLen sCap n : Nat) (news : List Value) (h : AH) (b o : Nat) (c : List Value) (zz : Nat) (lo : Bool) : Option (Value × AH) :=
  cond (Nat.ble (Nat.add o (Nat.mul sCap size)) (llen c)) (cond (Nat.beq zz size)
    (cond (Nat.ble (Nat.add sLen n) sCap) (some (.slice (some ⟨b, o, none⟩) (sLen + n) sCap, h.put b (.row (lsplF c (o + sLen * size) news) zz lo)))
      (some (.slice (some ⟨h.next, 0, none⟩) (sLen + n) (sLen + n), (cond (lo && Nat.beq (Nat.add o (Nat.mul sCap size)) (llen c)) (h.put b .gone) h).new (.row (lapp (ltake (ldrop c o) (Nat.mul sLen size)) news) size true)))) none) none
noncomputable def fApp2 (size sLen sCap n : Nat) (base : Option Addr) (news : List Value) (h : AH) : Option (Value × AH) := match base with
  | none => cond (Nat.beq sLen 0) (cond (Nat.beq sCap 0) (some (.slice (some ⟨h.next, 0, none⟩) n n, h.new (.row news size true))) none) none
  | some ⟨b, o, none⟩ => (match h.get b with
    | some (.row c zz lo) => fApp3 size sLen sCap n news h b o c zz lo
    | _ => none)
  | _ => none
noncomputable def fApp1 (size bytes sLen sCap n : Nat) (base : Option Addr) (x : Value) (h : AH) : Option (Value × AH) :=
  cond (Nat.ble (Nat.mul (Nat.add sLen n) bytes) 140737488355328) (cond (Nat.ble (Nat.add sLen n) 1000000) (cond (Nat.ble sLen sCap)
    (match asrcF h size n x with
     | none => none
     | some news => cond (allB Value.oneCell' news) (cond (Nat.beq n 0) (some (.slice base sLen sCap, h)) (fApp2 size sLen sCap n base news h)) none) none) none) none
noncomputable def fApp (size bytes : Nat) (s x : Value) (h : AH) : Option (Value × AH) := match s, alenOf x with
  | .slice base sLen sCap, some n => fApp1 size bytes sLen sCap n base x h
  | _, _ => none
noncomputable def cappend (P : Program) (t0 t1 : TypeId) : Cl (Value → Value → AH → Option (Value × AH)) := match P.underlying t0, P.underlying t1 with
  | some (.slice e), some d1 => cond (isIntD d1) ⟨fun _ _ _ => none⟩ (match P.info? e with
    | some i => (match i.zero with
      | some z => cond (Nat.ble 1 i.size && Nat.beq z.cells.size i.size) ⟨fApp i.size i.bytes⟩ ⟨fun _ _ _ => none⟩
      | none => ⟨fun _ _ _ => none⟩)
    | none => ⟨fun _ _ _ => none⟩)
  | _, _ => ⟨fun _ _ _ => none⟩
theorem beqN (a b : Nat) : (a == b) = Nat.beq a b := by
  cases h : Nat.beq a b with
  | true => rw [Nat.eq_of_beq_eq_true h]; simp
  | false =>
    have : ¬ a = b := fun e => by subst e; rw [Nat.beq_refl] at h; cases h
    simpa using this
theorem fApp1_eq (size bytes sLen sCap n : Nat) (base : Option Addr) (x : Value) (h : AH) : fApp1 size bytes sLen sCap n base x h =
    if (sLen + n) * bytes ≤ 140737488355328 ∧ sLen + n ≤ 1000000 ∧ sLen ≤ sCap then
          (match asrc h size n x with
          | none => none
          | some news =>
            if oneCells news then
              (if n = 0 then some (.slice base sLen sCap, h) else
              match base with
              | none => if sLen = 0 ∧ sCap = 0 then some (.slice (some ⟨h.next, 0, none⟩) n n, h.new (.row news size true)) else none
              | some ⟨b, o, none⟩ =>
                (match h.get b with
                 | some (.row c zz lo) =>
                   if o + sCap * size ≤ c.length ∧ zz = size then
                     (if sLen + n ≤ sCap then some (.slice (some ⟨b, o, none⟩) (sLen + n) sCap, h.put b (.row (lsplice c (o + sLen * size) news) zz lo))
                      else some (.slice (some ⟨h.next, 0, none⟩) (sLen + n) (sLen + n),
                        (if lo && o + sCap * size == c.length then h.put b .gone else h).new (.row ((c.drop o).take (sLen * size) ++ news) size true)))
                   else none
                 | _ => none)
              | _ => none)
            else none)
        else none := by
  unfold fApp1
  rw [cond_ble, cond_ble, cond_ble]
  by_cases h1 : (sLen + n) * bytes ≤ 140737488355328
  · by_cases h2 : sLen + n ≤ 1000000
    · by_cases h3 : sLen ≤ sCap
      · have h1' : Nat.mul (Nat.add sLen n) bytes ≤ 140737488355328 := h1
        have h2' : Nat.add sLen n ≤ 1000000 := h2
        rw [if_pos h1', if_pos h2', if_pos h3, if_pos (show (sLen + n) * bytes ≤ 140737488355328 ∧ sLen + n ≤ 1000000 ∧ sLen ≤ sCap from ⟨h1, h2, h3⟩), asrcF_eq]
        cases asrc h size n x with
        | none => rfl
        | some news =>
          simp only []
          have e : allB Value.oneCell' news = oneCells news := allB_eq ..
          rw [e]
          cases oneCells news with
          | false => rfl
          | true =>
            simp only [cond_true, if_true]
            rw [beq_cond]
            by_cases h4 : n = 0
            · rw [if_pos h4, if_pos h4]
            · rw [if_neg h4, if_neg h4]
              unfold fApp2
              cases base with
              | none =>
                simp only []
                rw [beq_cond, beq_cond]
                by_cases h5 : sLen = 0 <;> by_cases h6 : sCap = 0 <;> simp [h5, h6]
              | some a =>
                obtain ⟨b, o, sp⟩ := a
                cases sp with
                | some _ => rfl
                | none =>
                  simp only []
                  cases h.get b with
                  | none => rfl
                  | some ob => cases ob with
                    | row c zz lo =>
                      simp only []
                      unfold fApp3
                      rw [cond_ble, beq_cond, cond_ble, lsplF_eq, llen_eq, ltake_eq, ldrop_eq, lapp_eq]
                      by_cases h5 : o + sCap * size ≤ c.length
                      · have h5' : Nat.add o (Nat.mul sCap size) ≤ c.length := h5
                        rw [if_pos h5']
                        by_cases h6 : zz = size
                        · rw [if_pos h6, if_pos (show o + sCap * size ≤ c.length ∧ zz = size from ⟨h5, h6⟩)]
                          subst h6
                          by_cases h7 : sLen + n ≤ sCap
                          · have h7' : Nat.add sLen n ≤ sCap := h7
                            rw [if_pos h7', if_pos h7]
                          · have h7' : ¬ Nat.add sLen n ≤ sCap := h7
                            rw [if_neg h7', if_neg h7]
                            have e2 : (o + sCap * zz == c.length) = Nat.beq (Nat.add o (Nat.mul sCap zz)) c.length := beqN _ _
                            rw [e2]
                            cases (lo && Nat.beq (Nat.add o (Nat.mul sCap zz)) c.length) <;> rfl
                        · rw [if_neg h6, if_neg (show ¬ (o + sCap * size ≤ c.length ∧ zz = size) from fun hh => h6 hh.2)]
                      · have h5' : ¬ Nat.add o (Nat.mul sCap size) ≤ c.length := h5
                        rw [if_neg h5', if_neg (show ¬ (o + sCap * size ≤ c.length ∧ zz = size) from fun hh => h5 hh.1)]
                    | _ => rfl
      · rw [if_neg (show ¬ ((sLen + n) * bytes ≤ 140737488355328 ∧ sLen + n ≤ 1000000 ∧ sLen ≤ sCap) from fun hh => h3 hh.2.2)]
        rw [if_neg h3]
        split <;> first | rfl | (split <;> rfl)
    · rw [if_neg (show ¬ ((sLen + n) * bytes ≤ 140737488355328 ∧ sLen + n ≤ 1000000 ∧ sLen ≤ sCap) from fun hh => h2 hh.2.1)]
      have h2' : ¬ Nat.add sLen n ≤ 1000000 := h2
      rw [if_neg h2']
      split <;> rfl
  · rw [if_neg (show ¬ ((sLen + n) * bytes ≤ 140737488355328 ∧ sLen + n ≤ 1000000 ∧ sLen ≤ sCap) from fun hh => h1 hh.1)]
    exact if_neg h1
theorem cappend_eq (P : Program) (t0 t1 : TypeId) (s x : Value) (h : AH) : (cappend P t0 t1).run s x h = aappend P h t0 t1 s x := by
  unfold cappend aappend
  cases P.underlying t0 with
  | none => rfl
  | some d0 =>
    cases d0 with
    | slice e =>
      cases P.underlying t1 with
      | none => rfl
      | some d1 =>
        simp only []
        cases hi : isIntD d1 with
        | true =>
          simp only [cond_true]
          cases s <;> first
            | rfl
            | (cases alenOf x with
               | none => rfl
               | some n => simp only [hi, if_true])
        | false =>
          simp only [cond_false]
          cases hp : P.info? e with
          | none => cases s <;> first
            | rfl
            | (cases alenOf x with
               | none => rfl
               | some n => simp only [hi, hp, Bool.false_eq_true, if_false])
          | some i =>
            simp only []
            cases hz : i.zero with
            | none => cases s <;> first
              | rfl
              | (cases alenOf x with
                 | none => rfl
                 | some n => simp only [hi, hp, hz, Bool.false_eq_true, if_false])
            | some z =>
              simp only []
              by_cases h1 : 0 < i.size ∧ z.cells.size = i.size
              · have e1 : (Nat.ble 1 i.size && Nat.beq z.cells.size i.size) = true := by
                  rw [Nat.ble_eq_true_of_le h1.1, h1.2, Nat.beq_refl]; rfl
                rw [e1]
                simp only [cond_true]
                show fApp i.size i.bytes s x h = _
                unfold fApp
                cases s <;> first
                  | rfl
                  | (cases alenOf x with
                     | none => rfl
                     | some n => simp only [fApp1_eq, hi, hp, hz, Bool.false_eq_true, if_false, h1.1, h1.2, true_and]; done)
                  | (cases alenOf x with
                     | none => rfl
                     | some n => simp only [fApp1_eq, hi, hp, hz, Bool.false_eq_true, if_false, h1.1, h1.2, true_and]; rfl)
              · have e1 : (Nat.ble 1 i.size && Nat.beq z.cells.size i.size) = false := by
                  cases hq : (Nat.ble 1 i.size && Nat.beq z.cells.size i.size) with
                  | false => rfl
                  | true =>
                    simp only [Bool.and_eq_true] at hq
                    exact absurd ⟨Nat.le_of_ble_eq_true hq.1, Nat.eq_of_beq_eq_true hq.2⟩ h1
                rw [e1]
                simp only [cond_false]
                cases s <;> first
                  | rfl
                  | (cases alenOf x with
                     | none => rfl
                     | some n =>
                       simp only [hi, hp, hz, Bool.false_eq_true, if_false]
                       rw [if_neg (fun hh => h1 ⟨hh.1, hh.2.1⟩)])
    | _ => rfl
end
end Go.AE

/- One operation, as a closure that is made once. -/
namespace Go.AE
noncomputable section
open Go.RowKit

noncomputable def cev (x : Operand) : Cl (List Value → Option Value) := match x with
  | .tmp t => ⟨fun tm => some (lget tm undef t)⟩
  | .const v => cond (ground 8 v) ⟨fun _ => some v⟩ ⟨fun _ => none⟩
  | .global g => ⟨fun _ => some (.pointer (some ⟨g, 0, some 0⟩))⟩
  | .func f => ⟨fun _ => some (.func (.func f) #[] #[])⟩
theorem cev_eq (x : Operand) (tm : List Value) : (cev x).run tm = aeval tm x := by
  cases x with
  | const v => simp only [cev, aeval]; cases ground 8 v <;> rfl
  | _ => rfl

theorem shrF_some {P : Program} {t : TypeId} {xo yo : Operand} {k k' : IntKind} {a b : Int} {v : Value} (h : shrF k a b = some v) :
    look P (do eqGuard .shr t xo yo (.int k a) (.int k' b); binOp .shr t (.int k a) (.int k' b)) = some v ∧ ground 8 v = true := by
  have := (intF_some (P := P) (op := .shr) (t := t) (xo := xo) (yo := yo) (k := k) (a := a) (b := b) h)
  exact ⟨by simpa [eqGuard, binOp, Op.shift] using this.1, this.2⟩

def slowB (P : Program) (op : BinOp) (t : TypeId) (xo yo : Operand) (u v : Value) : Option Value → Option Value
  | some r => some r
  | none => abin P op t xo yo u v
noncomputable def fBin (P : Program) (op : BinOp) (t : TypeId) (xo yo : Operand) (u v : Value) : Option Value := match u, v with
  | .int k a, .int k' b => slowB P op t xo yo (.int k a) (.int k' b) (cond (Nat.beq (kidx k) (kidx k')) ((intF op).run k a b) none)
  | u, v => abin P op t xo yo u v
noncomputable def fShr (P : Program) (t : TypeId) (xo yo : Operand) (u v : Value) : Option Value := match u, v with
  | .int k a, .int k' b => slowB P .shr t xo yo (.int k a) (.int k' b) (shrF k a b)
  | u, v => abin P .shr t xo yo u v
theorem abin_int {P : Program} {op : BinOp} {t : TypeId} {xo yo : Operand} {k k' : IntKind} {a b : Int} {v : Value}
    (h : look P (do eqGuard op t xo yo (.int k a) (.int k' b); binOp op t (.int k a) (.int k' b)) = some v) (hg : ground 8 v = true) : abin P op t xo yo (.int k a) (.int k' b) = some v := by
  unfold abin
  simp only []
  rw [h]
  simp [ground, hg]
theorem fBin_eq (P : Program) (op : BinOp) (t : TypeId) (xo yo : Operand) (u v : Value) : fBin P op t xo yo u v = abin P op t xo yo u v := by
  unfold fBin
  split
  · rename_i k a k' b
    cases hk : Nat.beq (kidx k) (kidx k') with
    | false => rfl
    | true =>
      have := kidx_eq hk
      subst this
      simp only [cond_true]
      cases hi : (intF op).run k a b with
      | none => rfl
      | some r =>
        obtain ⟨h1, h2⟩ := intF_some (P := P) (t := t) (xo := xo) (yo := yo) hi
        exact (abin_int h1 h2).symm
  · rfl
theorem fShr_eq (P : Program) (t : TypeId) (xo yo : Operand) (u v : Value) : fShr P t xo yo u v = abin P .shr t xo yo u v := by
  unfold fShr
  split
  · rename_i k a k' b
    cases hi : shrF k a b with
    | none => rfl
    | some r =>
      obtain ⟨h1, h2⟩ := shrF_some (P := P) (t := t) (xo := xo) (yo := yo) (k' := k') hi
      exact (abin_int h1 h2).symm
  · rfl
noncomputable def cbin (P : Program) (op : BinOp) (t : TypeId) (xo yo : Operand) : Cl (Value → Value → Option Value) := match op with
  | .shr => ⟨fShr P t xo yo⟩
  | op => ⟨fBin P op t xo yo⟩
theorem cbin_eq (P : Program) (op : BinOp) (t : TypeId) (xo yo : Operand) (u v : Value) : (cbin P op t xo yo).run u v = abin P op t xo yo u v := by
  cases op <;> first | exact fShr_eq .. | exact fBin_eq ..

/-- A conversion between whole numbers. -/
def slowC (P : Program) (src dst : TypeId) (u : Value) (h : AH) : Option ARes :=
  match aground P [u] (convert src dst u) with
  | some v => some (.vals [(v, h)])
  | none => one (aconv P h src dst u)
noncomputable def fConvI (P : Program) (src dst : TypeId) (k : IntKind) (u : Value) (h : AH) : Option ARes := match u with
  | .int _ n => same h (okInt k (wrapF k n))
  | u => slowC P src dst u h
noncomputable def cconv (P : Program) (src dst : TypeId) : Cl (Value → AH → Option ARes) := match P.underlying src, P.underlying dst with
  | some _, some (.int k) => ⟨fConvI P src dst k⟩
  | _, _ => ⟨slowC P src dst⟩
theorem look_bind_underlying {α : Type} {P : Program} {t : TypeId} {d : TypeDesc} (hd : P.underlying t = some d) (f : TypeDesc → Sem α) : look P (underlying t >>= f) = look P (f d) := by
  have : (underlying t >>= f) = Sem.program (fun p => (match p.underlying t with | some d => pure d | none => stuck "no such type") >>= f) := rfl
  rw [this]
  show look P ((match P.underlying t with | some d => pure d | none => stuck "no such type") >>= f) = _
  rw [hd]
  rfl
theorem cconv_eq (P : Program) (src dst : TypeId) (u : Value) (h : AH) : (cconv P src dst).run u h = slowC P src dst u h := by
  unfold cconv
  split
  · rename_i ds k hs hd
    show fConvI P src dst k u h = _
    unfold fConvI
    split
    · rename_i k' n
      have : look P (convert src dst (.int k' n)) = some (.int k (k.wrap n)) := by
        unfold convert
        rw [look_bind_underlying hs, look_bind_underlying hd]
        cases ds <;> rfl
      unfold slowC aground
      rw [this]
      rw [okInt_eq, wrapF_eq]
      rfl
    · rfl
  · rfl

/-! ### small bodies -/
noncomputable def k1 (c : Cl (List Value → Option Value)) (g : Value → AH → Option ARes) (tm : List Value) (h : AH) : Option ARes := match c.run tm with
  | some v => g v h
  | none => none
noncomputable def k2 (c d : Cl (List Value → Option Value)) (g : Value → Value → AH → Option ARes) (tm : List Value) (h : AH) : Option ARes := match c.run tm, d.run tm with
  | some u, some v => g u v h
  | _, _ => none
noncomputable def k3 (c d e : Cl (List Value → Option Value)) (g : Value → Value → Value → AH → Option ARes) (tm : List Value) (h : AH) : Option ARes := match c.run tm, d.run tm, e.run tm with
  | some u, some v, some z => g u v z h
  | _, _, _ => none
def gMove (v : Value) (h : AH) : Option ARes := some (.vals [(v, h)])
def gNil (v : Value) (h : AH) : Option ARes := match v with
  | .pointer (some ⟨b, o, none⟩) => some (.vals [(.pointer (some ⟨b, o, none⟩), h)])
  | .func (.func f) u w => some (.vals [(.func (.func f) u w, h)])
  | _ => none
noncomputable def gBin (P : Program) (op : BinOp) (t : TypeId) (xo yo : Operand) (u v : Value) (h : AH) : Option ARes := same h ((cbin P op t xo yo).run u v)
def gUn (P : Program) (op : UnOp) (u : Value) (h : AH) : Option ARes := same h (aground P [u] (Op.unary op u))
noncomputable def gConv (P : Program) (s d : TypeId) (u : Value) (h : AH) : Option ARes := (cconv P s d).run u h
def gFieldAddr (P : Program) (t : TypeId) (f : Nat) (u : Value) (h : AH) : Option ARes := same h (afieldAddr P t u f)
def gIndexAddr (P : Program) (t : TypeId) (u v : Value) (h : AH) : Option ARes := same h (aindexAddr P t u v)
def gField (P : Program) (t : TypeId) (f : Nat) (u : Value) (h : AH) : Option ARes := same h (afield P t u f)
def gExtract (i : Nat) (u : Value) (h : AH) : Option ARes := same h (aextract u i)
def gIndex (P : Program) (t : TypeId) (u v : Value) (h : AH) : Option ARes := same h (aindex P t u v)
noncomputable def gLoad (P : Program) (t : TypeId) (u : Value) (h : AH) : Option ARes := same h (aloadF P h t u)
noncomputable def gStore (P : Program) (t : TypeId) (u v : Value) (h : AH) : Option ARes := skips (astoreF P h t u v)
def gBox (P : Program) (t : TypeId) (u : Value) (h : AH) : Option ARes := one (abox P h t u)
def gLookup (P : Program) (t : TypeId) (ok : Bool) (u v : Value) (h : AH) : Option ARes := same h (alookup P h t u v ok)
def gMapUp (P : Program) (t : TypeId) (u v z : Value) (h : AH) : Option ARes := skips (amapUpdate P h t u v z)
def gRange (P : Program) (t : TypeId) (u : Value) (h : AH) : Option ARes := one (arange P h t u)
def gNext (s : Bool) (u : Value) (h : AH) : Option ARes := match anext h u s with
  | some outs => some (.vals outs)
  | none => none
def gEntry (u : Value) (h : AH) : Option ARes := same h (aentry h u)
noncomputable def cPick (c x y : Cl (List Value → Option Value)) (tm : List Value) (h : AH) : Option ARes := match c.run tm with
  | some (.bool true) => same h (x.run tm)
  | some (.bool false) => same h (y.run tm)
  | _ => none
def cBuild (P : Program) (t : TypeId) (ps : List (Nat × Operand)) (tm : List Value) (h : AH) : Option ARes := match aparts tm ps with
  | some l => same h (abuild P t l)
  | none => none
def cBuildS (P : Program) (t : TypeId) (n : Nat) (ps : List (Nat × Operand)) (tm : List Value) (h : AH) : Option ARes := match aparts tm ps with
  | some l => one (abuildSlice P h t n l)
  | none => none
noncomputable def cIface (P : Program) (t : TypeId) (x : Cl (List Value → Option Value)) : Cl (List Value → AH → Option ARes) := match P.underlying t with
  | some (.interface _) => ⟨fun _ _ => none⟩
  | some _ => ⟨k1 x fun v h => some (.vals [(.iface t v, h)])⟩
  | none => ⟨fun _ _ => none⟩
noncomputable def cFunc (f : FuncId) (xs ys : List Operand) (tm : List Value) (h : AH) : Option ARes := match aevals tm xs, aevals tm ys with
  | some l, some m => some (.vals [(.func (.func f) l.toArray m.toArray, h)])
  | _, _ => none
def gMakeSlice (P : Program) (t : TypeId) (u v : Value) (h : AH) : Option ARes := one (amakeSlice P h t u v)
def cSlice (P : Program) (t : TypeId) (x : Operand) (lo hi mx : Option Operand) (tm : List Value) (h : AH) : Option ARes := match aeval tm x, oval tm lo, oval tm hi, oval tm mx with
  | some u, some a, some b, some c => same h (aslice P h t u a b c)
  | _, _, _, _ => none
/-! calls -/
noncomputable def gAppend (P : Program) (t0 t1 : TypeId) (u v : Value) (h : AH) : Option ARes := one ((cappend P t0 t1).run u v h)
theorem gLoad_eq (P : Program) (t : TypeId) (u : Value) (h : AH) : gLoad P t u h = same h (aload P h t u) := by unfold gLoad; rw [aloadF_eq]
theorem gStore_eq (P : Program) (t : TypeId) (u v : Value) (h : AH) : gStore P t u v h = skips (astore P h t u v) := by unfold gStore; rw [astoreF_eq]
theorem gAppend_eq (P : Program) (t0 t1 : TypeId) (u v : Value) (h : AH) : gAppend P t0 t1 u v h = one (aappend P h t0 t1 u v) := by unfold gAppend; rw [cappend_eq]
def gCopy (P : Program) (t0 : TypeId) (u v : Value) (h : AH) : Option ARes := one (acopy P h t0 u v)
def gLen (P : Program) (t : TypeId) (u : Value) (h : AH) : Option ARes := same h (alen P h t u)
noncomputable def cEnter (g : FuncId) (xs : List Operand) (tm : List Value) (h : AH) : Option ARes := match aevals tm xs with
  | some l => some (.enter g l)
  | none => none
def bodied (P : Program) (g : FuncId) : Bool := match P.funcs[g]? with
  | some fn => fn.body.isSome
  | none => false
noncomputable def ccall (P : Program) (ty : TypeId) (c : Call) : Cl (List Value → AH → Option ARes) := match c.callee with
  | .value (.func g) => cond (bodied P g) ⟨cEnter g c.args.toList⟩ ⟨fun _ _ => none⟩
  | .builtin .append => (match c.argTypes.toList, c.args.toList with
    | [t0, t1], [x, y] => ⟨k2 (cev x) (cev y) (gAppend P t0 t1)⟩
    | _, _ => ⟨fun _ _ => none⟩)
  | .builtin .copy => (match c.argTypes.toList, c.args.toList with
    | [t0, t1], [x, y] => ⟨k2 (cev x) (cev y) (gCopy P t0)⟩
    | _, _ => ⟨fun _ _ => none⟩)
  | .builtin .len => (match c.argTypes.toList, c.args.toList with
    | [t], [x] => ⟨k1 (cev x) (gLen P t)⟩
    | _, _ => ⟨fun _ _ => none⟩)
  | _ => ⟨fun tm h => acall P tm h ty c⟩
theorem k1_eq (x : Operand) (g : Value → AH → Option ARes) (tm : List Value) (h : AH) : k1 (cev x) g tm h = match aeval tm x with | some v => g v h | none => none := by
  unfold k1; rw [cev_eq]
theorem k2_eq (x y : Operand) (g : Value → Value → AH → Option ARes) (tm : List Value) (h : AH) : k2 (cev x) (cev y) g tm h = match aeval tm x, aeval tm y with | some u, some v => g u v h | _, _ => none := by
  unfold k2; rw [cev_eq, cev_eq]
theorem k3_eq (x y z : Operand) (g : Value → Value → Value → AH → Option ARes) (tm : List Value) (h : AH) : k3 (cev x) (cev y) (cev z) g tm h = match aeval tm x, aeval tm y, aeval tm z with | some u, some v, some s => g u v s h | _, _, _ => none := by
  unfold k3; rw [cev_eq, cev_eq, cev_eq]
theorem ccall_eq (P : Program) (ty : TypeId) (c : Call) (tm : List Value) (h : AH) : (ccall P ty c).run tm h = acall P tm h ty c := by
  unfold ccall
  split
  · rename_i g hc
    have e : acall P tm h ty c = match aevals tm c.args.toList with
      | some l => (match P.funcs[g]? with
        | some fn => if fn.body.isSome then some (.enter g l) else none
        | none => none)
      | none => none := by
      unfold acall
      rw [hc]
      simp only [aeval]
      cases aevals tm c.args.toList with
      | none => rfl
      | some l => simp; rfl
    rw [e]
    unfold bodied
    cases hf : P.funcs[g]? with
    | none => cases hl : aevals tm c.args.toList <;> simp
    | some fn =>
      cases hb : fn.body.isSome with
      | true => simp only [cond_true, cEnter, hb]; cases hl : aevals tm c.args.toList <;> simp
      | false => simp only [cond_false, hb]; cases hl : aevals tm c.args.toList <;> simp
  · rename_i hc
    have e : acall P tm h ty c = (match c.argTypes.toList, c.args.toList with
      | [t0, t1], [x, y] => (match aeval tm x, aeval tm y with | some u, some v => one (aappend P h t0 t1 u v) | _, _ => none)
      | _, _ => none) := by unfold acall; rw [hc]; rfl
    rw [e]
    generalize c.argTypes.toList = ts
    generalize c.args.toList = xs
    rcases ts with _ | ⟨a, _ | ⟨b, _ | ⟨d, ts⟩⟩⟩ <;> rcases xs with _ | ⟨x, _ | ⟨y, _ | ⟨z, xs⟩⟩⟩ <;> first | rfl | (show k2 (cev x) (cev y) (gAppend P a b) tm h = (match aeval tm x, aeval tm y with | some u, some v => one (aappend P h a b u v) | _, _ => none); rw [k2_eq]; simp only [gAppend_eq]) | exact k2_eq ..
  · rename_i hc
    have e : acall P tm h ty c = (match c.argTypes.toList, c.args.toList with
      | [t0, t1], [x, y] => (match aeval tm x, aeval tm y with | some u, some v => one (acopy P h t0 u v) | _, _ => none)
      | _, _ => none) := by unfold acall; rw [hc]; rfl
    rw [e]
    generalize c.argTypes.toList = ts
    generalize c.args.toList = xs
    rcases ts with _ | ⟨a, _ | ⟨b, _ | ⟨d, ts⟩⟩⟩ <;> rcases xs with _ | ⟨x, _ | ⟨y, _ | ⟨z, xs⟩⟩⟩ <;> first | rfl | (show k2 (cev x) (cev y) (gAppend P a b) tm h = (match aeval tm x, aeval tm y with | some u, some v => one (aappend P h a b u v) | _, _ => none); rw [k2_eq]; simp only [gAppend_eq]) | exact k2_eq ..
  · rename_i hc
    have e : acall P tm h ty c = (match c.argTypes.toList, c.args.toList with
      | [t], [x] => (match aeval tm x with | some u => same h (alen P h t u) | _ => none)
      | _, _ => none) := by unfold acall; rw [hc]; rfl
    rw [e]
    generalize c.argTypes.toList = ts
    generalize c.args.toList = xs
    rcases ts with _ | ⟨a, _ | ⟨b, ts⟩⟩ <;> rcases xs with _ | ⟨x, _ | ⟨y, xs⟩⟩ <;> first | rfl | (show k1 (cev x) (gLen P a) tm h = (match aeval tm x with | some u => same h (alen P h a u) | _ => none); rw [k1_eq]; cases aeval tm x <;> rfl)
  · rfl

/-! ### the operation -/
noncomputable def cop (P : Program) (o : Oper) : Cl (List Value → AH → Option ARes) := match o.op with
  | .move x => ⟨k1 (cev x) gMove⟩
  | .assign x => ⟨k1 (cev x) gMove⟩
  | .pick c x y => ⟨cPick (cev c) (cev x) (cev y)⟩
  | .nilCheck x => ⟨k1 (cev x) gNil⟩
  | .binOp op t x y _ => ⟨k2 (cev x) (cev y) (gBin P op t x y)⟩
  | .unOp op _ x => ⟨k1 (cev x) (gUn P op)⟩
  | .convert s d x => ⟨k1 (cev x) (gConv P s d)⟩
  | .fieldAddr t x f => ⟨k1 (cev x) (gFieldAddr P t f)⟩
  | .indexAddr t x i => ⟨k2 (cev x) (cev i) (gIndexAddr P t)⟩
  | .field t x f => ⟨k1 (cev x) (gField P t f)⟩
  | .extract x i => ⟨k1 (cev x) (gExtract i)⟩
  | .index t x i => ⟨k2 (cev x) (cev i) (gIndex P t)⟩
  | .build t ps => ⟨cBuild P t ps.toList⟩
  | .buildSlice t n ps => ⟨cBuildS P t n ps.toList⟩
  | .makeInterface t x => cIface P t (cev x)
  | .makeFunc (.func f) xs ys => ⟨cFunc f xs.toList ys.toList⟩
  | .load t x => ⟨k1 (cev x) (gLoad P t)⟩
  | .store t x y => ⟨k2 (cev x) (cev y) (gStore P t)⟩
  | .box t x => ⟨k1 (cev x) (gBox P t)⟩
  | .makeSlice t x y => ⟨k2 (cev x) (cev y) (gMakeSlice P t)⟩
  | .slice t x lo hi mx => ⟨cSlice P t x lo hi mx⟩
  | .lookup t x k ok => ⟨k2 (cev x) (cev k) (gLookup P t ok)⟩
  | .mapUpdate t m k x => ⟨k3 (cev m) (cev k) (cev x) (gMapUp P t)⟩
  | .insert t m k x => ⟨k3 (cev m) (cev k) (cev x) (gMapUp P t)⟩
  | .range t x => ⟨k1 (cev x) (gRange P t)⟩
  | .next it s => ⟨k1 (cev it) (gNext s)⟩
  | .entry it => ⟨k1 (cev it) gEntry⟩
  | .call c => ccall P o.type c
  | _ => ⟨fun tm h => aop P tm h o⟩

theorem via1 (f : Value → Option Value) (o : Option Value) (h : AH) : (match (match o with | some u => f u | none => none) with | some v => some (ARes.vals [(v, h)]) | none => none) = (match o with | some u => same h (f u) | none => none) := by
  cases o with
  | none => rfl
  | some u => simp only []; cases f u <;> rfl
theorem via2 (f : Value → Value → Option Value) (o p : Option Value) (h : AH) : (match (match o, p with | some u, some v => f u v | _, _ => none) with | some v => some (ARes.vals [(v, h)]) | none => none) = (match o, p with | some u, some v => same h (f u v) | _, _ => none) := by
  cases o with
  | none => rfl
  | some u => cases p with
    | none => rfl
    | some v => simp only []; cases f u v <;> rfl

theorem cop_eq (P : Program) (o : Oper) (tm : List Value) (h : AH) : (cop P o).run tm h = aop P tm h o := by
  unfold cop
  split <;> rename_i hop
  case h_29 => rfl
  case h_28 => rw [ccall_eq]; unfold aop apure; rw [hop]
  all_goals (unfold aop apure; rw [hop])
  case h_1 | h_2 => simp only [k1_eq]; rename_i x; cases aeval tm x <;> rfl
  case h_3 =>
    rename_i c x y
    simp only [cPick, cev_eq]
    cases hc : aeval tm c with
    | none => rfl
    | some v =>
      cases v with
      | bool b => cases b with
        | true => simp only []; cases aeval tm x <;> rfl
        | false => simp only []; cases aeval tm y <;> rfl
      | _ => rfl
  case h_4 =>
    rename_i x
    simp only [k1_eq]
    cases hc : aeval tm x with
    | none => rfl
    | some v =>
      cases v with
      | pointer p =>
        cases p with
        | none => rfl
        | some a => obtain ⟨b, o, s⟩ := a; cases s <;> rfl
      | func f u w => cases f <;> rfl
      | _ => rfl
  case h_5 =>
    rename_i op t x y u
    refine (k2_eq ..).trans (Eq.trans ?_ (via2 (fun u v => abin P op t x y u v) _ _ h).symm)
    cases aeval tm x <;> cases aeval tm y <;> first | rfl | (show same h _ = same h _; rw [cbin_eq])
  case h_6 => exact (k1_eq ..).trans (via1 (fun u => aground P [u] (Op.unary _ u)) _ h).symm
  case h_7 =>
    rename_i s d x
    simp only [k1_eq]
    cases hc : aeval tm x with
    | none => rfl
    | some v =>
      show (cconv P s d).run v h = _
      rw [cconv_eq]
      rfl
  case h_8 => exact (k1_eq ..).trans (via1 (fun u => afieldAddr P _ u _) _ h).symm
  case h_9 => exact (k2_eq ..).trans (via2 (fun u v => aindexAddr P _ u v) _ _ h).symm
  case h_10 => exact (k1_eq ..).trans (via1 (fun u => afield P _ u _) _ h).symm
  case h_11 => exact (k1_eq ..).trans (via1 (fun u => aextract u _) _ h).symm
  case h_12 => exact (k2_eq ..).trans (via2 (fun u v => aindex P _ u v) _ _ h).symm
  case h_13 => rename_i t ps; simp only [cBuild]; cases aparts tm ps.toList with
    | none => rfl
    | some l => simp only []; cases abuild P t l <;> rfl
  case h_14 => rfl
  case h_15 =>
    rename_i t x
    show _ = (match (match P.underlying t, aeval tm x with
      | some (.interface _), _ => none
      | some _, some v => some (.iface t v)
      | _, _ => none) with
      | some v => some (ARes.vals [(v, h)])
      | none => none)
    unfold cIface
    cases P.underlying t with
    | none => cases aeval tm x <;> rfl
    | some d =>
      cases d with
      | interface ms => rfl
      | _ => simp only [k1_eq]; cases aeval tm x <;> rfl
  case h_16 => rename_i f xs ys; simp only [cFunc]; cases aevals tm xs.toList <;> cases aevals tm ys.toList <;> rfl
  case h_17 => refine (k1_eq ..).trans ?_; simp only [gLoad_eq]; rfl
  case h_18 => refine (k2_eq ..).trans ?_; simp only [gStore_eq]; rfl
  case h_19 => exact k1_eq ..
  case h_20 => exact k2_eq ..
  case h_21 => rfl
  case h_22 => exact k2_eq ..
  case h_23 => exact k3_eq ..
  case h_24 => exact k3_eq ..
  case h_25 => exact k1_eq ..
  case h_26 => exact k1_eq ..
  case h_27 => exact k1_eq ..
end
end Go.AE

/- Regions, code and calls as closures that are made once. -/
namespace Go.AE
noncomputable section
open Go.RowKit

abbrev StepF := Ev → List Value → AH → Option (List (Value × AH))
abbrev StepR := Ev → List Value → AH → Option (List (List Value × AH))

/-! ### operations in a region -/
noncomputable def fRes (E : Ev) (h : AH) (r : Option ARes) : Option (List (Value × AH)) := match r with
  | some (.vals outs) => some outs
  | some (.skip h') => some [(undef, h')]
  | some (.enter f args) => E.call f args h
  | some (.round l T as bd) => E.round l T as bd h
  | none => none
noncomputable def fStep (c : Cl (List Value → AH → Option ARes)) (E : Ev) (tm : List Value) (h : AH) : Option (List (Value × AH)) := fRes E h (c.run tm h)
noncomputable def cstep (P : Program) (ops : Array Oper) (o : Oper) : Cl StepF := match o.guard with
  | none => ⟨fStep (cop P o)⟩
  | some _ => ⟨fun E tm h => astep P E ops tm h o⟩
theorem cstep_eq (P : Program) (ops : Array Oper) (o : Oper) (E : Ev) (tm : List Value) (h : AH) : (cstep P ops o).run E tm h = astep P E ops tm h o := by
  unfold cstep
  split
  · rename_i hg
    show fRes E h ((cop P o).run tm h) = _
    rw [cop_eq]
    unfold astep Region.wanted
    rw [hg]
    simp only [if_true]
    rfl
  · rfl

def fVal (r : Option ARes) : Option Value := match r with
  | some (.vals [(v, _)]) => some v
  | _ => none
noncomputable def fRead (c : Cl (List Value → AH → Option ARes)) (tm : List Value) (h : AH) : Option Value := fVal (c.run tm h)
noncomputable def creader (P : Program) (o : Oper) : Cl (List Value → AH → Option Value) := match o.op with
  | .move _ | .assign _ | .binOp .. | .unOp .. | .nilCheck _ | .fieldAddr .. | .indexAddr .. | .field .. | .extract .. | .index .. | .load .. | .slice .. | .lookup .. => ⟨fRead (cop P o)⟩
  | _ => ⟨fun tm h => areader P tm h o⟩
theorem fVal_same (h : AH) (o : Option Value) : fVal (same h o) = o := by cases o <;> rfl
theorem fVal_apure (P : Program) (o : Oper) (tm : List Value) (h : AH) (r s : Option ARes) (v : Option Value) (hr : fVal r = v) :
    fVal (match apure P tm o with | some v => some (.vals [(v, h)]) | none => r) = match apure P tm o with | some v => some v | none => v := by
  cases apure P tm o with
  | none => exact hr
  | some v => rfl
theorem creader_eq (P : Program) (o : Oper) (tm : List Value) (h : AH) : (creader P o).run tm h = areader P tm h o := by
  unfold creader
  split <;> rename_i hop
  case h_14 => rfl
  all_goals
    show fVal ((cop P o).run tm h) = _
    rw [cop_eq]
    unfold aop areader
    refine (fVal_apure P o tm h _ none _ rfl).trans ?_
    cases apure P tm o with
    | some v => rfl
    | none =>
      simp only []
      rw [hop]
      first
        | rfl
        | (simp only []; cases aeval tm _ <;> first | rfl | exact fVal_same ..)
        | (simp only []; rename_i t x lo hi mx; cases aeval tm x <;> cases oval tm lo <;> cases oval tm hi <;> cases oval tm mx <;> first | rfl | exact fVal_same ..)
        | (simp only []; rename_i t x k ok; cases aeval tm x <;> cases aeval tm k <;> first | rfl | exact fVal_same ..)
noncomputable def cread (P : Program) (ops : Array Oper) (o : Oper) : Cl (List Value → AH → Option Value) := match o.guard with
  | none => creader P o
  | some _ => ⟨fun tm h => aread P ops tm h o⟩
theorem cread_eq (P : Program) (ops : Array Oper) (o : Oper) (tm : List Value) (h : AH) : (cread P ops o).run tm h = aread P ops tm h o := by
  unfold cread
  split
  · rename_i hg
    rw [creader_eq]
    unfold aread Region.wanted
    rw [hg]
    simp only [if_true]
  · rfl

/-! ### a region in its text's order -/
noncomputable def csteps (P : Program) (ops : Array Oper) (l : List Nat) : List (Option Tmp × Cl StepF) :=
  @List.rec Nat (fun _ => List (Option Tmp × Cl StepF)) [] (fun i _ ih => match ops[i]? with
    | some o => (o.dst, cstep P ops o) :: ih
    | none => ih) l
noncomputable def runS (l : List (Option Tmp × Cl StepF)) : StepR :=
  @List.rec (Option Tmp × Cl StepF) (fun _ => StepR) (fun _ tm h => some [(tm, h)]) (fun p _ ih E tm h => match p.2.run E tm h with
    | some outs => bindL (fun x => @Prod.rec Value AH (fun _ => Option (List (List Value × AH))) (fun v h' => ih E (aput tm p.1 v) h') x) outs
    | none => none) l
theorem bindL_congr {α γ : Type} {f g : α → Option (List γ)} (h : ∀ x, f x = g x) (l : List α) : bindL f l = bindL g l := by
  have : f = g := funext h
  rw [this]
theorem runS_eq (P : Program) (ops : Array Oper) (E : Ev) : ∀ (l : List Nat) (tm : List Value) (h : AH), runS (csteps P ops l) E tm h = aseq P E ops l tm h := by
  intro l
  induction l with
  | nil => intro tm h; rfl
  | cons i r ih =>
    intro tm h
    rw [aseq_cons]
    have e : csteps P ops (i :: r) = match ops[i]? with
      | some o => (o.dst, cstep P ops o) :: csteps P ops r
      | none => csteps P ops r := rfl
    rw [e]
    cases ops[i]? with
    | none => exact ih tm h
    | some o =>
      show (match (cstep P ops o).run E tm h with
        | some outs => bindL (fun (x : Value × AH) => @Prod.rec Value AH (fun _ => Option (List (List Value × AH))) (fun v h' => runS (csteps P ops r) E (aput tm o.dst v) h') x) outs
        | none => none) = _
      rw [cstep_eq]
      simp only []
      cases astep P E ops tm h o with
      | none => rfl
      | some outs => exact bindL_congr (fun x => ih _ _) outs

/-! ### a region by its plan -/
inductive FS where
  | take (d : Option Tmp) (c : Cl (List Value → AH → Option Value))
  | eff (d : Option Tmp) (c : Cl StepF) (keep : List Nat)
  | bad
noncomputable def cstp (P : Program) (ops : Array Oper) : Stp → FS
  | .take i => match ops[i]? with
    | some o => .take o.dst (cread P ops o)
    | none => .bad
  | .eff i keep => match ops[i]? with
    | some o => .eff o.dst (cstep P ops o) keep
    | none => .bad
noncomputable def cstps (P : Program) (ops : Array Oper) (l : List Stp) : List FS := @List.rec Stp (fun _ => List FS) [] (fun s _ ih => cstp P ops s :: ih) l
noncomputable def recheckF (P : Program) (ops : Array Oper) (tm : List Value) (h : AH) (e : Nat) : Bool := match ops[e]? with
  | some o => (match (cread P ops o).run tm h with
    | some v => (match o.dst with | none => true | some d => veq 8 v (lget tm undef d))
    | none => false)
  | none => false
theorem recheckF_eq (P : Program) (ops : Array Oper) (tm : List Value) (h : AH) (e : Nat) : recheckF P ops tm h e = recheck P ops tm h e := by
  unfold recheckF recheck
  cases ops[e]? with
  | none => rfl
  | some o =>
    simp only [cread_eq, lget_eq]
    rfl
noncomputable def fEff (P : Program) (ops : Array Oper) (d : Option Tmp) (c : Cl StepF) (keep : List Nat) (ih : StepR) (E : Ev) (tm : List Value) (h : AH) : Option (List (List Value × AH)) := match c.run E tm h with
  | some outs => bindL (fun x => @Prod.rec Value AH (fun _ => Option (List (List Value × AH))) (fun v h' => cond (allB (recheckF P ops (aput tm d v) h') keep) (ih E (aput tm d v) h') none) x) outs
  | none => none
noncomputable def fTake (d : Option Tmp) (c : Cl (List Value → AH → Option Value)) (ih : StepR) (E : Ev) (tm : List Value) (h : AH) : Option (List (List Value × AH)) := match c.run tm h with
  | some v => ih E (aput tm d v) h
  | none => none
noncomputable def runF (P : Program) (ops : Array Oper) (l : List FS) : StepR :=
  @List.rec FS (fun _ => StepR) (fun _ tm h => some [(tm, h)]) (fun s _ ih => @FS.casesOn (fun _ => StepR) s (fun d c => fTake d c ih) (fun d c keep => fEff P ops d c keep ih) (fun _ _ _ => none)) l
theorem runF_eq (P : Program) (ops : Array Oper) (E : Ev) : ∀ (l : List Stp) (tm : List Value) (h : AH), runF P ops (cstps P ops l) E tm h = arun P E ops l tm h := by
  intro l
  induction l with
  | nil => intro tm h; rfl
  | cons s r ih =>
    intro tm h
    cases s with
    | take i =>
      rw [arun_take]
      have e : cstps P ops (.take i :: r) = (match ops[i]? with
        | some o => .take o.dst (cread P ops o)
        | none => .bad) :: cstps P ops r := rfl
      rw [e]
      cases ops[i]? with
      | none => rfl
      | some o =>
        show fTake o.dst (cread P ops o) (runF P ops (cstps P ops r)) E tm h = _
        unfold fTake
        rw [cread_eq]
        simp only []
        cases aread P ops tm h o with
        | none => rfl
        | some v => exact ih _ _
    | eff i keep =>
      rw [arun_eff]
      have e : cstps P ops (.eff i keep :: r) = (match ops[i]? with
        | some o => .eff o.dst (cstep P ops o) keep
        | none => .bad) :: cstps P ops r := rfl
      rw [e]
      cases ops[i]? with
      | none => rfl
      | some o =>
        show fEff P ops o.dst (cstep P ops o) keep (runF P ops (cstps P ops r)) E tm h = _
        unfold fEff
        rw [cstep_eq]
        simp only []
        cases astep P E ops tm h o with
        | none => rfl
        | some outs =>
          refine bindL_congr (fun x => ?_) outs
          obtain ⟨xv, xh⟩ := x
          simp only []
          have e2 : recheckF P ops (aput tm o.dst xv) xh = recheck P ops (aput tm o.dst xv) xh := funext fun e => recheckF_eq ..
          rw [allB_eq, e2, ih]
          cases keep.all (recheck P ops (aput tm o.dst xv) xh) <;> rfl

noncomputable def creg (P : Program) (ops : Array Oper) : Cl StepR := match aplanM P ops with
  | some p => ⟨runF P ops (cstps P ops p)⟩
  | none => ⟨fun E tm h => aany P E ops tm h⟩
theorem creg_eq (P : Program) (ops : Array Oper) (E : Ev) (tm : List Value) (h : AH) : (creg P ops).run E tm h = aanyM P E ops tm h := by
  unfold creg aanyM
  cases aplanM P ops with
  | none => rfl
  | some p => exact runF_eq P ops E p tm h

/-! ### code -/
abbrev CodeF := Ev → Option Nat → List Value → List Nat → AH → Option (List CO)
def fOuts (ds : List Nat) (outs : List (List Value × AH)) : List CO := match outs with
  | [(t, h)] => [(.normal, t, ds, h)]
  | outs => outs.map fun x => (.normal, x.1, ds, x.2)
theorem fOuts_eq (ds : List Nat) (outs : List (List Value × AH)) : fOuts ds outs = outs.map fun x => (.normal, x.1, ds, x.2) := by
  unfold fOuts; split <;> rfl
noncomputable def fReg (c : StepR) (E : Ev) (_ : Option Nat) (tm : List Value) (ds : List Nat) (h : AH) : Option (List CO) := match c E tm h with
  | some outs => some (fOuts ds outs)
  | none => none
noncomputable def fNext (E : Ev) (rd : Option Nat) (y : Code) (o : CO) : Option (List CO) := match o with
  | (.normal, tm, ds, h) => E.code rd y tm ds h
  | o => some [o]
noncomputable def fSeq (x y : Code) : CodeF := fun E rd tm ds h => match E.code rd x tm ds h with
  | some outs => bindL (fNext E rd y) outs
  | none => none
noncomputable def fCond (c : Cl (List Value → Option Value)) (x y : Code) : CodeF := fun E rd tm ds h => match c.run tm with
  | some (.bool true) => E.code rd x tm ds h
  | some (.bool false) => E.code rd y tm ds h
  | _ => none
def fBlkO (id : Nat) (outs : List CO) : List CO := match outs with
  | [x] => [inBlk id x]
  | outs => outs.map (inBlk id)
noncomputable def fBlk (id : Nat) (x : Code) : CodeF := fun E rd tm ds h => match E.code rd x tm ds h with
  | some outs => some (fBlkO id outs)
  | none => none
noncomputable def ccode (P : Program) (c : Code) : Cl CodeF := match c with
  | .region _ ops true => cond (P.follows .mixedOrders) ⟨fReg (creg P ops).run⟩ ⟨fun _ _ _ _ _ => none⟩
  | .region _ ops false => ⟨fReg (runS (csteps P ops (List.range ops.size)))⟩
  | .seq x y => ⟨fSeq x y⟩
  | .cond c x y => ⟨fCond (cev c) x y⟩
  | .block id x => ⟨fBlk id x⟩
  | .loop x => ⟨fSeq x (.loop x)⟩
  | c => ⟨fun E rd tm ds h => acodeS P E rd c tm ds h⟩
theorem fNext_eq (E : Ev) (rd : Option Nat) (y : Code) (o : CO) : fNext E rd y o = match o.1 with | .normal => E.code rd y o.2.1 o.2.2.1 o.2.2.2 | _ => some [o] := by
  obtain ⟨e, t, d, h⟩ := o
  cases e <;> rfl
theorem ccode_eq (P : Program) (c : Code) (E : Ev) (rd : Option Nat) (tm : List Value) (ds : List Nat) (h : AH) : (ccode P c).run E rd tm ds h = acodeS P E rd c tm ds h := by
  cases c with
  | region i ops d =>
    cases d with
    | true =>
      unfold ccode acodeS
      simp only []
      cases P.follows .mixedOrders with
      | false => rfl
      | true =>
        show fReg (creg P ops).run E rd tm ds h = _
        unfold fReg
        rw [creg_eq]
        simp only [if_true]
        cases aanyM P E ops tm h with
        | none => rfl
        | some outs => simp only [fOuts_eq]
    | false =>
      unfold ccode acodeS
      simp only []
      show fReg (runS (csteps P ops (List.range ops.size))) E rd tm ds h = _
      unfold fReg
      rw [runS_eq]
      cases aseq P E ops (List.range ops.size) tm h with
      | none => rfl
      | some outs => simp only [fOuts_eq]
  | seq x y =>
    show fSeq x y E rd tm ds h = _
    unfold fSeq acodeS
    simp only []
    cases E.code rd x tm ds h with
    | none => rfl
    | some outs => exact bindL_congr (fNext_eq E rd y) outs
  | loop x =>
    show fSeq x (.loop x) E rd tm ds h = _
    unfold fSeq acodeS
    simp only []
    cases E.code rd x tm ds h with
    | none => rfl
    | some outs => exact bindL_congr (fNext_eq E rd (.loop x)) outs
  | cond c x y =>
    show fCond (cev c) x y E rd tm ds h = _
    unfold fCond acodeS
    rw [cev_eq]
    simp only []
    cases aeval tm c with
    | none => rfl
    | some v => cases v with
      | bool b => cases b <;> rfl
      | _ => rfl
  | block id x =>
    show fBlk id x E rd tm ds h = _
    unfold fBlk acodeS
    simp only []
    cases E.code rd x tm ds h with
    | none => rfl
    | some outs =>
      simp only []
      congr 1
      unfold fBlkO
      split <;> rfl
  | _ => rfl

/-! ### calls -/
noncomputable def lrep (n : Nat) : List Value := @Nat.rec (fun _ => List Value) [] (fun _ ih => undef :: ih) n
theorem lrep_eq (n : Nat) : lrep n = List.replicate n undef := by
  induction n with
  | zero => rfl
  | succ n ih => show undef :: lrep n = _; rw [ih]; rfl
noncomputable def fCall (P : Program) (fn : Func) (n : Nat) (c : Code) (E : Ev) (args : List Value) (h : AH) : Option (List (Value × AH)) := match E.code none c (lapp args (lrep (Nat.sub n (llen args)))) [] h with
  | some outs => (match bindL (aleave P fn) outs with
    | some os => some (merged h.next os)
    | none => none)
  | none => none
noncomputable def cfun (P : Program) (f : FuncId) : Cl (Ev → List Value → AH → Option (List (Value × AH))) := match P.funcs[f]? with
  | some fn => (match fn.body with
    | some c => ⟨fCall P fn fn.ntmps c⟩
    | none => ⟨fun _ _ _ => none⟩)
  | none => ⟨fun _ _ _ => none⟩
theorem cfun_eq (P : Program) (f : FuncId) (E : Ev) (args : List Value) (h : AH) : (cfun P f).run E args h = acallS P E f args h := by
  unfold cfun acallS
  cases P.funcs[f]? with
  | none => rfl
  | some fn =>
    simp only []
    cases fn.body with
    | none => rfl
    | some c =>
      show fCall P fn fn.ntmps c E args h = _
      unfold fCall
      rw [lapp_eq, lrep_eq, llen_eq]
      rfl

noncomputable def evFS (P : Program) (E : Ev) : Ev := ⟨fun rd c tm ds h => (ccode P c).run E rd tm ds h, fun f args h => (cfun P f).run E args h, aroundS E⟩
noncomputable def evF (P : Program) (k : Nat) : Ev := @Nat.rec (fun _ => Ev) evNil (fun _ E => evFS P E) k
theorem evFS_eq (P : Program) (E : Ev) : evFS P E = evS P E := by
  unfold evFS evS
  congr 1
  · funext rd c tm ds h; exact ccode_eq ..
  · funext f args h; exact cfun_eq ..
theorem evF_eq (P : Program) (k : Nat) : evF P k = ev P k := by
  induction k with
  | zero => rfl
  | succ k ih =>
    show evFS P (evF P k) = evS P (ev P k)
    rw [ih, evFS_eq]
end
end Go.AE
