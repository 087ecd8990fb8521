/- A part of the proof of SnapPieces. Conditions: those of the card. -/
import Derived.Test.YtcpedibmacomcaaGreatDoorAeC

/- Readers that know elder memory. -/
namespace Go.AE
noncomputable section
open Go.RowKit

section
variable {P : Program} {w0 w : World} {β : Inj} {h : AH} {tm : List Value} {a : Act}

def eload (P : Program) (h : AH) (t : TypeId) (v : Value) : Option Value :=
  match v with
  | .pointer (some ⟨g, o, some 0⟩) =>
    (match assoc h.gl g, P.underlying t, P.info? t with
     | some c, some d, some i => if isAggD d = true ∧ o + i.size ≤ c.length ∧ ((c.drop o).take i.size).all known = true then some (.agg ((c.drop o).take i.size).toArray) else none
     | _, _, _ => none)
  | _ => none
theorem eload_sound {t : TypeId} {x x' v : Value} (hw : WR w0 β h w) (hx : VR β x x') (hv : eload P h t x = some v) : ∃ v', (Instr.loadAt t x').run P w = .ok v' w ∧ VR β v v' := by
  unfold eload at hv
  split at hv
  · rename_i g o
    split at hv
    · rename_i c d i hg hd hi
      split at hv
      · rename_i hc
        obtain ⟨ha, hle, hkn⟩ := hc
        cases hv
        cases hx with
        | glob g o =>
          obtain ⟨C, e, fr, k2, k3, k5⟩ := hw.glob g c hg
          have hlt := (Array.getElem?_eq_some_iff.1 k2).1
          have k4 : w.heap[g]? = some (.cells C e fr) := by rw [hw.below.block g hlt]; exact k2
          have hb2 : o + i.size ≤ C.size := by omega
          refine ⟨.agg (C.extract o (o + i.size)), ?_, ?_⟩
          · simp [Instr.loadAt, Instr.sureAddr, Result.andThen, loadVar, run_isAgg hd, ha, run_sizeOf hi, run_loadCells k4 _ _ hb2]
          · refine .agg _ _ (by simp; omega) fun k hk => ?_
            have hk' : k < i.size := by simp at hk; omega
            rw [getD_takeDrop _ _ _ _ hk', getD_extract _ _ _ _ hk' hb2]
            refine k5 _ (by omega) ?_ β
            rw [← getD_takeDrop c o i.size k hk', toArray_getD]
            have hlt : k < ((c.drop o).take i.size).length := by simp; omega
            rw [List.getD_eq_getElem?_getD, List.getElem?_eq_getElem hlt]
            exact List.all_eq_true.1 hkn _ (List.getElem_mem hlt)
      · cases hv
    · cases hv
  · cases hv

def efieldAddr (P : Program) (t : TypeId) (v : Value) (f : Nat) : Option Value :=
  match P.underlying t, v with
  | some (.struct fields), .pointer (some ⟨b, o, some 0⟩) =>
    (match fields[f]? with
     | some fd => (match P.info? fd.type with | some i => if i.size = 0 then none else some (.pointer (some ⟨b, o + fd.offset, some 0⟩)) | none => none)
     | none => none)
  | _, _ => none
theorem efieldAddr_sound {t : TypeId} {x x' v : Value} {f : Nat} (h : VR β x x') (hv : efieldAddr P t x f = some v) :
    ∃ v', (∀ w : World, (Instr.fieldAt t x' f).run P w = .ok v' w) ∧ VR β v v' := by
  unfold efieldAddr at hv
  split at hv
  · rename_i fields b o hd
    split at hv
    · rename_i fd hf
      split at hv
      · rename_i i hi
        split at hv
        · cases hv
        · rename_i hs
          cases hv
          cases h with
          | glob g o =>
            exact ⟨.pointer (some ⟨b, o + fd.offset, none⟩), fun w => by simp [Instr.fieldAt, run_underlying hd, Result.andThen, hf, Instr.sureAddr, fieldPlace, run_sizeOf hi, hs, add_none], .glob _ _⟩
      · cases hv
    · cases hv
  · cases hv

def eindexAddr (P : Program) (t : TypeId) (x i : Value) : Option Value :=
  match P.underlying t, x, i with
  | some (.slice e), .slice (some ⟨b, o, some 0⟩) len _, .int _ n =>
    if 0 ≤ n ∧ n < len then (match P.info? e with | some j => some (.pointer (some ⟨b, o + n.toNat * j.size, some 0⟩)) | none => none) else none
  | _, _, _ => none
theorem eindexAddr_sound {t : TypeId} {x x' i i' v : Value} (h : VR β x x') (hi : VR β i i') (hv : eindexAddr P t x i = some v) :
    ∃ v', (∀ w : World, (Instr.indexAt t x' i').run P w = .ok v' w) ∧ VR β v v' := by
  unfold eindexAddr at hv
  split at hv
  · rename_i e b o len c k n hd
    split at hv
    · rename_i hn
      split at hv
      · rename_i j hj
        cases hv
        cases hi
        cases h with
        | osl g o l c =>
          exact ⟨.pointer (some ⟨b, o + n.toNat * j.size, none⟩), fun w => by simp [Instr.indexAt, asIntOf, run_underlying hd, Result.andThen, hn, run_sizeOf hj, add_none], .glob _ _⟩
        | slz a a' => exact absurd hn.2 (by have := hn.1; omega)
      · cases hv
    · cases hv
  · cases hv

def eslice (P : Program) (t : TypeId) (x : Value) (lo hi mx : Option Value) : Option Value :=
  if optInt lo && optInt hi && optInt mx then
    match P.underlying t, x with
    | some (.slice e), .slice (some ⟨b, o, some 0⟩) len cap =>
      if len ≤ cap then
      (match abounds len cap lo hi mx, P.info? e with
       | some (l, hh, m), some j =>
         (if m = l then some (.slice (some ⟨b, o, some 0⟩) (hh - l) 0) else some (.slice (some ⟨b, o + l * j.size, some 0⟩) (hh - l) (m - l)))
       | _, _ => none)
      else none
    | _, _ => none
  else none
theorem eslice_sound {t : TypeId} {x x' v : Value} {lo lo' hi hi' mx mx' : Option Value} (hx : VR β x x') (hlo : OVR β lo lo') (hhi : OVR β hi hi') (hmx : OVR β mx mx')
    (hv : eslice P t x lo hi mx = some v) : ∃ v', (Instr.sliceAt t x' lo' hi' mx').run P w = .ok v' w ∧ VR β v v' := by
  unfold eslice at hv
  split at hv
  · rename_i hints
    simp only [Bool.and_eq_true] at hints
    obtain rfl := ovr_int hlo hints.1.1
    obtain rfl := ovr_int hhi hints.1.2
    obtain rfl := ovr_int hmx hints.2
    split at hv
    · rename_i e b o len cap hd
      split at hv
      · rename_i hlc
        split at hv
        · rename_i l hh m j hb hj
          have key : ∀ q : Addr, VR β (.slice (some ⟨b, o, some 0⟩) len cap) (.slice (some q) len cap) → (∀ k, VR β (.pointer (some ⟨b, o + k, some 0⟩)) (.pointer (some (q.add k)))) →
              (∀ k l c, VR β (.slice (some ⟨b, o + k, some 0⟩) l c) (.slice (some (q.add k)) l c)) → VR β (.slice (some ⟨b, o, some 0⟩) (hh - l) 0) (.slice (some q) (hh - l) 0) →
              ∃ v', (Instr.sliceAt t (.slice (some q) len cap) lo hi mx).run P w = .ok v' w ∧ VR β v v' := by
            intro q _ _ h3 h4
            obtain ⟨r1, r2, r3, r4, r5⟩ := abounds_run (P := P) (w := w) (isS := true) (s := 0) hb (fun _ => hlc)
            have hm : (if mx = none then cap + 0 else m) = m := by
              split
              · rename_i h0; have := r3 h0; omega
              · rfl
            rw [hm] at r1
            by_cases hml : m = l
            · rw [if_pos hml] at hv
              cases hv
              subst hml
              refine ⟨_, ?_, h4⟩
              simp [Instr.sliceAt, Instr.slice, run_underlying hd, Result.andThen, run_sizeOf hj] at r1 ⊢; simp [r1]
            · rw [if_neg hml] at hv
              cases hv
              refine ⟨_, ?_, h3 _ _ _⟩
              simp [Instr.sliceAt, Instr.slice, run_underlying hd, Result.andThen, run_sizeOf hj] at r1 ⊢; simp [r1, hml]
          cases hx with
          | osl g o l c =>
            refine key ⟨b, o, none⟩ (.osl _ _ _ _) (fun k => ?_) (fun k l c => ?_) (.osl _ _ _ _)
            · rw [add_none]; exact .glob _ _
            · rw [add_none]; exact .osl _ _ _ _
          | slz a a' =>
            obtain ⟨r1, r2, r3, r4, r5⟩ := abounds_run (P := P) (w := w) (isS := true) (s := 0) hb (fun _ => hlc)
            have e1 : m = 0 := by omega
            have e2 : hh = 0 := by omega
            have e3 : l = 0 := by omega
            subst e1 e2 e3
            have hm : (if mx = none then 0 + 0 else 0) = 0 := by split <;> rfl
            rw [hm] at r1
            simp only [if_true] at hv
            cases hv
            refine ⟨.slice (some a') 0 0, ?_, .slz _ _⟩
            simp [Instr.sliceAt, Instr.slice, run_underlying hd, Result.andThen, run_sizeOf hj] at r1 ⊢; simp [r1]
        · cases hv
      · cases hv
    · cases hv
  · cases hv

/-- nil against what may be nil. -/
def peq (d : Option TypeDesc) (x y : Value) : Option Bool :=
  match d, x, y with
  | some (.pointer _), .pointer none, .pointer b => some b.isNone
  | some (.pointer _), .pointer b, .pointer none => some b.isNone
  | some (.slice _), .slice none _ _, .slice b _ _ => some b.isNone
  | some (.slice _), .slice b _ _, .slice none _ _ => some b.isNone
  | some (.map _ _), .map none, .map b => some b.isNone
  | some (.map _ _), .map b, .map none => some b.isNone
  | some (.func _ _ _), .nilFunc, .nilFunc => some true
  | some (.func _ _ _), .nilFunc, .func _ _ _ => some false
  | some (.func _ _ _), .func _ _ _, .nilFunc => some false
  | _, _, _ => none
theorem peq_rel {d : Option TypeDesc} {x x' y y' : Value} {b : Bool} (hx : VR β x x') (hy : VR β y y') (hn : peq d x y = some b) : peq d x' y' = some b := by
  unfold peq at hn
  split at hn <;> first
    | cases hn; done
    | (cases hx <;> cases hy <;> exact hn)
theorem peq_run' (d : Nat) {t : TypeId} {x y : Value} {b : Bool} (hn : peq (P.underlying t) x y = some b) : (Op.equalIn (d + 1) t x y).run P w = .ok b w := by
  unfold peq at hn
  split at hn <;> first
    | cases hn; done
    | (rename_i hd; cases hn; simp [Op.equalIn, run_underlying hd, Result.andThen]; done)
    | (rename_i hd; simp only [Option.some.injEq] at hn; subst hn; simp [Op.equalIn, run_underlying hd, Result.andThen]; done)
    | (rename_i b' hd; simp only [Option.some.injEq] at hn; subst hn; cases b' <;> simp [Op.equalIn, run_underlying hd, Result.andThen]; done)
    | (rename_i hne hd; simp only [Option.some.injEq] at hn; subst hn; obtain ⟨q, rfl⟩ := Option.ne_none_iff_exists'.1 hne; simp [Op.equalIn, run_underlying hd, Result.andThen]; done)
theorem peq_run {t : TypeId} {x y : Value} {b : Bool} (hn : peq (P.underlying t) x y = some b) : (Op.equal t x y).run P w = .ok b w := peq_run' 9999 hn

/-- Two rows of plain cells, cell by cell. -/
def leq : List Value → List Value → Option Bool
  | [], [] => some true
  | .int _ a :: r, .int _ b :: s => (match leq r s with | some q => some (decide (a = b) && q) | none => none)
  | .bool a :: r, .bool b :: s => (match leq r s with | some q => some (decide (a = b) && q) | none => none)
  | .string a :: r, .string b :: s => (match leq r s with | some q => some (decide (a.data.toList = b.data.toList) && q) | none => none)
  | _, _ => none
end
end
end Go.AE

/- Operators on values that are known but for their plain parts. -/
namespace Go.AE
noncomputable section
open Go.RowKit

section
variable {P : Program} {w0 w : World} {β : Inj} {h : AH} {tm : List Value} {a : Act}

mutual
def eqV (P : Program) : Nat → TypeId → Value → Value → Option Bool
  | 0, _, _, _ => none
  | d + 1, t, x, y =>
    match P.underlying t, x, y with
    | some (.int _), .int k a, .int k' b => if k = k' then some (a == b) else none
    | some .bool, .bool a, .bool b => some (a == b)
    | some .string, .string a, .string b => some (a.data.toList == b.data.toList)
    | some (.struct fs), .agg xs, .agg ys => if P.stoodInHeld t then none else eqFs P d fs.toList xs ys
    | _, _, _ => none
def eqFs (P : Program) : Nat → List Field → Array Value → Array Value → Option Bool
  | _, [], _, _ => some true
  | d, f :: r, xs, ys =>
    if f.name = "_" then none else
    match apart P f.type xs f.offset, apart P f.type ys f.offset with
    | some u, some v => (match eqV P d f.type u v, eqFs P d r xs ys with
      | some a, some b => some (a && b)
      | _, _ => none)
    | _, _ => none
end

theorem apart_run {t : TypeId} {cs : Array Value} {off : Nat} {v : Value} (hv : apart P t cs off = some v) (w : World) : (part t cs off).run P w = .ok v w := by
  unfold apart at hv
  split at hv
  · cases hv
  · rename_i d hd
    split at hv
    · rename_i ha
      split at hv
      · rename_i i hi
        cases hv
        simp [part, run_isAgg hd, ha, run_sizeOf hi, Result.andThen]
      · cases hv
    · rename_i ha
      simp [part, run_isAgg hd, ha, Result.andThen, hv]

/-- The loop over a struct's fields. -/
theorem fields_run (d D : Nat) (xs ys : Array Value) (w : World) (ih : ∀ t x y b, eqV P d t x y = some b → (Op.equalIn D t x y).run P w = .ok b w) : ∀ (fs : List Field) (b : Bool), eqFs P d fs xs ys = some b →
    (do
      for f in fs do
        if f.name ≠ "_" then
          if !(← Op.equalIn D f.type (← part f.type xs f.offset) (← part f.type ys f.offset)) then return false
      pure true : Sem Bool).run P w = .ok b w := by
  intro fs
  induction fs with
  | nil =>
    intro b hb
    simp only [eqFs, Option.some.injEq] at hb
    subst hb
    simp [Result.andThen]
  | cons f r ihr =>
    intro b hb
    simp only [eqFs] at hb
    split at hb
    · cases hb
    · rename_i hn
      split at hb
      · rename_i u v hu hv
        split at hb
        · rename_i p q hp hq
          cases hb
          have h1 := ihr q hq
          have h2 := ih _ _ _ _ hp
          cases p with
          | true =>
            simp only [List.forIn_cons, ne_eq, hn, not_false_eq_true, if_true, Sem.run_bind, apart_run hu, apart_run hv, h2, Result.andThen, Bool.not_true, Bool.false_eq_true, if_false, Sem.run_pure, Bool.true_and] at h1 ⊢
            exact h1
          | false =>
            simp [List.forIn_cons, hn, Sem.run_bind, apart_run hu, apart_run hv, h2, Result.andThen]
        · cases hb
      · cases hb

theorem eqV_run (k : Nat) : ∀ (d : Nat) (t : TypeId) (x y : Value) (b : Bool), eqV P d t x y = some b → (Op.equalIn (d + k) t x y).run P w = .ok b w := by
  intro d
  induction d with
  | zero => intro t x y b hb; simp [eqV] at hb
  | succ d ih =>
    intro t x y b hb
    rw [show d + 1 + k = (d + k) + 1 by omega]
    unfold eqV at hb
    split at hb
    · rename_i k0 k a k' b' hd
      split at hb
      · rename_i hk
        cases hb
        simp [Op.equalIn, run_underlying hd, Result.andThen, hk]
      · cases hb
    · rename_i a b' hd
      cases hb
      simp [Op.equalIn, run_underlying hd, Result.andThen]
    · rename_i a b' hd
      cases hb
      simp only [Op.equalIn, Sem.run_bind, run_underlying hd, Result.andThen, Sem.run_pure]
      have e : (a == b') = (a.data.toList == b'.data.toList) := by
        show (a.data == b'.data) = _
        simp
      rw [e]
    · rename_i fs xs ys hd
      split at hb
      · cases hb
      · rename_i hst
        have := fields_run (P := P) d (d + k) xs ys w (fun t x y b hb => ih t x y b hb) fs.toList b hb
        simp only [Op.equalIn, Sem.run_bind, run_underlying hd, Result.andThen]
        simp [hst, Result.andThen] at this ⊢
        exact this
    · cases hb

/-- Operators. -/
def xbin (P : Program) (op : BinOp) (t : TypeId) (x y : Value) : Option Value :=
  match x, y with
  | .int k a, .int k' b =>
    (match op with
     | .shl => if b < 0 then none else some (.int k (k.wrap (a * 2 ^ (min b.toNat k.bits))))
     | .shr => if b < 0 then none else some (.int k (a.fdiv (2 ^ (min b.toNat k.bits))))
     | op => if k = k' then (match op with
       | .add => some (.int k (k.wrap (a + b)))
       | .sub => some (.int k (k.wrap (a - b)))
       | .mul => some (.int k (k.wrap (a * b)))
       | .quo => if b = 0 then none else some (.int k (k.wrap (a.tdiv b)))
       | .rem => if b = 0 then none else some (.int k (a.tmod b))
       | .and => some (.int k (k.wrap (BitVec.ofInt k.bits a &&& BitVec.ofInt k.bits b).toNat))
       | .or => some (.int k (k.wrap (BitVec.ofInt k.bits a ||| BitVec.ofInt k.bits b).toNat))
       | .xor => some (.int k (k.wrap (BitVec.ofInt k.bits a ^^^ BitVec.ofInt k.bits b).toNat))
       | .andNot => some (.int k (k.wrap (BitVec.ofInt k.bits a &&& ~~~BitVec.ofInt k.bits b).toNat))
       | .eql => some (.bool (a == b))
       | .neq => some (.bool (a != b))
       | .lss => some (.bool (decide (a < b)))
       | .leq => some (.bool (decide (a ≤ b)))
       | .gtr => some (.bool (decide (a > b)))
       | .geq => some (.bool (decide (a ≥ b)))
       | _ => none) else none)
  | .string a, .string b =>
    (match op with
     | .add => if a.data.size + b.data.size ≤ 4611686018427387904 then some (.string (a ++ b)) else none
     | op => astrop op a b)
  | .agg xs, .agg ys =>
    if P.eqGuardType P.depth t then none else
    (match op with
     | .eql => (match eqV P 9 t (.agg xs) (.agg ys) with | some b => some (.bool b) | none => none)
     | .neq => (match eqV P 9 t (.agg xs) (.agg ys) with | some b => some (.bool !b) | none => none)
     | _ => none)
  | x, y =>
    (match op with
     | .eql => (match x, y with
       | .bool a, .bool b => (match eqV P 1 t (.bool a) (.bool b) with | some b => some (.bool b) | none => none)
       | x, y => (match peq (P.underlying t) x y with | some b => some (.bool b) | none => none))
     | .neq => (match x, y with
       | .bool a, .bool b => (match eqV P 1 t (.bool a) (.bool b) with | some b => some (.bool !b) | none => none)
       | x, y => (match peq (P.underlying t) x y with | some b => some (.bool !b) | none => none))
     | _ => none)

theorem apart_rel {t : TypeId} {cs cs' : Array Value} {off : Nat} {v : Value} (h : AR β cs cs') (hv : apart P t cs off = some v) : ∃ v', apart P t cs' off = some v' ∧ VR β v v' := by
  unfold apart at hv ⊢
  split at hv
  · cases hv
  · rename_i d hd
    split at hv
    · rename_i ha
      split at hv
      · rename_i i hi
        cases hv
        have hx := h.extract off (off + i.size)
        exact ⟨_, by simp [ha], .agg _ _ hx.1 hx.2⟩
      · cases hv
    · rename_i ha
      obtain ⟨v', h1, h2⟩ := h.get? hv
      exact ⟨v', by simp [ha, h1], h2⟩
theorem eqFs_rel (d : Nat) {xs xs' ys ys' : Array Value} (hx : AR β xs xs') (hy : AR β ys ys')
    (ih : ∀ t x y x' y' b, VR β x x' → VR β y y' → eqV P d t x y = some b → eqV P d t x' y' = some b) : ∀ (fs : List Field) (b : Bool), eqFs P d fs xs ys = some b → eqFs P d fs xs' ys' = some b := by
  intro fs
  induction fs with
  | nil => intro b hb; simpa only [eqFs] using hb
  | cons f r ihr =>
    intro b hb
    simp only [eqFs] at hb ⊢
    split at hb
    · cases hb
    · rename_i hn
      rw [if_neg hn]
      split at hb
      · rename_i u v hu hv
        obtain ⟨u', h1, h2⟩ := apart_rel hx hu
        obtain ⟨v', h3, h4⟩ := apart_rel hy hv
        split at hb
        · rename_i p q hp hq
          cases hb
          rw [h1, h3]
          simp only [ih _ _ _ _ _ _ h2 h4 hp, ihr _ hq]
        · cases hb
      · cases hb
theorem eqV_rel : ∀ (d : Nat) (t : TypeId) (x y x' y' : Value) (b : Bool), VR β x x' → VR β y y' → eqV P d t x y = some b → eqV P d t x' y' = some b := by
  intro d
  induction d with
  | zero => intro t x y x' y' b _ _ hb; simp [eqV] at hb
  | succ d ih =>
    intro t x y x' y' b hx hy hb
    unfold eqV at hb
    split at hb
    · rename_i hd; cases hx; cases hy; unfold eqV; rw [hd]; exact hb
    · rename_i hd; cases hx; cases hy; unfold eqV; rw [hd]; exact hb
    · rename_i hd; cases hx; cases hy; unfold eqV; rw [hd]; exact hb
    · rename_i fs xs ys hd
      cases hx with
      | agg _ xs' h1 h2 =>
        cases hy with
        | agg _ ys' h3 h4 =>
          unfold eqV
          rw [hd]
          split at hb
          · cases hb
          · rename_i hst
            simp only [hst, if_false, Bool.false_eq_true]
            exact eqFs_rel d ⟨h1, h2⟩ ⟨h3, h4⟩ ih _ _ hb
    · cases hb

theorem xbin_sound {op : BinOp} {t : TypeId} {xo yo : Operand} {x x' y y' v : Value} (hx : VR β x x') (hy : VR β y y') (hv : xbin P op t x y = some v) :
    ∃ v', (∀ w : World, (do eqGuard op t xo yo x' y'; binOp op t x' y').run P w = .ok v' w) ∧ VR β v v' := by
  unfold xbin at hv
  split at hv
  · rename_i k a k' b
    cases hx; cases hy
    have g : ∀ w : World, (eqGuard op t xo yo (.int k a) (.int k' b)).run P w = .ok () w := fun w => by cases op <;> simp [eqGuard]
    refine ⟨v, fun w => ?_, ?_⟩
    · rw [Sem.run_bind, g]
      simp only [Result.andThen]
      split at hv
      · split at hv
        · cases hv
        · rename_i hb; cases hv; simp [binOp, Op.shift, hb]
      · split at hv
        · cases hv
        · rename_i hb; cases hv; simp [binOp, Op.shift, hb]
      · split at hv
        · rename_i hk
          subst hk
          split at hv <;> first
            | (cases hv; simp [binOp, Op.intArith, Op.intBits, Op.intCmp]; done)
            | (split at hv
               · cases hv
               · rename_i hb; cases hv; simp [binOp, Op.intDiv, hb])
            | (cases hv; done)
        · cases hv
    · split at hv
      · split at hv
        · cases hv
        · cases hv; exact .int _ _
      · split at hv
        · cases hv
        · cases hv; exact .int _ _
      · split at hv
        · split at hv <;> first
            | (cases hv; exact .int _ _)
            | (cases hv; exact .bool _)
            | (split at hv
               · cases hv
               · cases hv; exact .int _ _)
            | (cases hv; done)
        · cases hv
  · rename_i a b
    cases hx; cases hy
    have h1 : ∀ w : World, (eqGuard op t xo yo (.string a) (.string b)).run P w = .ok () w := fun w => by cases op <;> simp [eqGuard]
    have h2 : binOp op t (.string a) (.string b) = Op.stringOp op a b := by cases op <;> rfl
    refine ⟨v, fun w => ?_, ?_⟩
    · rw [Sem.run_bind, h1]
      show (binOp op t (.string a) (.string b)).run P w = _
      rw [h2]
      split at hv
      · split at hv
        · rename_i hs
          cases hv
          have : ¬ (((a.size + b.size : Nat) : Int) > IntKind.i64.max) := by
            have h1 : a.size + b.size ≤ 4611686018427387904 := hs
            have : IntKind.i64.max = 9223372036854775807 := by decide
            omega
          simp only [Op.stringOp]
          rw [if_neg this]
          rfl
        · cases hv
      · exact astrop_sound hv
    · split at hv
      · split at hv
        · cases hv; exact .string _
        · cases hv
      · unfold astrop at hv
        cases op <;> simp only [Option.some.injEq, reduceCtorEq] at hv <;> first
          | (subst hv; exact .bool _)
          | (split at hv <;> cases hv; exact .string _)
  · rename_i xs ys
    split at hv
    · cases hv
    · rename_i hg
      cases hx with
      | agg _ xs' p1 p2 =>
        cases hy with
        | agg _ ys' p3 p4 =>
          split at hv
          · split at hv
            · rename_i b hb
              cases hv
              refine ⟨.bool b, fun w => ?_, .bool _⟩
              have h2 : (Op.equal t (.agg xs') (.agg ys')).run P w = .ok b w := eqV_run (P := P) 9991 9 t _ _ b (eqV_rel 9 t _ _ _ _ b (.agg _ _ p1 p2) (.agg _ _ p3 p4) hb)
              simp [eqGuard, hg, Result.andThen, binOp, h2]
            · cases hv
          · split at hv
            · rename_i b hb
              cases hv
              refine ⟨.bool !b, fun w => ?_, .bool _⟩
              have h2 : (Op.equal t (.agg xs') (.agg ys')).run P w = .ok b w := eqV_run (P := P) 9991 9 t _ _ b (eqV_rel 9 t _ _ _ _ b (.agg _ _ p1 p2) (.agg _ _ p3 p4) hb)
              simp [eqGuard, hg, Result.andThen, binOp, h2]
            · cases hv
          · cases hv
  · have pq : ∀ (x y x' y' : Value) (b : Bool), VR β x x' → VR β y y' → peq (P.underlying t) x y = some b → ∀ w : World, (eqGuard op t xo yo x' y').run P w = .ok () w ∧ (binOp .eql t x' y').run P w = .ok (.bool b) w ∧ (binOp .neq t x' y').run P w = .ok (.bool !b) w := by
      intro x y x' y' b hx hy hb w
      have h1 := peq_run (P := P) (w := w) (peq_rel hx hy hb)
      have h0 := peq_rel hx hy hb
      unfold peq at h0
      split at h0 <;> first
        | (cases h0; done)
        | (refine ⟨?_, ?_, ?_⟩
           · cases op <;> simp [eqGuard]
           · simp [binOp, h1, Result.andThen]
           · simp [binOp, h1, Result.andThen])
    split at hv
    · split at hv
      · cases hx; cases hy
        split at hv
        · rename_i q hq
          cases hv
          refine ⟨_, fun w => ?_, .bool _⟩
          have h2 : (Op.equal t _ _).run P w = .ok q w := eqV_run (P := P) 9999 1 t _ _ q hq
          simp [eqGuard, Result.andThen, binOp, h2]
        · cases hv
      · split at hv
        · rename_i q hq
          cases hv
          refine ⟨_, fun w => ?_, .bool _⟩
          obtain ⟨h1, h2, h3⟩ := pq _ _ _ _ _ hx hy hq w
          rw [Sem.run_bind, h1]; exact h2
        · cases hv
    · split at hv
      · cases hx; cases hy
        split at hv
        · rename_i q hq
          cases hv
          refine ⟨_, fun w => ?_, .bool _⟩
          have h2 : (Op.equal t _ _).run P w = .ok q w := eqV_run (P := P) 9999 1 t _ _ q hq
          simp [eqGuard, Result.andThen, binOp, h2]
        · cases hv
      · split at hv
        · rename_i q hq
          cases hv
          refine ⟨_, fun w => ?_, .bool _⟩
          obtain ⟨h1, h2, h3⟩ := pq _ _ _ _ _ hx hy hq w
          rw [Sem.run_bind, h1]; exact h3
        · cases hv
    · cases hv
end
end
end Go.AE

/- The cells of a source; bytes as a text. -/
namespace Go.AE
noncomputable section
open Go.RowKit

theorem all_getD {l : List Value} {k : Nat} (h : l.all known = true) (hk : k < l.length) : known (l.getD k undef) = true := by
  rw [List.getD_eq_getElem?_getD, List.getElem?_eq_getElem hk]
  exact List.all_eq_true.1 h _ (List.getElem_mem hk)
/-- The first cells of a source. -/
def esrc (h : AH) (size n : Nat) (x : Value) : Option (List Value) :=
  match x with
  | .slice (some ⟨g, o, some 0⟩) _ _ => (match assoc h.gl g with | some c => if o + n * size ≤ c.length ∧ ((c.drop o).take (n * size)).all known = true then some ((c.drop o).take (n * size)) else none | none => none)
  | _ => none
def xsrc (h : AH) (size n : Nat) (x : Value) : Option (List Value) := match esrc h size n x with | some l => some l | none => asrc h size n x

/-- The bytes of a text, as cells. -/
def bv (xs : List UInt8) : List Value := xs.map fun b => .int .u8 b.toNat
theorem bv_length (xs : List UInt8) : (bv xs).length = xs.length := by simp [bv]
theorem bv_append (xs ys : List UInt8) : bv (xs ++ ys) = bv xs ++ bv ys := by simp [bv]
theorem bv_one (xs : List UInt8) : oneCells (bv xs) = true := by simp [oneCells, bv, Value.oneCell']
theorem bv_drop (xs : List UInt8) (n : Nat) : (bv xs).drop n = bv (xs.drop n) := by simp [bv]
theorem bv_take (xs : List UInt8) (n : Nat) : (bv xs).take n = bv (xs.take n) := by simp [bv]

section
variable {P : Program} {w0 w : World} {β : Inj} {h : AH}
theorem esrc_sound {size n : Nat} {x x' : Value} {l : List Value} (hw : WR w0 β h w) (hx : VR β x x') (hsh : ∃ m, alenOf x = some m ∧ n ≤ m) (hs : esrc h size n x = some l) :
    ∃ N, (Builtin.firstCells size n x').run P w = .ok N w ∧ AR β l.toArray N ∧ l.length = n * size := by
  unfold esrc at hs
  split at hs
  · rename_i g o len cap
    split at hs
    · rename_i c hg
      split at hs
      · rename_i hle
        obtain ⟨hle, hkn⟩ := hle
        cases hs
        have hlen : ((c.drop o).take (n * size)).length = n * size := by simp; omega
        cases hx with
        | slz a a' =>
          obtain ⟨m, h1, h2⟩ := hsh
          cases h1
          have : n = 0 := by omega
          subst this
          exact ⟨#[], by simp [Builtin.firstCells, loadCells, loadCellsFrom], by simp [AR], by simp⟩
        | osl g o l c' =>
          obtain ⟨C, e, fr, k2, k3, k5⟩ := hw.glob g c hg
          have hlt := (Array.getElem?_eq_some_iff.1 k2).1
          have k4 : w.heap[g]? = some (.cells C e fr) := by rw [hw.below.block g hlt]; exact k2
          refine ⟨C.extract o (o + n * size), ?_, ⟨?_, fun i hi => ?_⟩, hlen⟩
          · simp only [Builtin.firstCells]
            exact run_loadCells k4 _ _ (by omega)
          · simp; omega
          · have hi' : i < n * size := by simpa [hlen] using hi
            rw [getD_takeDrop _ _ _ _ hi', getD_extract _ _ _ _ hi' (by omega)]
            refine k5 _ (by omega) ?_ β
            rw [← getD_takeDrop c o (n * size) i hi', toArray_getD]
            exact all_getD hkn (by omega)
      · cases hs
    · cases hs
  · cases hs
theorem xsrc_sound {size n : Nat} {x x' : Value} {l : List Value} (hw : WR w0 β h w) (hx : VR β x x') (hsh : ∃ m, alenOf x = some m ∧ n ≤ m) (hs : xsrc h size n x = some l) :
    ∃ N, (Builtin.firstCells size n x').run P w = .ok N w ∧ AR β l.toArray N ∧ l.length = n * size := by
  unfold xsrc at hs
  split at hs
  · rename_i l' hl; cases hs; exact esrc_sound hw hx hsh hl
  · exact asrc_sound hw hx hsh hs

theorem conv_str_run {src dst e : TypeId} {p : Option Addr} {l c : Nat} {xs : List UInt8} {x' : Value} (hw : WR w0 β h w) (hxr : VR β (.slice p l c) x') (hs : P.underlying src = some (.slice e)) (hd : P.underlying dst = some .string) (he : P.underlying e = some (.int .u8))
    (hx : xsrc h 1 l (.slice p l c) = some (bv xs)) : (convert src dst x').run P w = .ok (.string ⟨xs.toArray⟩) w := by
  obtain ⟨N, hN, hNr, hNl⟩ := xsrc_sound (P := P) hw hxr ⟨l, rfl, Nat.le_refl _⟩ hx
  have hNe : N = (bv xs).toArray := by
    refine array_ext_getD hNr.1 fun i hi => ?_
    have := hNr.2 i hi
    have e1 : (bv xs).toArray.getD i undef = .int .u8 (xs[i]'(by simpa [bv] using hi)).toNat := by
      have hi' : i < xs.length := by simpa [bv] using hi
      rw [toArray_getD, List.getD_eq_getElem?_getD]
      simp [bv, hi']
    rw [e1] at this ⊢
    generalize N.getD i undef = u at this ⊢
    cases this; rfl
  subst hNe
  have push : ∀ (ys : List UInt8) (r : ByteArray), (ys.map fun b => (b.toNat : Int)).foldl (fun r n => r.push (UInt8.ofNat n.toNat)) r = ⟨r.data ++ ys.toArray⟩ := by
    intro ys
    induction ys with
    | nil => intro r; simp
    | cons y ys ih =>
      intro r
      simp only [List.map_cons, List.foldl_cons, ih]
      apply ByteArray.ext
      apply Array.ext'
      simp [ByteArray.push]
  have hl : xs.length = l := by have := hNl; simpa [bv] using this
  have go : ∀ (a : Addr), (Builtin.firstCells 1 l (.slice (some a) l c)).run P w = .ok (bv xs).toArray w → (Conv.bytesToString (.slice (some a) l c)).run P w = .ok (.string ⟨xs.toArray⟩) w := by
    intro a hq
    simp only [Builtin.firstCells, Nat.mul_one] at hq
    rw [run_bytesToString w a l c (xs.map fun b => (b.toNat : Int)) (by rw [hq]; simp [bv]), push]
    simp
  have conv : ∀ q, (Conv.bytesToString (.slice q l c)).run P w = .ok (.string ⟨xs.toArray⟩) w → (convert src dst (.slice q l c)).run P w = .ok (.string ⟨xs.toArray⟩) w := fun q hq => by
    simp only [convert, Sem.run_bind, run_underlying hs, run_underlying hd, run_underlying he, Result.andThen]
    cases q <;> exact hq
  cases hxr with
  | nils l c =>
    refine conv _ ?_
    have : xs = [] := by
      have h1 := hN
      simp only [Builtin.firstCells, Sem.run_pure, Result.ok.injEq, and_true] at h1
      have h2 := congrArg Array.size h1
      simp [bv] at h2
      exact List.eq_nil_of_length_eq_zero (by omega)
    subst this
    rfl
  | slz a a' => exact conv _ (go _ hN)
  | osl g o l c => exact conv _ (go _ hN)
  | sl b o l c s L hL hsl =>
    have go' : (Conv.bytesToString (.slice (some ⟨L.blk, L.off + o, none⟩) l (c + s))).run P w = .ok (.string ⟨xs.toArray⟩) w := by
      have hq := hN
      simp only [Builtin.firstCells, Nat.mul_one] at hq
      rw [run_bytesToString w _ l (c + s) (xs.map fun b => (b.toNat : Int)) (by rw [hq]; simp [bv]), push]
      simp
    simp only [convert, Sem.run_bind, run_underlying hs, run_underlying hd, run_underlying he, Result.andThen]
    exact go'

/-- Cells that are bytes. -/
def bytesOf : List Value → Option (List UInt8)
  | [] => some []
  | .int .u8 n :: r => if 0 ≤ n ∧ n < 256 then (match bytesOf r with | some xs => some (UInt8.ofNat n.toNat :: xs) | none => none) else none
  | _ => none
theorem bytesOf_eq : ∀ {cs : List Value} {xs : List UInt8}, bytesOf cs = some xs → cs = bv xs := by
  intro cs
  induction cs with
  | nil => intro xs h; cases h; rfl
  | cons v r ih =>
    intro xs h
    unfold bytesOf at h
    split at h
    · rename_i e; cases e
    · rename_i n r' e
      cases e
      split at h
      · rename_i hn
        split at h
        · rename_i ys hy
          cases h
          rw [ih hy]
          have : (UInt8.ofNat n.toNat).toNat = n.toNat := by rw [UInt8.toNat_ofNat']; omega
          show _ :: _ = Value.int .u8 ((UInt8.ofNat n.toNat).toNat : Nat) :: _
          rw [this, Int.toNat_of_nonneg hn.1]; rfl
        · cases h
      · cases h
    · cases h
theorem bytesOf_bv (xs : List UInt8) : bytesOf (bv xs) = some xs := by
  induction xs with
  | nil => rfl
  | cons x r ih =>
    show bytesOf (.int .u8 (x.toNat : Nat) :: bv r) = _
    unfold bytesOf
    have hx := x.toNat_lt
    rw [if_pos (by omega), ih]
    simp
/-- The text that bytes make. -/
def xstr (h : AH) (x : Value) : Option Value := match x with
  | .slice p l c => (match xsrc h 1 l (.slice p l c) with
    | some cs => (match bytesOf cs with | some xs => some (.string ⟨xs.toArray⟩) | none => none)
    | none => none)
  | _ => none
theorem xstr_of {p : Option Addr} {l c : Nat} {xs : List UInt8} (hx : xsrc h 1 l (.slice p l c) = some (bv xs)) : xstr h (.slice p l c) = some (.string ⟨xs.toArray⟩) := by
  unfold xstr
  simp only [hx, bytesOf_bv]
theorem xstr_run {src dst e : TypeId} {x x' v : Value} (hs : P.underlying src = some (.slice e)) (hd : P.underlying dst = some .string) (he : P.underlying e = some (.int .u8)) (hw : WR w0 β h w) (hx : VR β x x') (hv : xstr h x = some v) :
    ∃ v', (convert src dst x').run P w = .ok v' w ∧ VR β v v' := by
  unfold xstr at hv
  split at hv
  · split at hv
    · rename_i cs hc
      split at hv
      · rename_i xs hb
        cases hv
        rw [bytesOf_eq hb] at hc
        exact ⟨_, conv_str_run hw hx hs hd he hc, .string _⟩
      · cases hv
    · cases hv
  · cases hv
end
end
end Go.AE

/- One reading operation, elder memory known. -/
namespace Go.AE
noncomputable section
open Go.RowKit

section
variable {P : Program} {w0 w : World} {β : Inj} {h : AH} {tm : List Value} {a : Act} {ops : Array Oper}

def econv (P : Program) (src dst : TypeId) (x : Value) : Option Value :=
  match P.underlying dst, P.underlying src, x with
  | some (.int K), some (.int _), .int _ n => some (.int K (K.wrap n))
  | some .string, some .string, .string s => some (.string s)
  | _, _, _ => none
theorem econv_sound {src dst : TypeId} {x x' v : Value} (hx : VR β x x') (hv : econv P src dst x = some v) : ∃ v', (∀ w : World, (convert src dst x').run P w = .ok v' w) ∧ VR β v v' := by
  unfold econv at hv
  split at hv
  · rename_i hd hs
    cases hv; cases hx
    exact ⟨_, fun w => by simp [convert, run_underlying hd, run_underlying hs, Result.andThen, Conv.intToInt], .int _ _⟩
  · rename_i hd hs
    cases hv; cases hx
    exact ⟨_, fun w => by simp [convert, run_underlying hd, run_underlying hs, Result.andThen], .string _⟩
  · cases hv
def econvH (P : Program) (h : AH) (src dst : TypeId) (x : Value) : Option Value :=
  match P.underlying dst, P.underlying src with
  | some .string, some (.slice e) => (match P.underlying e with | some (.int .u8) => xstr h x | _ => none)
  | _, _ => econv P src dst x
theorem econvH_sound {src dst : TypeId} {x x' v : Value} (hw : WR w0 β h w) (hx : VR β x x') (hv : econvH P h src dst x = some v) : ∃ v', (convert src dst x').run P w = .ok v' w ∧ VR β v v' := by
  unfold econvH at hv
  split at hv
  · rename_i e hd hs
    split at hv
    · rename_i he
      exact xstr_run hs hd he hw hx hv
    · cases hv
  · obtain ⟨v', h1, h2⟩ := econv_sound hx hv
    exact ⟨v', h1 w, h2⟩
def eun (op : UnOp) (x : Value) : Option Value :=
  match op, x with
  | .neg, .int K n => some (.int K (K.wrap (0 - n)))
  | .xor, .int K n => some (.int K (K.wrap (BitVec.ofInt K.bits (if K.signed then -1 else K.max) ^^^ BitVec.ofInt K.bits n).toNat))
  | .not, .bool b => some (.bool !b)
  | _, _ => none
theorem eun_sound {op : UnOp} {x x' v : Value} (hx : VR β x x') (hv : eun op x = some v) : ∃ v', (∀ w : World, (Op.unary op x').run P w = .ok v' w) ∧ VR β v v' := by
  unfold eun at hv
  split at hv
  · cases hv; cases hx; exact ⟨_, fun w => by simp [Op.unary, Op.intArith], .int _ _⟩
  · cases hv; cases hx; exact ⟨_, fun w => by simp [Op.unary, Op.intBits], .int _ _⟩
  · cases hv; cases hx; exact ⟨_, fun w => by simp [Op.unary], .bool _⟩
  · cases hv

def ereader (P : Program) (tm : List Value) (h : AH) (o : Oper) : Option Value :=
  match o.op with
  | .load t x => (match aeval tm x with | some v => eload P h t v | none => none)
  | .fieldAddr t x f => (match aeval tm x with | some v => efieldAddr P t v f | none => none)
  | .indexAddr t x i => (match aeval tm x, aeval tm i with | some u, some v => eindexAddr P t u v | _, _ => none)
  | .slice t x lo hi mx => (match aeval tm x, oval tm lo, oval tm hi, oval tm mx with | some u, some a, some b, some c => eslice P t u a b c | _, _, _, _ => none)
  | .nilCheck x => (match aeval tm x with | some (.pointer (some ⟨b, o, some 0⟩)) => some (.pointer (some ⟨b, o, some 0⟩)) | _ => none)
  | .binOp op t x y _ => (match aeval tm x, aeval tm y with | some u, some v => xbin P op t u v | _, _ => none)
  | .convert src dst x => (match aeval tm x with | some u => econvH P h src dst u | none => none)
  | .unOp op _ x => (match aeval tm x with | some u => eun op u | none => none)
  | _ => none
theorem ereader_sound {o : Oper} {v : Value} (hw : WR w0 β h w) (ha : AR β tm.toArray a.tmps) (hv : ereader P tm h o = some v) :
    ∃ v', (execOp a.eval o).run P w = .ok (.value v') w ∧ VR β v v' := by
  unfold ereader at hv
  unfold execOp
  split at hv <;> first | (rename_i hop; rw [hop]) | skip
  · split at hv
    · rename_i hx
      obtain ⟨v', h1, h2⟩ := eload_sound hw (aeval_sound ha hx) hv
      exact ⟨v', val_run h1, h2⟩
    · cases hv
  · split at hv
    · rename_i hx
      obtain ⟨v', h1, h2⟩ := efieldAddr_sound (aeval_sound ha hx) hv
      exact ⟨v', val_run (h1 w), h2⟩
    · cases hv
  · split at hv
    · rename_i hx hy
      obtain ⟨v', h1, h2⟩ := eindexAddr_sound (aeval_sound ha hx) (aeval_sound ha hy) hv
      exact ⟨v', val_run (h1 w), h2⟩
    · cases hv
  · split at hv
    · rename_i hx h1 h2 h3
      obtain ⟨v', h1, h2⟩ := eslice_sound (w := w) (aeval_sound ha hx) (oval_sound ha h1) (oval_sound ha h2) (oval_sound ha h3) hv
      exact ⟨v', val_run h1, h2⟩
    · cases hv
  · rename_i x
    split at hv
    · rename_i b o hc
      cases hv
      have h1 := aeval_sound ha hc
      obtain ⟨u, hu⟩ : ∃ u, a.eval x = u := ⟨_, rfl⟩
      rw [hu] at h1
      cases h1 with
      | glob g o => exact ⟨.pointer (some ⟨b, o, none⟩), by simp only [hu]; rfl, .glob _ _⟩
    · cases hv
  · split at hv
    · rename_i hx hy
      obtain ⟨v', h1, h2⟩ := xbin_sound (aeval_sound ha hx) (aeval_sound ha hy) hv
      exact ⟨v', val_run (h1 w), h2⟩
    · cases hv
  · split at hv
    · rename_i hx
      obtain ⟨v', h1, h2⟩ := econvH_sound hw (aeval_sound ha hx) hv
      exact ⟨v', val_run h1, h2⟩
    · cases hv
  · split at hv
    · rename_i hx
      obtain ⟨v', h1, h2⟩ := eun_sound (aeval_sound ha hx) hv
      exact ⟨v', val_run (h1 w), h2⟩
    · cases hv
  · cases hv

def xreader (P : Program) (tm : List Value) (h : AH) (o : Oper) : Option Value :=
  match ereader P tm h o with
  | some v => some v
  | none => areader P tm h o
theorem xreader_sound {o : Oper} {v : Value} (hw : WR w0 β h w) (ha : AR β tm.toArray a.tmps) (hv : xreader P tm h o = some v) :
    ∃ v', (execOp a.eval o).run P w = .ok (.value v') w ∧ VR β v v' := by
  unfold xreader at hv
  split at hv
  · rename_i u hu
    cases hv
    exact ereader_sound hw ha hu
  · exact areader_sound hw ha hv
theorem xreader_noSel {o : Oper} {v : Value} (hv : xreader P tm h o = some v) : (∀ cs b, o.op ≠ .select cs b) ∧ (∀ c, o.op ≠ .defer c) := by
  unfold xreader at hv
  split at hv
  · rename_i u hu
    constructor
    · intro cs b hc; unfold ereader at hu; rw [hc] at hu; simp at hu
    · intro c hc; unfold ereader at hu; rw [hc] at hu; simp at hu
  · exact areader_noSel hv

theorem ereader_congr {tm tm' : List Value} {o : Oper} (hx : ∀ x ∈ o.op.operands, aeval tm x = aeval tm' x) : ereader P tm h o = ereader P tm' h o := by
  unfold ereader
  obtain ⟨dst, op, type, pos, after, guard⟩ := o
  cases op <;> simp only [Op.operands] at hx <;> simp only []
  case load t x => rw [hx x (by simp)]
  case nilCheck x => rw [hx x (by simp)]
  case binOp op t x y u => rw [hx x (by simp), hx y (by simp)]
  case slice t x lo hi mx =>
    rw [hx x (by simp), oval_congr lo fun y hy => hx y (by simp at hy; simp [hy]), oval_congr hi fun y hy => hx y (by simp at hy; simp [hy]), oval_congr mx fun y hy => hx y (by simp at hy; simp [hy])]
  case fieldAddr t x f => rw [hx x (by simp)]
  case indexAddr t x i => rw [hx x (by simp), hx i (by simp)]
  case convert a b x => rw [hx x (by simp)]
  case unOp op t x => rw [hx x (by simp)]
theorem xreader_congr {tm tm' : List Value} {o : Oper} (hx : ∀ x ∈ o.op.operands, aeval tm x = aeval tm' x) : xreader P tm h o = xreader P tm' h o := by
  unfold xreader
  rw [areader_congr hx, ereader_congr hx]

def xread (P : Program) (ops : Array Oper) (tm : List Value) (h : AH) (o : Oper) : Option Value :=
  if Region.wanted o (ayielded ops tm) then xreader P tm h o else some undef
theorem xread_set {d : Nat} {v : Value} {o : Oper} (hd : d ∉ o.looksAt ops) : xread P ops (tm.set d v) h o = xread P ops tm h o := by
  have h1 : Region.wanted o (ayielded ops (tm.set d v)) = Region.wanted o (ayielded ops tm) := by
    refine wanted_congr fun j wnt hg => ?_
    unfold ayielded
    cases hs : (ops[j]?).bind (·.dst) with
    | none => rfl
    | some s =>
      have : d ≠ s := fun e => hd (by
        subst e
        refine List.mem_append_right _ ?_
        simp only [hg, hs]
        simp)
      simp only [Option.bind_some, List.getElem?_set_ne this]
  have h2 : xreader P (tm.set d v) h o = xreader P tm h o := xreader_congr fun x hx => aeval_set fun e => hd (by subst e; exact mem_looks hx)
  unfold xread
  rw [h1, h2]
theorem xread_put {dst : Option Tmp} {v : Value} {o : Oper} (hd : ∀ d, dst = some d → d ∉ o.looksAt ops) : xread P ops (aput tm dst v) h o = xread P ops tm h o := by
  cases dst with
  | none => rfl
  | some d => rw [aput_some]; exact xread_set (hd d rfl)
end
end
end Go.AE

/- Operations and regions that draw their order, by what must hold behind them. -/
namespace Go.AE
noncomputable section
open Go.RowKit

def RetW (w0 : World) (β : Inj) (Q : Value → AH → Prop) : Ending → World → Prop := fun e w' =>
  ∃ v', e = .returned v' ∧ ∃ v h β', Q v h ∧ Inj.le β β' ∧ VR β' v v' ∧ WR w0 β' h w'
theorem RetW.mono {w0 : World} {β : Inj} {Q Q' : Value → AH → Prop} (hq : ∀ v h, Q v h → Q' v h) {e : Ending} {w : World} (h : RetW w0 β Q e w) : RetW w0 β Q' e w := by
  obtain ⟨v', rfl, v, h', β', h1, h2⟩ := h
  exact ⟨v', rfl, v, h', β', hq _ _ h1, h2⟩
theorem RetW.le {w0 : World} {β β1 : Inj} {Q : Value → AH → Prop} (hb : Inj.le β β1) {e : Ending} {w : World} (h : RetW w0 β1 Q e w) : RetW w0 β Q e w := by
  obtain ⟨v', rfl, v, h', β', h1, h2, h3⟩ := h
  exact ⟨v', rfl, v, h', β', h1, hb.trans h2, h3⟩

/-- From an abstract heap on the call of f comes to an end in Q. -/
structure CallW (P : Program) (f : FuncId) (args : List Value) (h : AH) (Q : Value → AH → Prop) : Prop where
  out : ∀ w0 β w args', WR w0 β h w → AR β args.toArray args' → ∀ n, CallsIn Fence.wide n P f args' w (RetW w0 β Q)
theorem CallW.mono {P : Program} {f : FuncId} {args : List Value} {h : AH} {Q Q' : Value → AH → Prop} (hc : CallW P f args h Q) (hq : ∀ v h, Q v h → Q' v h) : CallW P f args h Q' :=
  ⟨fun w0 β w args' hw ha n => (hc.out w0 β w args' hw ha n).mono fun _ _ h => h.mono hq⟩
/-- A round of a loop over a function. -/
structure RoundW (P : Program) (l : Nat) (tm : List Value) (as bd : Code) (h : AH) (Q : Value → AH → Prop) : Prop where
  out : ∀ w0 β w L f T, β l = some L → WR w0 β h w → AR β tm.toArray T → ∀ n, RoundIn Fence.wide n P L.blk f T as bd w (RetW w0 β Q)
theorem RoundW.mono {P : Program} {l : Nat} {tm : List Value} {as bd : Code} {h : AH} {Q Q' : Value → AH → Prop} (hc : RoundW P l tm as bd h Q) (hq : ∀ v h, Q v h → Q' v h) : RoundW P l tm as bd h Q' :=
  ⟨fun w0 β w L f T hL hw ha n => (hc.out w0 β w L f T hL hw ha n).mono fun _ _ h => h.mono hq⟩

/-- What an operation comes to. -/
def NextW (P : Program) (w0 : World) (β : Inj) (K : Value → AH → Prop) : Result Next → Prop
  | .ok (.value v') w' => ∃ v h β', K v h ∧ Inj.le β β' ∧ VR β' v v' ∧ WR w0 β' h w'
  | .ok .skip w' => ∃ h β', K undef h ∧ Inj.le β β' ∧ WR w0 β' h w'
  | .ok (.enter f args) w' => ∀ n, CallsIn Fence.wide n P f args w' (RetW w0 β K)
  | .ok (.round l f T as bd) w' => ∀ n, RoundIn Fence.wide n P l f T as bd w' (RetW w0 β K)
  | _ => False
structure OpW (P : Program) (tm : List Value) (h : AH) (o : Oper) (K : Value → AH → Prop) : Prop where
  out : ∀ w0 β w (a : Act), WR w0 β h w → AR β tm.toArray a.tmps → NextW P w0 β K ((execOp a.eval o).run P w)
  calm : (∀ cs b, o.op ≠ .select cs b) ∧ (∀ c, o.op ≠ .defer c)
theorem NextW.mono {P : Program} {w0 : World} {β : Inj} {K K' : Value → AH → Prop} (hq : ∀ v h, K v h → K' v h) {r : Result Next} (hr : NextW P w0 β K r) : NextW P w0 β K' r := by
  unfold NextW at hr ⊢
  split at hr
  · obtain ⟨v, h, β', h1, h2⟩ := hr; exact ⟨v, h, β', hq _ _ h1, h2⟩
  · obtain ⟨h, β', h1, h2⟩ := hr; exact ⟨h, β', hq _ _ h1, h2⟩
  · exact fun n => (hr n).mono fun _ _ h => h.mono hq
  · exact fun n => (hr n).mono fun _ _ h => h.mono hq
  · exact hr.elim
theorem OpW.mono {P : Program} {tm : List Value} {h : AH} {o : Oper} {K K' : Value → AH → Prop} (ho : OpW P tm h o K) (hq : ∀ v h, K v h → K' v h) : OpW P tm h o K' :=
  ⟨fun w0 β w a hw ha => (ho.out w0 β w a hw ha).mono hq, ho.calm⟩
def StepW (P : Program) (ops : Array Oper) (tm : List Value) (h : AH) (o : Oper) (K : Value → AH → Prop) : Prop :=
  (Region.wanted o (ayielded ops tm) = true → OpW P tm h o K) ∧ (Region.wanted o (ayielded ops tm) = false → K undef h)

namespace X
section
variable {P : Program} {w0 w : World} {β : Inj} {h : AH} {tm : List Value} {F : Fence} {n : Nat} {ops : Array Oper} {Q : Exit → Act → World → Prop}

/-- One operation, carried out in state a, whose operands are those of state a2. -/
theorem step_sound (hF : Wide F) {i : Nat} {o : Oper} (ho : ops[i]? = some o) {K0 : Value → AH → Prop}
    (hv : StepW P ops tm h o K0) (hw : WR w0 β h w) {a a2 : Act} (ha : AR β tm.toArray a2.tmps) (hex : Region.wanted o (ayielded ops tm) = true → execOp a.eval o = execOp a2.eval o)
    (hwa : Region.wanted o (yielded ops a.tmps) = Region.wanted o (ayielded ops tm)) {K : Act → World → Prop}
    (hK : ∀ v h' u β' w', K0 v h' → Inj.le β β' → VR β' v u → WR w0 β' h' w' → K (a.put o.dst u) w') : wpOpIn F n P ops Q i K a w := by
  unfold wpOpIn
  simp only [ho]
  have hab : ∀ f, o.about P w a.eval = some f → F.fn f := fun f _ => hF.fn f
  rw [hwa]
  cases hwant : Region.wanted o (ayielded ops tm) with
  | true =>
    simp only [if_true]
    have hop := hv.1 hwant
    have hs := hop.out w0 β w a2 hw ha
    rw [← hex hwant] at hs
    refine ⟨hab, ?_⟩
    rw [semAt_of hop.calm.2]
    unfold NextW at hs
    split at hs
    · rename_i v' w' hr
      obtain ⟨v, h', β', q1, q2, q3, q4⟩ := hs
      rw [hr]
      exact hK v h' v' β' w' q1 q2 q3 q4
    · rename_i w' hr
      obtain ⟨h', β', q1, q2, q4⟩ := hs
      rw [hr]
      exact hK _ h' undef β' w' q1 q2 (VR.undef _) q4
    · rename_i f args w' hr
      rw [hr]
      refine ⟨hF.depth _, (hF.calls (hs (n - 1))).mono ?_⟩
      rintro e w'' ⟨v', rfl, v, h', β', q1, q2, q3, q4⟩
      exact hK v h' v' β' w'' q1 q2 q3 q4
    · rename_i l f T as bd w' hr
      rw [hr]
      refine ⟨hF.depth _, (hF.rounds (hs (n - 1))).mono ?_⟩
      rintro e w'' ⟨v', rfl, v, h', β', q1, q2, q3, q4⟩
      exact hK v h' v' β' w'' q1 q2 q3 q4
    · exact hs.elim
  | false =>
    simp only [if_false, Bool.false_eq_true]
    exact ⟨hab, hK _ h undef β w (hv.2 hwant) (Inj.le.refl _) (VR.undef _) hw⟩

structure Inv (P : Program) (ops : Array Oper) (β : Inj) (cl : Array Bool) (X : RS) (h : AH) (a : Act) : Prop where
  szc : cl.size = ops.size
  sza : X.al.size = ops.size
  sub : ∀ i, Is cl i → Is X.al i
  pend : ∀ i, Is X.al i → ¬ Is cl i → i ∈ X.early
  earlyA : ∀ e ∈ X.early, Is X.al e
  fresh : ∀ e ∈ X.early, ∀ o, ops[e]? = some o → ∃ v, xread P ops X.tm h o = some v ∧ ∀ d, o.dst = some d → d < X.tm.length → X.tm.getD d undef = v
  own : ∀ e ∈ X.early, ∀ o d, ops[e]? = some o → o.dst = some d → d ∉ o.looksAt ops
  apart1 : ∀ e ∈ X.early, ∀ j oj oe d, ops[j]? = some oj → ops[e]? = some oe → j ≠ e → (¬ Is X.al j ∨ j ∈ X.early) → oe.dst = some d → Waits e oj ∨ d ∉ oj.looksAt ops
  dst2 : ∀ e ∈ X.early, ∀ f ∈ X.early, e ≠ f → ∀ oe of d, ops[e]? = some oe → ops[f]? = some of → oe.dst = some d → of.dst ≠ some d
  down : ∀ i o, Is cl i → ops[i]? = some o → ∀ j, Waits j o → Is cl j
  downA : ∀ i o, Is X.al i → ops[i]? = some o → ∀ j, Waits j o → Is X.al j
  ghost : ∃ T2, AR β X.tm.toArray T2 ∧ T2.size = a.tmps.size ∧ ∀ s, (∀ i o, Is X.al i → ¬ Is cl i → ops[i]? = some o → o.dst ≠ some s) → T2[s]? = a.tmps[s]?

/-- A pending operation comes up. -/
theorem Inv.step_pending {cl : Array Bool} {X : RS} {a : Act} {k : Nat} (hI : Inv P ops β cl X h a) (hw : WR w0 β h w) (hF : Wide F) (hr : k ∈ Region.ready .any ops cl) (hA : Is X.al k) {K : Act → World → Prop}
    (hK : ∀ a', Inv P ops β (cl.setIfInBounds k true) X h a' → a'.defers = a.defers → K a' w) : wpOpIn F n P ops Q k K a w := by
  obtain ⟨o, ho, hC, hdep⟩ := (ready_iff hI.szc).1 hr
  have hke := hI.pend k hA hC
  obtain ⟨T2, g1, g2, g3⟩ := hI.ghost
  obtain ⟨v, f1, f2⟩ := hI.fresh k hke o ho
  have hlook : ∀ i oi d, Is X.al i → ¬ Is cl i → ops[i]? = some oi → oi.dst = some d → d ∉ o.looksAt ops := by
    intro i oi d h1 h2 h3 h4
    by_cases hik : i = k
    · subst hik
      rw [ho] at h3; cases h3
      exact hI.own i hke o d ho h4
    · rcases hI.apart1 i (hI.pend i h1 h2) k o oi d ho h3 (Ne.symm hik) (.inr hke) h4 with hw' | hn
      · exact absurd (hdep i hw') h2
      · exact hn
  have hab : ∀ f, o.about P w a.eval = some f → F.fn f := fun f _ => hF.fn f
  -- behind it
  have after : ∀ u, VR β v u → Inv P ops β (cl.setIfInBounds k true) X h (a.put o.dst u) := by
    intro u hu
    have hlt : k < cl.size := by rw [hI.szc]; exact (Array.getElem?_eq_some_iff.1 ho).1
    refine ⟨by simp [hI.szc], hI.sza, ?_, ?_, hI.earlyA, hI.fresh, hI.own, hI.apart1, hI.dst2, ?_, hI.downA, ?_⟩
    · intro i hi
      rcases Is.set.1 hi with ⟨rfl, _⟩ | hi
      · exact hA
      · exact hI.sub i hi
    · intro i h1 h2
      exact hI.pend i h1 fun hc => h2 (Is.set.2 (.inr hc))
    · intro i oi hi hoi j hj
      rcases Is.set.1 hi with ⟨rfl, _⟩ | hi
      · rw [ho] at hoi; cases hoi
        exact Is.set.2 (.inr (hdep j hj))
      · exact Is.set.2 (.inr (hI.down i oi hi hoi j hj))
    · have hAR : AR β X.tm.toArray (match o.dst with | some d => T2.setIfInBounds d u | none => T2) := by
        cases hd : o.dst with
        | none => exact g1
        | some d => exact g1.put_same hu (f2 d hd)
      refine ⟨_, hAR, ?_, ?_⟩
      · rw [put_size]
        cases o.dst <;> simp [g2]
      · intro s hs
        by_cases hds : o.dst = some s
        · rw [hds]
          simp only [Act.put]
          rw [Array.getElem?_setIfInBounds, Array.getElem?_setIfInBounds, g2]; simp
        · rw [put_get a o.dst u s hds]
          have e1 : (match o.dst with | some d => T2.setIfInBounds d u | none => T2)[s]? = T2[s]? := by
            cases hd : o.dst with
            | none => rfl
            | some d =>
              have : d ≠ s := fun e => hds (by rw [hd, e])
              simp only [Array.getElem?_setIfInBounds_ne this]
          rw [e1]
          refine g3 s fun i oi h1 h2 h3 h4 => ?_
          by_cases hik : i = k
          · subst hik
            rw [ho] at h3; cases h3
            exact hds h4
          · exact hs i oi h1 (fun hc => by rcases Is.set.1 hc with ⟨e, _⟩ | hc; exact hik e.symm; exact h2 hc) h3 h4
  unfold wpOpIn
  simp only [ho]
  unfold xread at f1
  have hwT : Region.wanted o (yielded ops T2) = Region.wanted o (ayielded ops X.tm) := wanted_congr fun j _ _ => yielded_all g1 j
  have hwa : Region.wanted o (yielded ops a.tmps) = Region.wanted o (ayielded ops X.tm) := by
    rw [← hwT]
    refine wanted_congr fun j wnt hg => ?_
    unfold yielded
    cases hs : (ops[j]?).bind (·.dst) with
    | none => rfl
    | some s =>
      have hmem : s ∈ o.looksAt ops := by
        refine List.mem_append_right _ ?_
        simp only [hg, hs]
        simp
      have := g3 s fun i oi h1 h2 h3 h4 => hlook i oi s h1 h2 h3 h4 hmem
      simp only [Option.bind_some, this]
  rw [hwa]
  split at f1
  · rename_i hwant
    simp only [hwant, if_true]
    obtain ⟨hsel, hdef⟩ := xreader_noSel f1
    obtain ⟨u, r1, r2⟩ := xreader_sound (a := { tmps := T2, defers := a.defers }) hw g1 f1
    have hsame := (same_op (X := X) (cl := cl) ho hlook g2 g3 hsel).1
    refine ⟨hab, ?_⟩
    rw [semAt_of hdef, hsame, r1]
    exact hK _ (after u r2) (put_defers _ _ _)
  · rename_i hwant
    cases f1
    simp only [hwant, if_false, Bool.false_eq_true]
    exact ⟨hab, hK _ (after undef (VR.undef β)) (put_defers _ _ _)⟩

/-- A reading operation is taken first. -/
theorem Inv.take {cl : Array Bool} {X : RS} {a : Act} {i : Nat} {o : Oper} {v : Value} (hI : Inv P ops β cl X h a) (hw : WR w0 β h w) (hr : i ∈ Region.ready .any ops X.al) (ho : ops[i]? = some o)
    (hfree : Region.free .any ops X.al i = true) (hclob : noClobber ops X.early i = true) (hv : xread P ops X.tm h o = some v) :
    Inv P ops β cl ⟨X.al.setIfInBounds i true, i :: X.early, aput X.tm o.dst v⟩ h a := by
  obtain ⟨o', ho', hA, hdep⟩ := (ready_iff hI.sza).1 hr
  rw [ho] at ho'; cases ho'
  have hlt : i < X.al.size := by rw [hI.sza]; exact (Array.getElem?_eq_some_iff.1 ho).1
  have hA' : ∀ j, Is (X.al.setIfInBounds i true) j ↔ j = i ∨ Is X.al j := fun j => by
    rw [Is.set]
    constructor
    · rintro (⟨rfl, _⟩ | hj)
      · exact .inl rfl
      · exact .inr hj
    · rintro (rfl | hj)
      · exact .inl ⟨rfl, hlt⟩
      · exact .inr hj
  have hdst : dstOf ops i = o.dst := by simp [dstOf, ho]
  have clob : ∀ d, o.dst = some d → d ∉ o.looksAt ops ∧ ∀ e ∈ X.early, ∀ oe, ops[e]? = some oe → d ∉ oe.looksAt ops ∧ oe.dst ≠ some d := by
    intro d hd
    unfold noClobber at hclob
    rw [hdst, hd] at hclob
    simp only [Bool.and_eq_true, Bool.not_eq_true', List.all_eq_true, bne_iff_ne] at hclob
    refine ⟨?_, fun e he oe hoe => ?_⟩
    · have := hclob.1
      simp only [looksOf, ho] at this
      simpa using this
    · have := hclob.2 e he
      simp only [looksOf, hoe, dstOf, Option.bind_some] at this
      exact ⟨by simpa using this.1, this.2⟩
  have hni : i ∉ X.early := fun he => hA (hI.earlyA i he)
  have look_i : ∀ d, o.dst = some d → d ∉ o.looksAt ops := fun d hd => (clob d hd).1
  have hread : ∀ e ∈ X.early, ∀ oe, ops[e]? = some oe → xread P ops (aput X.tm o.dst v) h oe = xread P ops X.tm h oe := fun e he oe hoe => xread_put fun d hd => ((clob d hd).2 e he oe hoe).1
  refine ⟨hI.szc, by simp [hI.sza], fun j hj => (hA' j).2 (.inr (hI.sub j hj)), ?_, ?_, ?_, ?_, ?_, ?_, hI.down, ?_, ?_⟩
  · intro j h1 h2
    rcases (hA' j).1 h1 with rfl | h1
    · exact List.mem_cons_self
    · exact List.mem_cons_of_mem _ (hI.pend j h1 h2)
  · intro e he
    rcases List.mem_cons.1 he with rfl | he
    · exact (hA' _).2 (.inl rfl)
    · exact (hA' _).2 (.inr (hI.earlyA e he))
  · intro e he oe hoe
    rcases List.mem_cons.1 he with rfl | he
    · rw [ho] at hoe; cases hoe
      refine ⟨v, by rw [xread_put look_i]; exact hv, fun d hd hlen => ?_⟩
      simp only [hd, aput_some] at hlen ⊢
      rw [List.length_set] at hlen
      simp [List.getD_eq_getElem?_getD, hlen]
    · obtain ⟨u, q1, q2⟩ := hI.fresh e he oe hoe
      refine ⟨u, by rw [hread e he oe hoe]; exact q1, fun d hd hlen => ?_⟩
      have hne : o.dst ≠ some d := fun e' => ((clob d e').2 e he oe hoe).2 hd
      cases hod : o.dst with
      | none => simp only [hod] at hlen ⊢; exact q2 d hd hlen
      | some d' =>
        have : d' ≠ d := fun e' => hne (by rw [hod, e'])
        simp only [hod, aput_some] at hlen ⊢
        rw [List.length_set] at hlen
        rw [List.getD_eq_getElem?_getD, List.getElem?_set_ne this, ← List.getD_eq_getElem?_getD]
        exact q2 d hd hlen
  · intro e he oe d hoe hd
    rcases List.mem_cons.1 he with rfl | he
    · rw [ho] at hoe; cases hoe
      exact look_i d hd
    · exact hI.own e he oe d hoe hd
  · intro e he0 j oj oe d hoj hoe hne hj hd
    rcases List.mem_cons.1 he0 with he | he
    · subst he
      rw [ho] at hoe; cases hoe
      rcases hj with hj | hj
      · have hun : ¬ Is X.al j := fun hq => hj ((hA' j).2 (.inr hq))
        rcases free_of hI.sza ho hfree hoj hne hun with hq | hq
        · exact .inl hq
        · exact .inr ((Oper.apart_spec hq).1 d hd)
      · rcases List.mem_cons.1 hj with hj | hj
        · exact absurd hj hne
        · exact .inr ((clob d hd).2 j hj oj hoj).1
    · rcases hj with hj | hj
      · exact hI.apart1 e he j oj oe d hoj hoe hne (.inl fun hq => hj ((hA' j).2 (.inr hq))) hd
      · rcases List.mem_cons.1 hj with hj | hj
        · exact hI.apart1 e he j oj oe d hoj hoe hne (.inl (by rw [hj]; exact hA)) hd
        · exact hI.apart1 e he j oj oe d hoj hoe hne (.inr hj) hd
  · intro e he0 f hf0 hne oe of d hoe hof hd
    rcases List.mem_cons.1 he0 with he | he
    · rw [he, ho] at hoe; cases hoe
      rcases List.mem_cons.1 hf0 with hf | hf
      · exact absurd (he.trans hf.symm) hne
      · exact ((clob d hd).2 f hf of hof).2
    · rcases List.mem_cons.1 hf0 with hf | hf
      · rw [hf, ho] at hof; cases hof
        intro hq
        exact ((clob d hq).2 e he oe hoe).2 hd
      · exact hI.dst2 e he f hf hne oe of d hoe hof hd
  · intro j oj hj hoj x hx
    rcases (hA' j).1 hj with hj | hj
    · rw [hj, ho] at hoj; cases hoj
      exact (hA' x).2 (.inr (hdep x hx))
    · exact (hA' x).2 (.inr (hI.downA j oj hj hoj x hx))
  · obtain ⟨T2, g1, g2, g3⟩ := hI.ghost
    obtain ⟨u, hu⟩ : ∃ u, VR β v u := by
      unfold xread at hv
      split at hv
      · obtain ⟨u, _, hu⟩ := xreader_sound (a := { tmps := T2, defers := [] }) hw g1 hv
        exact ⟨u, hu⟩
      · cases hv; exact ⟨undef, VR.undef β⟩
    refine ⟨(({ tmps := T2, defers := [] } : Act).put o.dst u).tmps, aput_rel g1 o.dst hu, by rw [put_size]; exact g2, fun s hs => ?_⟩
    have hds : o.dst ≠ some s := hs i o ((hA' i).2 (.inl rfl)) (fun hc => hA (hI.sub i hc)) ho
    rw [put_get _ o.dst u s hds]
    exact g3 s fun j oj h1 h2 h3 => hs j oj ((hA' j).2 (.inr h1)) h2 h3

/-- Which of the readings that were taken first hold still. -/
def Recheck (P : Program) (ops : Array Oper) (tm : List Value) (h : AH) (e : Nat) : Prop :=
  ∀ o, ops[e]? = some o → ∃ v, xread P ops tm h o = some v ∧ ∀ d, o.dst = some d → d < tm.length → tm.getD d undef = v

/-- An operation that does more comes up. -/
theorem Inv.step_effect {cl : Array Bool} {X : RS} {a : Act} {k : Nat} {o : Oper} {K0 : Value → AH → Prop} (hI : Inv P ops β cl X h a) (hw : WR w0 β h w) (hF : Wide F)
    (hr : k ∈ Region.ready .any ops cl) (hA : ¬ Is X.al k) (ho : ops[k]? = some o) (hst : StepW P ops X.tm h o K0) {K : Act → World → Prop}
    (hK : ∀ v h' β' a' w', K0 v h' → Inj.le β β' → WR w0 β' h' w' → a'.defers = a.defers →
      ((∀ e ∈ X.early.filter (fun e => !(doneBy ops k).contains e), Recheck P ops (aput X.tm o.dst v) h' e) →
        Inv P ops β' (cl.setIfInBounds k true) ⟨X.al.setIfInBounds k true, X.early.filter (fun e => !(doneBy ops k).contains e), aput X.tm o.dst v⟩ h' a') → K a' w') : wpOpIn F n P ops Q k K a w := by
  obtain ⟨o', ho', hC, hdep⟩ := (ready_iff hI.szc).1 hr
  rw [ho] at ho'; cases ho'
  obtain ⟨T2, g1, g2, g3⟩ := hI.ghost
  have hlook : ∀ i oi d, Is X.al i → ¬ Is cl i → ops[i]? = some oi → oi.dst = some d → d ∉ o.looksAt ops := by
    intro i oi d h1 h2 h3 h4
    have hik : i ≠ k := fun e => hA (e ▸ h1)
    rcases hI.apart1 i (hI.pend i h1 h2) k o oi d ho h3 (Ne.symm hik) (.inl hA) h4 with hw' | hn
    · exact absurd (hdep i hw') h2
    · exact hn
  have hwT : Region.wanted o (yielded ops T2) = Region.wanted o (ayielded ops X.tm) := wanted_congr fun j _ _ => yielded_all g1 j
  have hwa : Region.wanted o (yielded ops a.tmps) = Region.wanted o (ayielded ops X.tm) := by
    rw [← hwT]
    refine wanted_congr fun j wnt hg => ?_
    unfold yielded
    cases hs : (ops[j]?).bind (·.dst) with
    | none => rfl
    | some s =>
      have hmem : s ∈ o.looksAt ops := by
        refine List.mem_append_right _ ?_
        simp only [hg, hs]
        simp
      have := g3 s fun i oi h1 h2 h3 h4 => hlook i oi s h1 h2 h3 h4 hmem
      simp only [Option.bind_some, this]
  have hlt : k < cl.size := by rw [hI.szc]; exact (Array.getElem?_eq_some_iff.1 ho).1
  have hltA : k < X.al.size := by rw [hI.sza, ← hI.szc]; exact hlt
  have hC' : ∀ j, Is (cl.setIfInBounds k true) j ↔ j = k ∨ Is cl j := fun j => by
    rw [Is.set]
    constructor
    · rintro (⟨rfl, _⟩ | hj)
      · exact .inl rfl
      · exact .inr hj
    · rintro (rfl | hj)
      · exact .inl ⟨rfl, hlt⟩
      · exact .inr hj
  have hA' : ∀ j, Is (X.al.setIfInBounds k true) j ↔ j = k ∨ Is X.al j := fun j => by
    rw [Is.set]
    constructor
    · rintro (⟨rfl, _⟩ | hj)
      · exact .inl rfl
      · exact .inr hj
    · rintro (rfl | hj)
      · exact .inl ⟨rfl, hltA⟩
      · exact .inr hj
  have hdone : ∀ i ∈ doneBy ops k, Is cl i := done_in hI.down fun j hj => hdep j ((mem_deps ho).1 hj)
  have hsub : ∀ e, e ∈ X.early.filter (fun e => !(doneBy ops k).contains e) → e ∈ X.early := fun e he => (List.mem_filter.1 he).1
  have go : Region.wanted o (ayielded ops X.tm) = true → execOp a.eval o = execOp ({ tmps := T2, defers := a.defers } : Act).eval o :=
    fun hq => (same_op (X := X) (cl := cl) ho hlook g2 g3 (hst.1 hq).calm.1).1
  have hKK : ∀ v h' u β' w', K0 v h' → Inj.le β β' → VR β' v u → WR w0 β' h' w' → K (a.put o.dst u) w' := by
    intro v h' u β' w' q0 q1 q2 q3
    refine hK v h' β' _ w' q0 q1 q3 (put_defers _ _ _) fun hre' => ?_
    refine ⟨by simp [hI.szc], by simp [hI.sza], ?_, ?_, ?_, ?_, ?_, ?_, ?_, ?_, ?_, ?_⟩
    · intro i hi
      rcases (hC' i).1 hi with rfl | hi
      · exact (hA' _).2 (.inl rfl)
      · exact (hA' _).2 (.inr (hI.sub i hi))
    · intro i h1 h2
      rcases (hA' i).1 h1 with rfl | h1
      · exact absurd ((hC' _).2 (.inl rfl)) h2
      · have hnc : ¬ Is cl i := fun hc => h2 ((hC' i).2 (.inr hc))
        refine List.mem_filter.2 ⟨hI.pend i h1 hnc, ?_⟩
        have : i ∉ doneBy ops k := fun hd => hnc (hdone i hd)
        simpa using this
    · intro e he
      exact (hA' _).2 (.inr (hI.earlyA e (hsub e he)))
    · intro e he oe hoe
      exact hre' e he oe hoe
    · intro e he oe d hoe hd
      exact hI.own e (hsub e he) oe d hoe hd
    · intro e he j oj oe d hoj hoe hne hj hd
      rcases hj with hj | hj
      · exact hI.apart1 e (hsub e he) j oj oe d hoj hoe hne (.inl fun hq => hj ((hA' j).2 (.inr hq))) hd
      · exact hI.apart1 e (hsub e he) j oj oe d hoj hoe hne (.inr (hsub j hj)) hd
    · intro e he f hf hne
      exact hI.dst2 e (hsub e he) f (hsub f hf) hne
    · intro i oi hi hoi j hj
      rcases (hC' i).1 hi with rfl | hi
      · rw [ho] at hoi; cases hoi
        exact (hC' j).2 (.inr (hdep j hj))
      · exact (hC' j).2 (.inr (hI.down i oi hi hoi j hj))
    · intro i oi hi hoi j hj
      rcases (hA' i).1 hi with hi | hi
      · rw [hi, ho] at hoi; cases hoi
        exact (hA' j).2 (.inr (hI.sub j (hdep j hj)))
      · exact (hA' j).2 (.inr (hI.downA i oi hi hoi j hj))
    · refine ⟨(({ tmps := T2, defers := [] } : Act).put o.dst u).tmps, aput_rel (a := { tmps := T2, defers := [] }) (g1.mono q1) o.dst q2, by rw [put_size, put_size]; exact g2, fun s hs => ?_⟩
      by_cases hds : o.dst = some s
      · rw [hds]
        simp only [Act.put]
        rw [Array.getElem?_setIfInBounds, Array.getElem?_setIfInBounds, g2]; simp
      · rw [put_get _ o.dst u s hds, put_get _ o.dst u s hds]
        refine g3 s fun i oi h1 h2 h3 => ?_
        have hik : i ≠ k := fun e => hA (e ▸ h1)
        exact hs i oi ((hA' i).2 (.inr h1)) (fun hc => by rcases (hC' i).1 hc with e | hc; exact hik e; exact h2 hc) h3
  exact step_sound hF ho hst hw (a2 := { tmps := T2, defers := a.defers }) g1 go hwa hKK
end
end X
end
end Go.AE

/- Regions that draw their order, by a plan; code. -/
namespace Go.AE
noncomputable section
open Go.RowKit
namespace X

def runW (P : Program) (ops : Array Oper) : List Stp → List Value → AH → (List Value → AH → Prop) → Prop
  | [], tm, h, K => K tm h
  | .take i :: r, tm, h, K => ∃ o v, ops[i]? = some o ∧ xread P ops tm h o = some v ∧ runW P ops r (aput tm o.dst v) h K
  | .eff i keep :: r, tm, h, K => ∃ o, ops[i]? = some o ∧ StepW P ops tm h o (fun v h' => (∀ e ∈ keep, Recheck P ops (aput tm o.dst v) h' e) ∧ runW P ops r (aput tm o.dst v) h' K)
def seqW (P : Program) (ops : Array Oper) : List Nat → List Value → AH → (List Value → AH → Prop) → Prop
  | [], tm, h, K => K tm h
  | i :: r, tm, h, K => ∃ o, ops[i]? = some o ∧ StepW P ops tm h o (fun v h' => seqW P ops r (aput tm o.dst v) h' K)

section
variable {P : Program} {w0 w : World} {β : Inj} {h : AH} {tm : List Value} {F : Fence} {n : Nat} {ops : Array Oper} {Q : Exit → Act → World → Prop}

theorem Inv.done {cl : Array Bool} {X : RS} {a : Act} (hI : Inv P ops β cl X h a) (hac : acyclic ops = true) (hr : Region.ready .any ops cl = []) : Region.ready .any ops X.al = [] ∧ AR β X.tm.toArray a.tmps := by
  have all : ∀ i, Is X.al i → Is cl i := by
    intro i
    induction i using Nat.strongRecOn with
    | _ i ih =>
      intro hA
      by_cases hc : Is cl i
      · exact hc
      · exfalso
        cases ho : ops[i]? with
        | none =>
          have : ¬ i < ops.size := fun hlt => by rw [Array.getElem?_eq_getElem hlt] at ho; cases ho
          unfold Is at hA
          rw [Array.getD_eq_getD_getElem?, Array.getElem?_eq_none (by rw [hI.sza]; omega)] at hA
          simp at hA
        | some o =>
          have hlt : i < ops.size := (Array.getElem?_eq_some_iff.1 ho).1
          have hdep : ∀ j, Waits j o → Is cl j := fun j hj => by
            have hji : j < i := by
              have h1 := List.all_eq_true.1 hac i (List.mem_range.2 hlt)
              have h2 := List.all_eq_true.1 h1 j ((mem_deps ho).2 hj)
              exact of_decide_eq_true h2
            exact ih j hji (hI.downA i o hA ho j hj)
          have : i ∈ Region.ready .any ops cl := (ready_iff hI.szc).2 ⟨o, ho, hc, hdep⟩
          rw [hr] at this
          cases this
  refine ⟨?_, ?_⟩
  · cases hq : Region.ready .any ops X.al with
    | nil => rfl
    | cons k r =>
      exfalso
      have hk : k ∈ Region.ready .any ops X.al := by rw [hq]; simp
      obtain ⟨o, ho, h1, h2⟩ := (ready_iff hI.sza).1 hk
      have : k ∈ Region.ready .any ops cl := (ready_iff hI.szc).2 ⟨o, ho, fun hc => h1 (hI.sub k hc), fun j hj => all j (h2 j hj)⟩
      rw [hr] at this
      cases this
  · obtain ⟨T2, g1, g2, g3⟩ := hI.ghost
    have : T2 = a.tmps := by
      apply Array.ext g2
      intro i h1 h2
      have := g3 i fun j o q1 q2 => absurd (all j q1) q2
      rw [Array.getElem?_eq_getElem h1, Array.getElem?_eq_getElem h2] at this
      exact Option.some.inj this
    rw [← this]
    exact g1
theorem run_sound (hF : Wide F) (hac : acyclic ops = true) (ds : List Deferred) {K : List Value → AH → Prop} : ∀ (fuel : Nat) (stps : List Stp) (al : Array Bool) (early : List Nat) (tm : List Value) (h : AH) (cl : Array Bool) (β : Inj) (a : Act) (w : World),
    planOk ops stps al early = true → runW P ops stps tm h K → Inv P ops β cl ⟨al, early, tm⟩ h a → WR w0 β h w → a.defers = ds → cl.toList.count false ≤ fuel →
    (∀ tm' h' β' (a' : Act) w', K tm' h' → Inj.le β β' → AR β' tm'.toArray a'.tmps → a'.defers = ds → WR w0 β' h' w' → Q .normal a' w') → wpAnyIn F n P .any ops Q fuel cl a w := by
  intro fuel
  induction fuel with
  | zero =>
    intro stps
    induction stps with
    | nil =>
      intro al early tm h cl β a w hp hv hI hw hd hcnt hQ
      have hr : Region.ready .any ops cl = [] := by
        cases hq : Region.ready .any ops cl with
        | nil => rfl
        | cons i r =>
          exfalso
          have hi : i ∈ Region.ready .any ops cl := by rw [hq]; simp
          have h1 := (mem_ready.1 hi).1
          rw [count_zero (by omega) i] at h1
          cases h1
      obtain ⟨q1, q2⟩ := hI.done hac hr
      exact ⟨hr, hQ _ _ β a w hv (Inj.le.refl _) q2 hd hw⟩
    | cons s r ih =>
      intro al early tm h cl β a w hp hv hI hw hd hcnt hQ
      cases s with
      | take i =>
        simp only [planOk, Bool.and_eq_true] at hp
        obtain ⟨⟨⟨⟨p1, p2⟩, p3⟩, p4⟩, p5⟩ := hp
        obtain ⟨o, v, ho, hrd, hv⟩ := hv
        exact ih _ _ _ h cl β a w p5 hv (hI.take hw (by simpa using p2) ho p3 p4 hrd) hw hd hcnt hQ
      | eff i keep =>
        exfalso
        simp only [planOk, Bool.and_eq_true] at hp
        have hr : Region.ready .any ops cl = [] := by
          cases hq : Region.ready .any ops cl with
          | nil => rfl
          | cons i r =>
            exfalso
            have hi : i ∈ Region.ready .any ops cl := by rw [hq]; simp
            have h1 := (mem_ready.1 hi).1
            rw [count_zero (by omega) i] at h1
            cases h1
        obtain ⟨q1, q2⟩ := hI.done hac hr
        have : Region.ready .any ops al = [i] := by simpa using hp.1.1
        simp only at q1
        rw [q1] at this
        cases this
  | succ fuel ihf =>
    intro stps
    induction stps with
    | nil =>
      intro al early tm h cl β a w hp hv hI hw hd hcnt hQ
      have hv0 := hv
      refine ⟨fun hr => ?_, fun k hk => ?_⟩
      · obtain ⟨q1, q2⟩ := hI.done hac hr
        exact hQ _ _ β a w hv (Inj.le.refl _) q2 hd hw
      · obtain ⟨o, ho, hC, hdep⟩ := (ready_iff hI.szc).1 hk
        have hlt : k < cl.size := by rw [hI.szc]; exact (Array.getElem?_eq_some_iff.1 ho).1
        have hcnt' := cnt_step hlt hC hcnt
        by_cases hA : Is al k
        · exact hI.step_pending hw hF hk hA fun a' hI' hd' => ihf [] al early tm h _ β a' w hp hv0 hI' hw (hd'.trans hd) hcnt' hQ
        · exfalso
          have hiA : k ∈ Region.ready .any ops al := (ready_iff hI.sza).2 ⟨o, ho, hA, fun j hj => hI.sub j (hdep j hj)⟩
          have : Region.ready .any ops al = [] := by simpa [planOk] using hp
          rw [this] at hiA
          cases hiA
    | cons s r ih =>
      intro al early tm h cl β a w hp hv hI hw hd hcnt hQ
      cases s with
      | take i =>
        simp only [planOk, Bool.and_eq_true] at hp
        obtain ⟨⟨⟨⟨p1, p2⟩, p3⟩, p4⟩, p5⟩ := hp
        obtain ⟨o, v, ho, hrd, hv⟩ := hv
        exact ih _ _ _ h cl β a w p5 hv (hI.take hw (by simpa using p2) ho p3 p4 hrd) hw hd hcnt hQ
      | eff i keep =>
        have hp0 := hp
        have hv0 := hv
        simp only [planOk, Bool.and_eq_true] at hp
        obtain ⟨⟨p1, p2⟩, p3⟩ := hp
        have p1' : Region.ready .any ops al = [i] := by simpa using p1
        have p2' : keep = early.filter fun e => !(doneBy ops i).contains e := eq_of_beq p2
        refine ⟨fun hr => ?_, fun k hk => ?_⟩
        · exfalso
          obtain ⟨q1, q2⟩ := hI.done hac hr
          simp only at q1
          rw [q1] at p1'
          cases p1'
        · obtain ⟨o, ho, hC, hdep⟩ := (ready_iff hI.szc).1 hk
          have hlt : k < cl.size := by rw [hI.szc]; exact (Array.getElem?_eq_some_iff.1 ho).1
          have hcnt' := cnt_step hlt hC hcnt
          by_cases hA : Is al k
          · exact hI.step_pending hw hF hk hA fun a' hI' hd' => ihf (.eff i keep :: r) al early tm h _ β a' w hp0 hv0 hI' hw (hd'.trans hd) hcnt' hQ
          · have hiA : k ∈ Region.ready .any ops al := (ready_iff hI.sza).2 ⟨o, ho, hA, fun j hj => hI.sub j (hdep j hj)⟩
            rw [p1'] at hiA
            have hki : k = i := List.mem_singleton.1 hiA
            subst hki
            obtain ⟨o', ho', hst⟩ := hv
            rw [ho] at ho'; cases ho'
            refine hI.step_effect hw hF hk hA ho hst fun v h' β' a' w' r0 r1 r2 r3 r4 => ?_
            obtain ⟨hre, hv'⟩ := r0
            rw [p2'] at hre
            have hI' := r4 hre
            rw [← p2'] at hI'
            exact ihf r _ _ _ h' _ β' a' w' p3 hv' hI' r2 (r3.trans hd) hcnt' fun tm2 h2 β2 a2 w2 t0 t1 t2 t3 t4 => hQ tm2 h2 β2 a2 w2 t0 (r1.trans t1) t2 t3 t4
end
end X
end
end Go.AE

/- One operation as a condition on what must hold behind it: the parts of values are named by their types. -/
namespace Go.AE
noncomputable section
open Go.RowKit

def iteB (b : Bool) (X Y : Prop) : Prop := match b with | true => X | false => Y
theorem iteB_iff {b : Bool} {X Y : Prop} : iteB b X Y ↔ (b = true → X) ∧ (b = false → Y) := by cases b <;> simp [iteB]

/-- The types of the cells of a value. -/
def catTimes (l : List TypeId) : Nat → List TypeId
  | 0 => []
  | n + 1 => l ++ catTimes l n
def leafs (P : Program) : Nat → TypeId → List TypeId
  | 0, t => [t]
  | d + 1, t => match P.underlying t with
    | some (.struct fs) => fs.toList.flatMap fun f => leafs P d f.type
    | some (.array n e) => catTimes (leafs P d e) n
    | _ => [t]
/-- Some value of a type that is one cell. -/
def leafT (P : Program) (t : TypeId) (f : Value → Prop) : Prop :=
  match P.underlying t with
  | some (.int k) => ∃ n : Int, f (.int k n)
  | some .bool => ∃ b : Bool, f (.bool b)
  | some .string => ∃ s : ByteArray, f (.string s)
  | some (.pointer _) => ∃ p : Option Addr, f (.pointer p)
  | some (.slice _) => ∃ (p : Option Addr) (l c : Nat), f (.slice p l c)
  | some (.map _ _) => ∃ r : Option Nat, f (.map r)
  | _ => ∃ v : Value, f v
def leafsT (P : Program) : List TypeId → List Value → (List Value → Prop) → Prop
  | [], acc, f => f acc
  | t :: r, acc, f => leafT P t fun v => leafsT P r (acc ++ [v]) f
/-- Some value of a type. -/
def asT (P : Program) (t : TypeId) (f : Value → Prop) : Prop :=
  match P.underlying t with
  | some (.struct fs) => leafsT P (leafs P 9 t) [] fun l => f (.agg l.toArray)
  | some (.array n e) => leafsT P (leafs P 9 t) [] fun l => f (.agg l.toArray)
  | some (.tuple ts) => tupT ts.toList [] fun l => f (.tuple l.toArray)
  | _ => leafT P t f
where
  tupT : List TypeId → List Value → (List Value → Prop) → Prop
  | [], acc, f => f acc
  | t :: r, acc, f =>
    match P.underlying t with
    | some (.struct fs) => leafsT P (leafs P 9 t) [] fun l => tupT r (acc ++ [.agg l.toArray]) f
    | some (.array n e) => leafsT P (leafs P 9 t) [] fun l => tupT r (acc ++ [.agg l.toArray]) f
    | _ => leafT P t fun v => tupT r (acc ++ [v]) f

section
variable {P : Program}
theorem leafT_ex {t : TypeId} {f : Value → Prop} (h : leafT P t f) : ∃ v, f v := by
  unfold leafT at h
  split at h
  · obtain ⟨n, h⟩ := h; exact ⟨_, h⟩
  · obtain ⟨n, h⟩ := h; exact ⟨_, h⟩
  · obtain ⟨n, h⟩ := h; exact ⟨_, h⟩
  · obtain ⟨n, h⟩ := h; exact ⟨_, h⟩
  · obtain ⟨p, l, c, h⟩ := h; exact ⟨_, h⟩
  · obtain ⟨n, h⟩ := h; exact ⟨_, h⟩
  · exact h
theorem leafsT_ex : ∀ {l : List TypeId} {acc : List Value} {f : List Value → Prop}, leafsT P l acc f → ∃ v, f v
  | [], acc, f, h => ⟨acc, h⟩
  | t :: r, acc, f, h => let ⟨v, hv⟩ := leafT_ex h; leafsT_ex hv
theorem tupT_ex : ∀ {l : List TypeId} {acc : List Value} {f : List Value → Prop}, asT.tupT P l acc f → ∃ v, f v
  | [], acc, f, h => ⟨acc, h⟩
  | t :: r, acc, f, h => by
    unfold asT.tupT at h
    split at h
    · obtain ⟨v, hv⟩ := leafsT_ex h; exact tupT_ex hv
    · obtain ⟨v, hv⟩ := leafsT_ex h; exact tupT_ex hv
    · obtain ⟨v, hv⟩ := leafT_ex h; exact tupT_ex hv
theorem asT_ex {t : TypeId} {f : Value → Prop} (h : asT P t f) : ∃ v, f v := by
  unfold asT at h
  split at h
  · obtain ⟨v, hv⟩ := leafsT_ex h; exact ⟨_, hv⟩
  · obtain ⟨v, hv⟩ := leafsT_ex h; exact ⟨_, hv⟩
  · obtain ⟨v, hv⟩ := tupT_ex h; exact ⟨_, hv⟩
  · exact leafT_ex h
end

/-! ### operands -/
def valT (tm : List Value) (x : Operand) (k : Value → Prop) : Prop :=
  match x with
  | .tmp t => k (lget tm undef t)
  | .const v => (match ground 8 v with | true => k v | false => False)
  | .global g => k (.pointer (some ⟨g, 0, some 0⟩))
  | .func f => k (.func (.func f) #[] #[])
theorem valT_ex {tm : List Value} {x : Operand} {k : Value → Prop} (h : valT tm x k) : ∃ v, aeval tm x = some v ∧ k v := by
  cases x with
  | tmp t => exact ⟨_, rfl, h⟩
  | const v =>
    simp only [valT] at h
    split at h
    · rename_i hg; exact ⟨v, by simp [aeval, hg], h⟩
    · exact h.elim
  | global g => exact ⟨_, rfl, h⟩
  | func f => exact ⟨_, rfl, h⟩
def valsT (tm : List Value) : List Operand → List Value → (List Value → Prop) → Prop
  | [], acc, k => k acc
  | x :: r, acc, k => valT tm x fun v => valsT tm r (acc ++ [v]) k
theorem valsT_ex {tm : List Value} : ∀ {l : List Operand} {acc : List Value} {k : List Value → Prop}, valsT tm l acc k → ∃ r, aevals tm l = some r ∧ k (acc ++ r)
  | [], acc, k, h => ⟨[], rfl, by rw [List.append_nil]; exact h⟩
  | x :: l, acc, k, h => by
    obtain ⟨v, hv, h⟩ := valT_ex h
    obtain ⟨r, hr, h⟩ := valsT_ex h
    exact ⟨v :: r, by rw [aevals_cons, hv, hr], by simpa using h⟩
def partsT (tm : List Value) : List (Nat × Operand) → List (Nat × Value) → (List (Nat × Value) → Prop) → Prop
  | [], acc, k => k acc
  | (i, x) :: r, acc, k => valT tm x fun v => partsT tm r (acc ++ [(i, v)]) k
theorem partsT_ex {tm : List Value} : ∀ {l : List (Nat × Operand)} {acc : List (Nat × Value)} {k : List (Nat × Value) → Prop}, partsT tm l acc k → ∃ r, aparts tm l = some r ∧ k (acc ++ r)
  | [], acc, k, h => ⟨[], rfl, by rw [List.append_nil]; exact h⟩
  | (i, x) :: l, acc, k, h => by
    obtain ⟨v, hv, h⟩ := valT_ex h
    obtain ⟨r, hr, h⟩ := partsT_ex h
    exact ⟨(i, v) :: r, by simp only [aparts, hv, hr], by simpa using h⟩
def ovalT (tm : List Value) (x : Option Operand) (k : Option Value → Prop) : Prop :=
  match x with
  | none => k none
  | some x => valT tm x fun v => k (some v)
theorem ovalT_ex {tm : List Value} {x : Option Operand} {k : Option Value → Prop} (h : ovalT tm x k) : ∃ v, oval tm x = some v ∧ k v := by
  cases x with
  | none => exact ⟨none, rfl, h⟩
  | some x =>
    obtain ⟨v, hv, h⟩ := valT_ex (show valT tm x (fun v => k (some v)) from h)
    exact ⟨some v, by simp [oval, hv], h⟩

/-! ### reading operations -/
/-- A part of a value: its cells from a place on. -/
def partT (P : Program) (t : TypeId) (cs : List Value) (off : Nat) (k : Value → Prop) : Prop :=
  match P.underlying t with
  | none => False
  | some d => (match isAggD d with
    | true => (match P.info? t with | some i => k (.agg ((cs.drop off).take i.size).toArray) | none => False)
    | false => (match cs.drop off with | v :: _ => k v | [] => False))
theorem extract_drop (a : Array Value) (o n : Nat) : a.extract o (o + n) = ((a.toList.drop o).take n).toArray := by
  apply Array.ext'
  simp [List.extract_eq_take_drop]
theorem partT_ex {P : Program} {t : TypeId} {cs : Array Value} {off : Nat} {k : Value → Prop} (h : partT P t cs.toList off k) : ∃ v, apart P t cs off = some v ∧ k v := by
  unfold partT at h
  unfold apart
  split at h
  · exact h.elim
  · rename_i d hd
    split at h
    · rename_i ha
      split at h
      · rename_i i hi
        rw [hd]
        simp only [ha, if_true, hi]
        exact ⟨_, rfl, by rw [extract_drop]; exact h⟩
      · exact h.elim
    · rename_i ha
      split at h
      · rename_i v r hv
        rw [hd]
        simp only [ha, if_false, Bool.false_eq_true]
        refine ⟨v, ?_, h⟩
        have := congrArg (·[0]?) hv
        simp only [List.getElem?_drop, List.getElem?_cons_zero, Nat.add_zero] at this
        simpa using this
      · exact h.elim

inductive NonNil : Value → Prop
  | ptr (b o : Nat) : NonNil (.pointer (some ⟨b, o, none⟩))
  | eld (b o : Nat) : NonNil (.pointer (some ⟨b, o, some 0⟩))
  | func (f : FuncId) (u v : Array Value) : NonNil (.func (.func f) u v)

def intT (op : BinOp) (k k' : IntKind) (a b : Int) (f : Value → Prop) : Prop :=
  match op with
  | .shl => (match decide (b < 0) with | true => False | false => f (.int k (k.wrap (a * 2 ^ (min b.toNat k.bits)))))
  | .shr => (match decide (b < 0) with | true => False | false => f (.int k (a.fdiv (2 ^ (min b.toNat k.bits)))))
  | op => (match decide (k = k') with
    | false => False
    | true => (match op with
      | .quo => (match decide (b = 0) with | true => False | false => f (.int k (k.wrap (a.tdiv b))))
      | .rem => (match decide (b = 0) with | true => False | false => f (.int k (a.tmod b)))
      | .add => f (.int k (k.wrap (a + b)))
      | .sub => f (.int k (k.wrap (a - b)))
      | .mul => f (.int k (k.wrap (a * b)))
      | .and => f (.int k (k.wrap (BitVec.ofInt k.bits a &&& BitVec.ofInt k.bits b).toNat))
      | .or => f (.int k (k.wrap (BitVec.ofInt k.bits a ||| BitVec.ofInt k.bits b).toNat))
      | .xor => f (.int k (k.wrap (BitVec.ofInt k.bits a ^^^ BitVec.ofInt k.bits b).toNat))
      | .andNot => f (.int k (k.wrap (BitVec.ofInt k.bits a &&& ~~~BitVec.ofInt k.bits b).toNat))
      | .eql => f (.bool (decide (a = b)))
      | .neq => f (.bool (!decide (a = b)))
      | .lss => f (.bool (decide (a < b)))
      | .leq => f (.bool (decide (a ≤ b)))
      | .gtr => f (.bool (decide (b < a)))
      | .geq => f (.bool (decide (b ≤ a)))
      | _ => False))
theorem int_beq (a b : Int) : (a == b) = decide (a = b) := by
  by_cases h : a = b <;> simp [h]
theorem intT_ex {P : Program} {op : BinOp} {t : TypeId} {k k' : IntKind} {a b : Int} {f : Value → Prop} (h : intT op k k' a b f) : ∃ v, xbin P op t (.int k a) (.int k' b) = some v ∧ f v := by
  unfold intT at h
  split at h
  · split at h
    · exact h.elim
    · rename_i hb; exact ⟨_, by simp only [xbin]; rw [if_neg (of_decide_eq_false hb)], h⟩
  · split at h
    · exact h.elim
    · rename_i hb; exact ⟨_, by simp only [xbin]; rw [if_neg (of_decide_eq_false hb)], h⟩
  · split at h
    · exact h.elim
    · rename_i hk
      have hk : k = k' := of_decide_eq_true hk
      split at h <;> first
        | (exact h.elim; done)
        | (exact ⟨_, by simp only [xbin, int_beq, bne]; rw [if_pos hk], h⟩; done)
        | (split at h
           · exact h.elim
           · rename_i hb; exact ⟨_, by simp only [xbin]; rw [if_pos hk, if_neg (of_decide_eq_false hb)], h⟩)
def strT (op : BinOp) (a b : ByteArray) (f : Value → Prop) : Prop :=
  match op with
  | .add => a.data.size + b.data.size ≤ 4611686018427387904 ∧ f (.string (a ++ b))
  | .eql => f (.bool (a.data.toList == b.data.toList))
  | .neq => f (.bool (!(a.data.toList == b.data.toList)))
  | .lss => f (.bool (Op.bytesLess a.data.toList b.data.toList))
  | .leq => f (.bool (Op.bytesLess a.data.toList b.data.toList || (a.data.toList == b.data.toList)))
  | .gtr => f (.bool (!(Op.bytesLess a.data.toList b.data.toList || (a.data.toList == b.data.toList))))
  | .geq => f (.bool (!(Op.bytesLess a.data.toList b.data.toList)))
  | _ => False
theorem strT_ex {P : Program} {op : BinOp} {t : TypeId} {a b : ByteArray} {f : Value → Prop} (h : strT op a b f) : ∃ v, xbin P op t (.string a) (.string b) = some v ∧ f v := by
  cases op <;> simp only [strT] at h
  case add => exact ⟨_, by simp only [xbin]; rw [if_pos h.1], h.2⟩
  all_goals first | exact h.elim | exact ⟨_, by simp only [xbin]; rfl, h⟩
/-- A function value against nil. -/
def fnil (x y : Value) : Option Bool :=
  match x, y with
  | .nilFunc, .nilFunc => some true
  | .nilFunc, .func _ _ _ => some false
  | .func _ _ _, .nilFunc => some false
  | _, _ => none
theorem fnil_peq {a b : Array TypeId} {c : Bool} {x y : Value} {q : Bool} (h : fnil x y = some q) : peq (some (.func a b c)) x y = some q := by
  unfold fnil at h
  split at h <;> first | (cases h; done) | (cases h; rfl)
def binT (P : Program) (op : BinOp) (t : TypeId) (x y : Value) (f : Value → Prop) : Prop :=
  match P.underlying t with
  | some (.int _) => (match x, y with | .int k a, .int k' b => intT op k k' a b f | _, _ => False)
  | some .string => (match x, y with | .string a, .string b => strT op a b f | _, _ => False)
  | some (.struct _) => (match x, y, op with
    | .agg xs, .agg ys, .eql => (match P.eqGuardType P.depth t, eqV P 9 t (.agg xs) (.agg ys) with | false, some b => f (.bool b) | _, _ => False)
    | .agg xs, .agg ys, .neq => (match P.eqGuardType P.depth t, eqV P 9 t (.agg xs) (.agg ys) with | false, some b => f (.bool !b) | _, _ => False)
    | _, _, _ => False)
  | some .bool => (match x, y, op with
    | .bool a, .bool b, .eql => f (.bool (a == b))
    | .bool a, .bool b, .neq => f (.bool !(a == b))
    | _, _, _ => False)
  | some (.pointer _) => (match x, y, op with
    | .pointer p, .pointer none, .eql => f (.bool p.isNone)
    | .pointer p, .pointer none, .neq => f (.bool !p.isNone)
    | .pointer none, .pointer p, .eql => f (.bool p.isNone)
    | .pointer none, .pointer p, .neq => f (.bool !p.isNone)
    | _, _, _ => False)
  | some (.slice _) => (match x, y, op with
    | .slice p _ _, .slice none _ _, .eql => f (.bool p.isNone)
    | .slice p _ _, .slice none _ _, .neq => f (.bool !p.isNone)
    | _, _, _ => False)
  | some (.map _ _) => (match x, y, op with
    | .map p, .map none, .eql => f (.bool p.isNone)
    | .map p, .map none, .neq => f (.bool !p.isNone)
    | _, _, _ => False)
  | some (.func a b c) => (match op with
    | .eql => ∃ q, fnil x y = some q ∧ f (.bool q)
    | .neq => ∃ q, fnil x y = some q ∧ f (.bool !q)
    | _ => False)
  | _ => False
theorem binT_ex {P : Program} {op : BinOp} {t : TypeId} {x y : Value} {f : Value → Prop} (h : binT P op t x y f) : ∃ v, xbin P op t x y = some v ∧ f v := by
  unfold binT at h
  split at h
  · split at h
    · exact intT_ex h
    · exact h.elim
  · split at h
    · exact strT_ex h
    · exact h.elim
  · split at h
    · split at h
      · rename_i hg he; exact ⟨_, by simp only [xbin, hg, he, if_false, Bool.false_eq_true], h⟩
      · exact h.elim
    · split at h
      · rename_i hg he; exact ⟨_, by simp only [xbin, hg, he, if_false, Bool.false_eq_true], h⟩
      · exact h.elim
    · exact h.elim
  · rename_i hd
    split at h
    · exact ⟨_, by simp only [xbin, eqV, hd], h⟩
    · exact ⟨_, by simp only [xbin, eqV, hd], h⟩
    · exact h.elim
  · rename_i hd
    split at h
    · rename_i p; exact ⟨_, by cases p <;> simp only [xbin, hd, peq], h⟩
    · rename_i p; exact ⟨_, by cases p <;> simp only [xbin, hd, peq], h⟩
    · rename_i p _; exact ⟨_, by cases p <;> simp only [xbin, hd, peq], h⟩
    · rename_i p _; exact ⟨_, by cases p <;> simp only [xbin, hd, peq], h⟩
    · exact h.elim
  · rename_i hd
    split at h
    · rename_i p _ _ _ _; exact ⟨_, by cases p <;> simp only [xbin, hd, peq], h⟩
    · rename_i p _ _ _ _; exact ⟨_, by cases p <;> simp only [xbin, hd, peq], h⟩
    · exact h.elim
  · rename_i hd
    split at h
    · rename_i p; exact ⟨_, by cases p <;> simp only [xbin, hd, peq], h⟩
    · rename_i p; exact ⟨_, by cases p <;> simp only [xbin, hd, peq], h⟩
    · exact h.elim
  · rename_i a b c hd
    split at h
    · obtain ⟨q, hq, h⟩ := h
      refine ⟨_, ?_, h⟩
      have hp := fnil_peq (a := a) (b := b) (c := c) hq
      unfold fnil at hq
      split at hq <;> first | (simp only [xbin, hd, hp]; done) | (cases hq; done)
    · obtain ⟨q, hq, h⟩ := h
      refine ⟨_, ?_, h⟩
      have hp := fnil_peq (a := a) (b := b) (c := c) hq
      unfold fnil at hq
      split at hq <;> first | (simp only [xbin, hd, hp]; done) | (cases hq; done)
    · exact h.elim
  · exact h.elim
end
end Go.AE
