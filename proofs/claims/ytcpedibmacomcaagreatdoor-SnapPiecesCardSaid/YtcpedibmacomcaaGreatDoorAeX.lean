/- A part of the proof of SnapPieces. Conditions: those of the card. -/
import Derived.Test.YtcpedibmacomcaaGreatDoorAeW

/- Reading operations as conditions. -/
namespace Go.AE
noncomputable section
open Go.RowKit

def xload (P : Program) (h : AH) (t : TypeId) (v : Value) : Option Value := match eload P h t v with | some v => some v | none => aload P h t v
def xfieldAddr (P : Program) (t : TypeId) (v : Value) (f : Nat) : Option Value := match efieldAddr P t v f with | some v => some v | none => afieldAddr P t v f
def xindexAddr (P : Program) (t : TypeId) (x i : Value) : Option Value := match eindexAddr P t x i with | some v => some v | none => aindexAddr P t x i
def xslice (P : Program) (h : AH) (t : TypeId) (x : Value) (lo hi mx : Option Value) : Option Value := match eslice P t x lo hi mx with | some v => some v | none => aslice P h t x lo hi mx

/-- The address of a part. -/
def fldP (p : Option Addr) (n : Nat) : Option Addr := match p with | some a => some ⟨a.block, a.off + n, a.spot⟩ | none => none
/-- The address of a field. -/
def fldT (P : Program) (t : TypeId) (x : Value) (f : Nat) (k : Value → Prop) : Prop :=
  match P.underlying t with
  | some (.struct fields) => (match fields[f]? with
    | some fd => (match P.info? fd.type with
      | some i => (match i.size with
        | 0 => False
        | _ => (match x with
          | .pointer p => NonNil (.pointer p) ∧ k (.pointer (fldP p fd.offset))
          | _ => False))
      | none => False)
    | none => False)
  | _ => False
def convT (P : Program) (src dst : TypeId) (x : Value) (k : Value → Prop) : Prop :=
  match P.underlying dst, P.underlying src, x with
  | some (.int K), some (.int _), .int _ n => k (.int K (K.wrap n))
  | some .string, some .string, .string s => k (.string s)
  | _, _, _ => False
def convHT (P : Program) (h : AH) (src dst : TypeId) (x : Value) (k : Value → Prop) : Prop :=
  match P.underlying dst, P.underlying src with
  | some .string, some (.slice e) => (match P.underlying e with | some (.int .u8) => ∃ s, xstr h x = some (.string s) ∧ k (.string s) | _ => False)
  | _, _ => convT P src dst x k
def unT (op : UnOp) (x : Value) (k : Value → Prop) : Prop :=
  match op, x with
  | .neg, .int K n => k (.int K (K.wrap (0 - n)))
  | .xor, .int K n => k (.int K (K.wrap (BitVec.ofInt K.bits (if K.signed then -1 else K.max) ^^^ BitVec.ofInt K.bits n).toNat))
  | .not, .bool b => k (.bool !b)
  | _, _ => False
def lenT (P : Program) (h : AH) (t : TypeId) (x : Value) (k : Value → Prop) : Prop :=
  match P.underlying t with
  | some .string => (match x with | .string s => k (.int .i64 (s.data.size : Nat)) | _ => False)
  | some (.slice _) => (match x with | .slice _ n _ => k (.int .i64 (n : Nat)) | _ => False)
  | some (.array n _) => k (.int .i64 (n : Nat))
  | _ => ∃ n : Nat, alen P h t x = some (.int .i64 n) ∧ k (.int .i64 n)
def indexT (P : Program) (t ty : TypeId) (x i : Value) (k : Value → Prop) : Prop :=
  match P.underlying t with
  | some .string => (match x, i with | .string s, .int _ n => (0 ≤ n ∧ n.toNat < s.data.size) ∧ k (.int .u8 (s.data.toList.getD n.toNat 0).toNat) | _, _ => False)
  | _ => asT P ty fun v => aindex P t x i = some v ∧ k v
def fieldT (P : Program) (t : TypeId) (x : Value) (f : Nat) (k : Value → Prop) : Prop :=
  match P.underlying t, x with
  | some (.struct fields), .agg cs => (match fields[f]? with | some fd => partT P fd.type cs.toList fd.offset k | none => False)
  | _, _ => False
def extT (x : Value) (i : Nat) (k : Value → Prop) : Prop :=
  match x with
  | .tuple vs => (match vs.toList.drop i with | v :: _ => k v | [] => False)
  | _ => False

def rdT (P : Program) (tm : List Value) (h : AH) (o : Oper) (k : Value → Prop) : Prop :=
  match o.op with
  | .move x => valT tm x k
  | .assign x => valT tm x k
  | .pick c x y => valT tm c fun u => (match u with | .bool q => iteB q (valT tm x k) (valT tm y k) | _ => False)
  | .nilCheck x => valT tm x fun u => NonNil u ∧ k u
  | .binOp op t x y _ => valT tm x fun u => valT tm y fun v => binT P op t u v k
  | .unOp op _ x => valT tm x fun u => unT op u k
  | .convert src dst x => valT tm x fun u => convHT P h src dst u k
  | .fieldAddr t x f => valT tm x fun u => fldT P t u f k
  | .indexAddr t x i => valT tm x fun u => valT tm i fun v => ∃ p : Option Addr, xindexAddr P t u v = some (.pointer p) ∧ k (.pointer p)
  | .field t x f => valT tm x fun u => fieldT P t u f k
  | .extract x i => valT tm x fun u => extT u i k
  | .index t x i => valT tm x fun u => valT tm i fun v => indexT P t o.type u v k
  | .makeFunc (.func f) xs ys => valsT tm xs.toList [] fun l => valsT tm ys.toList [] fun m => k (.func (.func f) l.toArray m.toArray)
  | .build t ps => partsT tm ps.toList [] fun l => (match abuild P t l with | some v => k v | none => False)
  | .makeInterface t x => valT tm x fun u => (match P.underlying t with | some (.interface _) => False | some _ => k (.iface t u) | none => False)
  | .load t x => valT tm x fun u => asT P t fun v => xload P h t u = some v ∧ k v
  | .slice t x lo hi mx => valT tm x fun u => ovalT tm lo fun a => ovalT tm hi fun b => ovalT tm mx fun c => asT P o.type fun v => xslice P h t u a b c = some v ∧ k v
  | .lookup t x i ok => valT tm x fun u => valT tm i fun v => asT P o.type fun r => alookup P h t u v ok = some r ∧ k r
  | .call c => (match c.callee with
    | .builtin .len => (match c.argTypes.toList, c.args.toList with
      | [t], [x] => valT tm x fun u => lenT P h t u k
      | _, _ => False)
    | _ => False)
  | _ => False

section
variable {P : Program} {h : AH} {tm : List Value}

theorem NonNil.read {o : Oper} {x : Operand} {u : Value} (ho : o.op = .nilCheck x) (hx : aeval tm x = some u) (hn : NonNil u) : xreader P tm h o = some u := by
  unfold xreader ereader areader apure
  rw [ho]
  simp only [hx]
  cases hn <;> rfl
theorem conv_ex {src dst : TypeId} {x : Value} {k : Value → Prop} (hk : convT P src dst x k) : ∃ v, econv P src dst x = some v ∧ k v := by
  unfold convT at hk
  split at hk
  · rename_i hd hs; exact ⟨_, by simp only [econv, hd, hs], hk⟩
  · rename_i hd hs; exact ⟨_, by simp only [econv, hd, hs], hk⟩
  · exact hk.elim
theorem convH_ex {h : AH} {src dst : TypeId} {x : Value} {k : Value → Prop} (hk : convHT P h src dst x k) : ∃ v, econvH P h src dst x = some v ∧ k v := by
  unfold convHT at hk
  unfold econvH
  split at hk
  · rename_i e hd hs
    split at hk
    · rename_i he
      obtain ⟨s, h1, h2⟩ := hk
      exact ⟨_, by simp only [hd, hs, he]; exact h1, h2⟩
    · exact hk.elim
  · rename_i hno
    obtain ⟨v, h1, h2⟩ := conv_ex hk
    refine ⟨v, ?_, h2⟩
    split
    · rename_i e hd hs; exact (hno e hd hs).elim
    · exact h1
theorem un_ex {op : UnOp} {x : Value} {k : Value → Prop} (hk : unT op x k) : ∃ v, eun op x = some v ∧ k v := by
  unfold unT at hk
  split at hk
  · exact ⟨_, rfl, hk⟩
  · exact ⟨_, rfl, hk⟩
  · exact ⟨_, rfl, hk⟩
  · exact hk.elim
theorem fld_ex {t : TypeId} {x : Value} {f : Nat} {k : Value → Prop} (hk : fldT P t x f k) : ∃ v, xfieldAddr P t x f = some v ∧ k v := by
  unfold fldT at hk
  split at hk
  · rename_i fields hd
    split at hk
    · rename_i fd hf
      split at hk
      · rename_i i hi
        split at hk
        · exact hk.elim
        · rename_i hs
          have hs : ¬ i.size = 0 := hs
          split at hk
          · obtain ⟨hn, hk⟩ := hk
            cases hn with
            | ptr b o => exact ⟨_, by simp only [xfieldAddr, efieldAddr, afieldAddr, hd, hf, hi, hs, if_false]; rfl, hk⟩
            | eld b o => exact ⟨_, by simp only [xfieldAddr, efieldAddr, afieldAddr, hd, hf, hi, hs, if_false]; rfl, hk⟩
          · exact hk.elim
      · exact hk.elim
    · exact hk.elim
  · exact hk.elim
theorem len_ex {t : TypeId} {x : Value} {k : Value → Prop} (hk : lenT P h t x k) : ∃ v, alen P h t x = some v ∧ k v := by
  unfold lenT at hk
  split at hk
  · rename_i hd
    split at hk
    · exact ⟨_, by simp only [alen, hd]; rfl, hk⟩
    · exact hk.elim
  · rename_i hd
    split at hk
    · exact ⟨_, by simp only [alen, hd]; rfl, hk⟩
    · exact hk.elim
  · rename_i hd; exact ⟨_, by simp only [alen, hd]; rfl, hk⟩
  · obtain ⟨n, h1, h2⟩ := hk; exact ⟨_, h1, h2⟩
theorem field_ex {t : TypeId} {x : Value} {f : Nat} {k : Value → Prop} (hk : fieldT P t x f k) : ∃ v, afield P t x f = some v ∧ k v := by
  unfold fieldT at hk
  split at hk
  · rename_i fields cs hd
    split at hk
    · rename_i fd hf
      obtain ⟨v, h1, h2⟩ := partT_ex hk
      exact ⟨v, by simp only [afield, hd, hf, h1], h2⟩
    · exact hk.elim
  · exact hk.elim
theorem ext_ex {x : Value} {i : Nat} {k : Value → Prop} (hk : extT x i k) : ∃ v, aextract x i = some v ∧ k v := by
  unfold extT at hk
  split at hk
  · rename_i vs
    split at hk
    · rename_i v r hv
      refine ⟨v, ?_, hk⟩
      have := congrArg (·[0]?) hv
      simp only [List.getElem?_drop, List.getElem?_cons_zero, Nat.add_zero] at this
      simpa [aextract] using this
    · exact hk.elim
  · exact hk.elim
theorem index_ex {t ty : TypeId} {x i : Value} {k : Value → Prop} (hk : indexT P t ty x i k) : ∃ v, aindex P t x i = some v ∧ k v := by
  unfold indexT at hk
  split at hk
  · rename_i hd
    split at hk
    · rename_i s _ n
      obtain ⟨⟨h1, h2⟩, h3⟩ := hk
      refine ⟨_, ?_, h3⟩
      simp only [aindex, hd, h1, if_true]
      have h4 : s.data[n.toNat]? = some (s.data.toList.getD n.toNat 0) := by
        rw [Array.getElem?_eq_getElem h2, List.getD_eq_getElem?_getD, Array.getElem?_toList, Array.getElem?_eq_getElem h2]; rfl
      rw [h4]
    · exact hk.elim
  · obtain ⟨v, h1, h2⟩ := asT_ex hk; exact ⟨v, h1, h2⟩

theorem rdT_ex {o : Oper} {k : Value → Prop} (hk : rdT P tm h o k) : ∃ v, xreader P tm h o = some v ∧ k v := by
  unfold rdT at hk
  split at hk <;> rename_i hop
  · obtain ⟨v, h1, h2⟩ := valT_ex hk
    exact ⟨v, by simp only [xreader, ereader, areader, apure, hop, h1], h2⟩
  · obtain ⟨v, h1, h2⟩ := valT_ex hk
    exact ⟨v, by simp only [xreader, ereader, areader, apure, hop, h1], h2⟩
  · obtain ⟨u, h1, hk⟩ := valT_ex hk
    split at hk
    · rename_i q
      cases q with
      | true => obtain ⟨v, h2, h3⟩ := valT_ex (show valT tm _ k from hk); exact ⟨v, by simp only [xreader, ereader, areader, apure, hop, h1, h2], h3⟩
      | false => obtain ⟨v, h2, h3⟩ := valT_ex (show valT tm _ k from hk); exact ⟨v, by simp only [xreader, ereader, areader, apure, hop, h1, h2], h3⟩
    · exact hk.elim
  · obtain ⟨u, h1, h2, h3⟩ := valT_ex hk
    exact ⟨u, NonNil.read hop h1 h2, h3⟩
  · obtain ⟨u, h1, hk⟩ := valT_ex hk
    obtain ⟨v, h2, hk⟩ := valT_ex hk
    obtain ⟨r, h3, h4⟩ := binT_ex hk
    exact ⟨r, by simp only [xreader, ereader, hop, h1, h2, h3], h4⟩
  · obtain ⟨u, h1, hk⟩ := valT_ex hk
    obtain ⟨r, h3, h4⟩ := un_ex hk
    exact ⟨r, by simp only [xreader, ereader, hop, h1, h3], h4⟩
  · obtain ⟨u, h1, hk⟩ := valT_ex hk
    obtain ⟨r, h3, h4⟩ := convH_ex hk
    exact ⟨r, by simp only [xreader, ereader, hop, h1, h3], h4⟩
  · obtain ⟨u, h1, hk⟩ := valT_ex hk
    obtain ⟨r, h3, h4⟩ := fld_ex hk
    refine ⟨r, ?_, h4⟩
    unfold xfieldAddr at h3
    simp only [xreader, ereader, areader, apure, hop, h1]
    split at h3
    · rename_i q; simp only [q]; exact h3
    · rename_i q; simp only [q, h3]
  · obtain ⟨u, h1, hk⟩ := valT_ex hk
    obtain ⟨v, h2, hk⟩ := valT_ex hk
    obtain ⟨p, h3, h4⟩ := hk
    refine ⟨_, ?_, h4⟩
    unfold xindexAddr at h3
    simp only [xreader, ereader, areader, apure, hop, h1, h2]
    split at h3
    · rename_i q; simp only [q]; exact h3
    · rename_i q; simp only [q, h3]
  · obtain ⟨u, h1, hk⟩ := valT_ex hk
    obtain ⟨r, h3, h4⟩ := field_ex hk
    exact ⟨r, by simp only [xreader, ereader, areader, apure, hop, h1, h3], h4⟩
  · obtain ⟨u, h1, hk⟩ := valT_ex hk
    obtain ⟨r, h3, h4⟩ := ext_ex hk
    exact ⟨r, by simp only [xreader, ereader, areader, apure, hop, h1, h3], h4⟩
  · obtain ⟨u, h1, hk⟩ := valT_ex hk
    obtain ⟨v, h2, hk⟩ := valT_ex hk
    obtain ⟨r, h3, h4⟩ := index_ex hk
    exact ⟨r, by simp only [xreader, ereader, areader, apure, hop, h1, h2, h3], h4⟩
  · obtain ⟨l, h1, hk⟩ := valsT_ex hk
    obtain ⟨m, h2, hk⟩ := valsT_ex hk
    refine ⟨_, ?_, hk⟩
    simp only [xreader, ereader, areader, apure, hop, h1, h2, List.nil_append]
  · obtain ⟨l, h1, hk⟩ := partsT_ex hk
    rw [List.nil_append] at hk
    split at hk
    · rename_i v hv; exact ⟨v, by simp only [xreader, ereader, areader, apure, hop, h1, hv], hk⟩
    · exact hk.elim
  · obtain ⟨u, h1, hk⟩ := valT_ex hk
    split at hk
    · exact hk.elim
    · rename_i d hne hd
      refine ⟨_, ?_, hk⟩
      simp only [xreader, ereader, areader, apure, hop, h1, hd]
    · exact hk.elim
  · obtain ⟨u, h1, hk⟩ := valT_ex hk
    obtain ⟨v, h3, h4⟩ := asT_ex hk
    refine ⟨v, ?_, h4⟩
    unfold xload at h3
    simp only [xreader, ereader, areader, apure, hop, h1]
    split at h3
    · rename_i q; simp only [q]; exact h3
    · rename_i q; simp only [q, h3]
  · obtain ⟨u, h1, hk⟩ := valT_ex hk
    obtain ⟨a, h2, hk⟩ := ovalT_ex hk
    obtain ⟨b, h3, hk⟩ := ovalT_ex hk
    obtain ⟨c, h4, hk⟩ := ovalT_ex hk
    obtain ⟨v, h5, h6⟩ := asT_ex hk
    refine ⟨v, ?_, h6⟩
    unfold xslice at h5
    simp only [xreader, ereader, areader, apure, hop, h1, h2, h3, h4]
    split at h5
    · rename_i q; simp only [q]; exact h5
    · rename_i q; simp only [q, h5]
  · obtain ⟨u, h1, hk⟩ := valT_ex hk
    obtain ⟨v, h2, hk⟩ := valT_ex hk
    obtain ⟨r, h3, h4⟩ := asT_ex hk
    exact ⟨r, by simp only [xreader, ereader, areader, apure, hop, h1, h2, h3], h4⟩
  · rename_i c
    split at hk
    · rename_i hc
      split at hk
      · rename_i t x ht hl
        obtain ⟨u, h1, hk⟩ := valT_ex hk
        obtain ⟨v, h3, h4⟩ := len_ex hk
        exact ⟨v, by simp only [xreader, ereader, areader, apure, hop, hc, ht, hl, h1, h3], h4⟩
      · exact hk.elim
    · exact hk.elim
  · exact hk.elim
end
end
end Go.AE

/- Operations that do more, as conditions. -/
namespace Go.AE
noncomputable section
open Go.RowKit

/-- What a computation comes to. -/
def SW (w0 : World) (β : Inj) (K : Value → AH → Prop) : Result Value → Prop
  | .ok v' w' => ∃ v h β', K v h ∧ Inj.le β β' ∧ VR β' v v' ∧ WR w0 β' h w'
  | _ => False
theorem SW.mono {w0 : World} {β : Inj} {K K' : Value → AH → Prop} (hq : ∀ v h, K v h → K' v h) {r : Result Value} (h : SW w0 β K r) : SW w0 β K' r := by
  cases r with
  | ok v w => obtain ⟨v, h, β', h1, h2⟩ := h; exact ⟨v, h, β', hq _ _ h1, h2⟩
  | halt => exact h.elim
theorem SW.of_vok {P : Program} {w0 w : World} {β : Inj} {s : Sem Value} {v : Value} {h : AH} {K : Value → AH → Prop} (hv : VOK P w0 β s w v h) (hk : K v h) : SW w0 β K (s.run P w) := by
  obtain ⟨v', w', β', h1, h2, h3, h4⟩ := hv
  rw [h1]; exact ⟨v, h, β', hk, h2, h3, h4⟩
theorem SW.next {P : Program} {w0 w : World} {β : Inj} {s : Sem Value} {K : Value → AH → Prop} (h : SW w0 β K (s.run P w)) : NextW P w0 β K ((do pure (.value (← s)) : Sem Next).run P w) := by
  rw [Sem.run_bind]
  cases hr : s.run P w with
  | ok v' w' => rw [hr] at h; exact h
  | halt => rw [hr] at h; exact h.elim

structure AppW (P : Program) (h : AH) (t0 t1 : TypeId) (s x : Value) (K : Value → AH → Prop) : Prop where
  out : ∀ w0 β w s' x' ty, WR w0 β h w → VR β s s' → VR β x x' → SW w0 β K ((Builtin.append_ #[t0, t1] ty #[s', x']).run P w)
structure CopyW (P : Program) (h : AH) (t0 t1 : TypeId) (s x : Value) (K : Value → AH → Prop) : Prop where
  out : ∀ w0 β w s' x' ty, WR w0 β h w → VR β s s' → VR β x x' → SW w0 β K ((Builtin.copy_ #[t0, t1] ty #[s', x']).run P w)
structure ConvW (P : Program) (h : AH) (src dst : TypeId) (x : Value) (K : Value → AH → Prop) : Prop where
  out : ∀ w0 β w x', WR w0 β h w → VR β x x' → SW w0 β K ((convert src dst x').run P w)
structure MakeW (P : Program) (h : AH) (t : TypeId) (l c : Value) (K : Value → AH → Prop) : Prop where
  out : ∀ w0 β w l' c', WR w0 β h w → VR β l l' → VR β c c' → SW w0 β K ((Instr.makeSlice t l' c').run P w)
theorem AppW.mono {P : Program} {h : AH} {t0 t1 : TypeId} {s x : Value} {K K' : Value → AH → Prop} (a : AppW P h t0 t1 s x K) (hq : ∀ v h, K v h → K' v h) : AppW P h t0 t1 s x K' :=
  ⟨fun w0 β w s' x' ty hw hs hx => (a.out w0 β w s' x' ty hw hs hx).mono hq⟩
theorem CopyW.mono {P : Program} {h : AH} {t0 t1 : TypeId} {s x : Value} {K K' : Value → AH → Prop} (a : CopyW P h t0 t1 s x K) (hq : ∀ v h, K v h → K' v h) : CopyW P h t0 t1 s x K' :=
  ⟨fun w0 β w s' x' ty hw hs hx => (a.out w0 β w s' x' ty hw hs hx).mono hq⟩
theorem ConvW.mono {P : Program} {h : AH} {t0 t1 : TypeId} {x : Value} {K K' : Value → AH → Prop} (a : ConvW P h t0 t1 x K) (hq : ∀ v h, K v h → K' v h) : ConvW P h t0 t1 x K' :=
  ⟨fun w0 β w x' hw hx => (a.out w0 β w x' hw hx).mono hq⟩
theorem MakeW.mono {P : Program} {h : AH} {t : TypeId} {l c : Value} {K K' : Value → AH → Prop} (a : MakeW P h t l c K) (hq : ∀ v h, K v h → K' v h) : MakeW P h t l c K' :=
  ⟨fun w0 β w l' c' hw hl hc => (a.out w0 β w l' c' hw hl hc).mono hq⟩

/-- A call of a function value. -/
inductive CallVW (P : Program) (h : AH) (fv : Value) (args : List Value) (K : Value → AH → Prop) : Prop
  | fn (g : FuncId) (first cap : Array Value) (fn : Func) (hf : fv = .func (.func g) first cap) (hfn : P.funcs[g]? = some fn) (hb : fn.body.isSome = true) (hc : CallW P g (first.toList ++ args ++ cap.toList) h K)
  | yield (r : Nat) (first cap : Array Value) (st : LoopState) (pe : Option Code) (tml : List Value) (ps : Array Tmp) (as bd : Code) (df : Nat) (hf : fv = .func (.yield r) first cap) (h0 : first.size = 0)
      (hl : h.get r = some (.loop st pe tml ps as bd df)) (hs : args.length = ps.size) (hc : RoundW P r (setAll (ps.toList.zip args) tml) as bd h K)
theorem CallVW.mono {P : Program} {h : AH} {fv : Value} {args : List Value} {K K' : Value → AH → Prop} (a : CallVW P h fv args K) (hq : ∀ v h, K v h → K' v h) : CallVW P h fv args K' := by
  cases a with
  | fn g first cap fn hf hfn hb hc => exact .fn g first cap fn hf hfn hb (hc.mono hq)
  | yield r first cap st pe tml ps as bd df hf h0 hl hs hc => exact .yield r first cap st pe tml ps as bd df hf h0 hl hs (hc.mono hq)

/-- The result of a call, its parts named. -/
def retT (P : Program) (ty : TypeId) (K : Value → AH → Prop) : Value → AH → Prop := fun v h => asT P ty fun u => v = u ∧ K u h
theorem retT_ex {P : Program} {ty : TypeId} {K : Value → AH → Prop} {v : Value} {h : AH} (hr : retT P ty K v h) : K v h := by
  obtain ⟨u, rfl, hk⟩ := asT_ex hr; exact hk

def minT (P : Program) (tm : List Value) (b : Bool) (xs : List Operand) (k : Value → Prop) : Prop :=
  match xs with
  | [x, y] => valT tm x fun u => valT tm y fun v => (match u, v with
    | .int ki m, .int kj n => k (.int ki (match b with | true => min m n | false => max m n))
    | _, _ => False)
  | _ => False

def callT (P : Program) (tm : List Value) (h : AH) (ty : TypeId) (c : Call) (K : Value → AH → Prop) : Prop :=
  match c.callee with
  | .builtin .append => (match c.argTypes.toList, c.args.toList with
    | [t0, t1], [x, y] => valT tm x fun u => valT tm y fun v => AppW P h t0 t1 u v (retT P ty K)
    | _, _ => False)
  | .builtin .copy => (match c.argTypes.toList, c.args.toList with
    | [t0, t1], [x, y] => valT tm x fun u => valT tm y fun v => CopyW P h t0 t1 u v (retT P 3 K)
    | _, _ => False)
  | .builtin .len => (match c.argTypes.toList, c.args.toList with
    | [t], [x] => valT tm x fun u => lenT P h t u fun v => K v h
    | _, _ => False)
  | .builtin .delete => (match c.argTypes.toList, c.args.toList with
    | [t0, t1], [x, y] => valT tm x fun u => valT tm y fun v => ∃ h', adelete P h t0 u v = some h' ∧ K (.tuple #[]) h'
    | _, _ => False)
  | .builtin .min => minT P tm true c.args.toList fun v => K v h
  | .builtin .max => minT P tm false c.args.toList fun v => K v h
  | .builtin _ => False
  | .invoke _ _ => False
  | .value (.func g) => valsT tm c.args.toList [] fun l => (match P.funcs[g]? with
    | some fn => (match fn.body.isSome with | true => CallW P g l h (retT P ty K) | false => False)
    | none => False)
  | .value f => valT tm f fun fv => valsT tm c.args.toList [] fun l => CallVW P h fv l (retT P ty K)

/-- A new variable. -/
def boxT (P : Program) (h : AH) (t : TypeId) (u : Value) (K : Value → AH → Prop) : Prop :=
  match P.underlying t with
  | some d => (match isAggD d with
    | true => (match u with | .agg cs => iteB (oneCells cs.toList) (K (.pointer (some ⟨h.next, 0, none⟩)) (h.new (.row cs.toList cs.toList.length false))) False | _ => False)
    | false => iteB (oneCells [u]) (K (.pointer (some ⟨h.next, 0, none⟩)) (h.new (.row [u] 1 false))) False)
  | none => False

def nextT (P : Program) (ty : TypeId) (isS : Bool) (outs : List (Value × AH)) (K : Value → AH → Prop) : Prop :=
  ∀ v h', (v, h') ∈ outs → (v = .tuple #[.bool false] ∧ K (.tuple #[.bool false]) h') ∨
    (match isS with
     | true => ∃ n c : Int, v = .tuple #[.bool true, .int .i64 n, .int .i32 c] ∧ K (.tuple #[.bool true, .int .i64 n, .int .i32 c]) h'
     | false => asT P ty fun u => v = u ∧ K u h')

def stepT (P : Program) (tm : List Value) (h : AH) (o : Oper) (K : Value → AH → Prop) : Prop :=
  match o.op with
  | .alloc t => (match aalloc P h t with | some (v, h') => K v h' | none => False)
  | .box t x => valT tm x fun u => boxT P h t u K
  | .buildSlice t n ps => partsT tm ps.toList [] fun l => (match abuildSlice P h t n l with | some (v, h') => K v h' | none => False)
  | .store t x y => valT tm x fun u => valT tm y fun v => ∃ h', astore P h t u v = some h' ∧ K undef h'
  | .makeMap t none => K (.map (some h.next)) (h.new (.map [] 0))
  | .makeSlice t x y => valT tm x fun u => valT tm y fun v => MakeW P h t u v (retT P t K)
  | .mapUpdate t m k x => valT tm m fun u => valT tm k fun v => valT tm x fun z => ∃ h', amapUpdate P h t u v z = some h' ∧ K undef h'
  | .insert t m k x => valT tm m fun u => valT tm k fun v => valT tm x fun z => ∃ h', amapUpdate P h t u v z = some h' ∧ K undef h'
  | .range t x => valT tm x fun u => ∃ q h', arange P h t u = some (.pointer q, h') ∧ K (.pointer q) h'
  | .next it s => valT tm it fun u => ∃ outs, anext h u s = some outs ∧ nextT P o.type s outs K
  | .entry it => valT tm it fun u => asT P o.type fun v => aentry h u = some v ∧ K v h
  | .convert src dst x => (match P.underlying src, P.underlying dst with
    | some (.slice _), some .string => valT tm x fun u => ConvW P h src dst u (retT P dst K)
    | some .string, some (.slice _) => valT tm x fun u => ConvW P h src dst u (retT P dst K)
    | _, _ => rdT P tm h o fun v => K v h)
  | .call c => callT P tm h o.type c K
  | _ => rdT P tm h o fun v => K v h

/-- No function of the program is runtime.NumGoroutine. -/
def NoNum (P : Program) : Prop := ∀ (f : FuncId) (fn : Func), P.funcs[f]? = some fn → (fn.name == "runtime.NumGoroutine") = false

section
variable {P : Program} {h : AH} {tm : List Value} {o : Oper} {K : Value → AH → Prop}

theorem OpW.of_read {v : Value} (hv : xreader P tm h o = some v) (hk : K v h) : OpW P tm h o K := by
  refine ⟨fun w0 β w a hw ha => ?_, xreader_noSel hv⟩
  obtain ⟨v', h1, h2⟩ := xreader_sound (a := a) hw ha hv
  rw [h1]; exact ⟨v, h, β, hk, Inj.le.refl _, h2, hw⟩
def resW (P : Program) (h : AH) (K : Value → AH → Prop) : ARes → Prop
  | .vals outs => ∀ x ∈ outs, K x.1 x.2
  | .skip h' => K undef h'
  | .enter f args => CallW P f args h K
  | .round l T as bd => RoundW P l T as bd h K
theorem aop_noSel {r : ARes} (hv : aop P tm h o = some r) : ∀ cs b, o.op ≠ .select cs b := by
  intro cs b hc
  unfold aop apure at hv
  rw [hc] at hv
  simp at hv
theorem OpW.of_aop (hN : NoNum P) {r : ARes} (hv : aop P tm h o = some r) (hr : resW P h K r) : OpW P tm h o K := by
  refine ⟨fun w0 β w a hw ha => ?_, aop_noSel hv, aop_noDefer hv⟩
  have hs := aop_sound hN hw ha hv
  cases r with
  | vals outs =>
    obtain ⟨x, q1, v', w', β', q2, q3, q4, q5⟩ := hs
    rw [q2]; exact ⟨x.1, x.2, β', hr x q1, q3, q4, q5⟩
  | skip h' =>
    obtain ⟨w', β', q2, q3, q5⟩ := hs
    rw [q2]; exact ⟨h', β', hr, q3, q5⟩
  | enter f args =>
    obtain ⟨args', q2, q3⟩ := hs
    rw [q2]; exact fun n => hr.out w0 β w args' hw q3 n
  | round l T as bd =>
    obtain ⟨L, fn, T', p0, q2, q3⟩ := hs
    rw [q2]; exact fun n => hr.out w0 β w L fn T' p0 hw q3 n
end
end
end Go.AE

/- What the conditions say of operations holds. -/
namespace Go.AE
noncomputable section
open Go.RowKit

section
variable {P : Program} {h : AH} {tm : List Value} {o : Oper} {K : Value → AH → Prop}

theorem calm_call {c : Call} (ho : o.op = .call c) : (∀ cs b, o.op ≠ .select cs b) ∧ (∀ c, o.op ≠ .defer c) :=
  ⟨fun cs b e => (by rw [ho] at e; cases e), fun c e => (by rw [ho] at e; cases e)⟩

theorem callT_sound (hN : NoNum P) {c : Call} (ho : o.op = .call c) (hk : callT P tm h o.type c K) : OpW P tm h o K := by
  have hap : apure P tm o = none := by simp only [apure, ho]
  have haop : aop P tm h o = acall P tm h o.type c := by simp only [aop, hap, ho]
  have hex : ∀ ρ, execOp ρ o = (do let d ← resolve ρ c o.type; invoke d.target d.args) := fun ρ => by simp only [execOp, ho]
  unfold callT at hk
  split at hk
  · rename_i hc
    split at hk
    · rename_i t0 t1 x y ht hl
      obtain ⟨u, hx, hk⟩ := valT_ex hk
      obtain ⟨v, hy, hk⟩ := valT_ex hk
      refine ⟨fun w0 β w a hw ha => ?_, calm_call ho⟩
      have e2 := args2 (a := a) hl
      have e3 := types2 ht
      have : execOp a.eval o = (do pure (.value (← Builtin.append_ #[t0, t1] o.type #[a.eval x, a.eval y]))) := by
        rw [hex]; simp [resolve, hc, e2, e3, invoke, builtin]
      rw [this]
      exact SW.next ((hk.mono fun _ _ hr => retT_ex hr).out w0 β w _ _ _ hw (aeval_sound ha hx) (aeval_sound ha hy))
    · exact hk.elim
  · rename_i hc
    split at hk
    · rename_i t0 t1 x y ht hl
      obtain ⟨u, hx, hk⟩ := valT_ex hk
      obtain ⟨v, hy, hk⟩ := valT_ex hk
      refine ⟨fun w0 β w a hw ha => ?_, calm_call ho⟩
      have e2 := args2 (a := a) hl
      have e3 := types2 ht
      have : execOp a.eval o = (do pure (.value (← Builtin.copy_ #[t0, t1] o.type #[a.eval x, a.eval y]))) := by
        rw [hex]; simp [resolve, hc, e2, e3, invoke, builtin]
      rw [this]
      exact SW.next ((hk.mono fun _ _ hr => retT_ex hr).out w0 β w _ _ _ hw (aeval_sound ha hx) (aeval_sound ha hy))
    · exact hk.elim
  · rename_i hc
    split at hk
    · rename_i t x ht hl
      obtain ⟨u, hx, hk⟩ := valT_ex hk
      obtain ⟨v, hv, hk⟩ := len_ex hk
      refine OpW.of_aop hN (r := .vals [(v, h)]) ?_ (by intro q hq; rw [List.mem_singleton.1 hq]; exact hk)
      rw [haop]; simp only [acall, hc, ht, hl, hx, hv, same]
    · exact hk.elim
  · rename_i hc
    split at hk
    · rename_i t0 t1 x y ht hl
      obtain ⟨u, hx, hk⟩ := valT_ex hk
      obtain ⟨v, hy, hk⟩ := valT_ex hk
      obtain ⟨h', hd, hk⟩ := hk
      refine OpW.of_aop hN (r := .vals [(.tuple #[], h')]) ?_ (by intro q hq; rw [List.mem_singleton.1 hq]; exact hk)
      rw [haop]; simp only [acall, hc, ht, hl, hx, hy, hd]
    · exact hk.elim
  · rename_i hc
    unfold minT at hk
    split at hk
    · rename_i x y hl
      obtain ⟨u, hx, hk⟩ := valT_ex hk
      obtain ⟨v, hy, hk⟩ := valT_ex hk
      split at hk
      · rename_i ki m kj n _
        refine ⟨fun w0 β w a hw ha => ?_, calm_call ho⟩
        have e2 := args2 (a := a) hl
        have q1 := (aeval_sound ha hx).ground 8 rfl
        have q2 := (aeval_sound ha hy).ground 8 rfl
        have : execOp a.eval o = (do pure (.value (← Builtin.min_ c.argTypes o.type #[a.eval x, a.eval y]))) := by
          rw [hex]; simp [resolve, hc, e2, invoke, builtin]
        rw [this, q1, q2]
        refine SW.next ?_
        have e : (if n < m then n else m) = min m n := by omega
        simp [Builtin.min_, Builtin.min2, e, SW]
        exact ⟨_, h, hk, β, Inj.le.refl _, .int _ _, hw⟩
      · exact hk.elim
    · exact hk.elim
  · rename_i hc
    unfold minT at hk
    split at hk
    · rename_i x y hl
      obtain ⟨u, hx, hk⟩ := valT_ex hk
      obtain ⟨v, hy, hk⟩ := valT_ex hk
      split at hk
      · rename_i ki m kj n _
        refine ⟨fun w0 β w a hw ha => ?_, calm_call ho⟩
        have e2 := args2 (a := a) hl
        have q1 := (aeval_sound ha hx).ground 8 rfl
        have q2 := (aeval_sound ha hy).ground 8 rfl
        have : execOp a.eval o = (do pure (.value (← Builtin.max_ c.argTypes o.type #[a.eval x, a.eval y]))) := by
          rw [hex]; simp [resolve, hc, e2, invoke, builtin]
        rw [this, q1, q2]
        refine SW.next ?_
        have e : (if m < n then n else m) = max m n := by omega
        simp [Builtin.max_, Builtin.max2, e, SW]
        exact ⟨_, h, hk, β, Inj.le.refl _, .int _ _, hw⟩
      · exact hk.elim
    · exact hk.elim
  · exact hk.elim
  · exact hk.elim
  · rename_i g hc
    obtain ⟨l, hl, hk⟩ := valsT_ex hk
    rw [List.nil_append] at hk
    split at hk
    · rename_i fn hfn
      split at hk
      · rename_i hb
        refine OpW.of_aop hN (r := .enter g l) ?_ (hk.mono fun _ _ hr => retT_ex hr)
        rw [haop]
        simp [acall, hc, hl, hfn, hb, aeval]
      · exact hk.elim
    · exact hk.elim
  · rename_i f hne hc
    obtain ⟨fv, hf, hk⟩ := valT_ex hk
    obtain ⟨l, hl, hk⟩ := valsT_ex hk
    rw [List.nil_append] at hk
    cases hk with
    | fn g first cap fn hfv hfn hb hcall =>
      refine OpW.of_aop hN (r := .enter g (first.toList ++ l ++ cap.toList)) ?_ (hcall.mono fun _ _ hr => retT_ex hr)
      rw [haop]
      subst hfv
      simp only [acall, hc, hf, hl, hfn, hb, if_true]
    | yield r first cap st pe tml ps as bd df hfv h0 hlo hs hcall =>
      refine OpW.of_aop hN (r := .round r (setAll (ps.toList.zip l) tml) as bd) ?_ (hcall.mono fun _ _ hr => retT_ex hr)
      rw [haop]
      subst hfv
      simp only [acall, hc, hf, hl, h0, hlo, hs, if_true]

theorem stepT_sound (hN : NoNum P) (hk : stepT P tm h o K) : OpW P tm h o K := by
  have rd : rdT P tm h o (fun v => K v h) → OpW P tm h o K := fun hk => by
    obtain ⟨v, h1, h2⟩ := rdT_ex hk
    exact OpW.of_read h1 h2
  have vals : ∀ {v : Value} {h' : AH}, apure P tm o = none → (apure P tm o = none → aop P tm h o = some (.vals [(v, h')])) → K v h' → OpW P tm h o K := fun h0 h1 h2 =>
    OpW.of_aop hN (h1 h0) (by intro q hq; rw [List.mem_singleton.1 hq]; exact h2)
  unfold stepT at hk
  split at hk <;> rename_i hop
  · split at hk
    · rename_i v h' hv
      exact vals (by simp only [apure, hop]) (fun h0 => by simp only [aop, h0, hop, hv, one]) hk
    · exact hk.elim
  · obtain ⟨u, hx, hk⟩ := valT_ex hk
    unfold boxT at hk
    split at hk
    · split at hk
      · split at hk
        · rename_i cs
          have h1 := (iteB_iff.1 hk)
          have h2 : oneCells cs.toList = true := by
            cases hq : oneCells cs.toList with
            | true => rfl
            | false => exact (h1.2 hq).elim
          have h3 := h1.1 h2
          have h1 := h2
          have h2 := h3
          refine vals (by simp only [apure, hop]) (fun h0 => ?_) h2
          have e1 : (Value.agg cs).cells = cs := rfl
          have e2 : cs.size = cs.toList.length := by simp
          simp only [aop, h0, hop, hx, abox, e1, h1, if_true, one, e2]
        · exact hk.elim
      · rename_i hna
        have h1 := (iteB_iff.1 hk)
        have h2 : oneCells [u] = true := by
          cases hq : oneCells [u] with
          | true => rfl
          | false => exact (h1.2 hq).elim
        have h3 := h1.1 h2
        have h1 := h2
        have h2 := h3
        refine vals (by simp only [apure, hop]) (fun h0 => ?_) h2
        have e1 : u.cells = #[u] := by
          cases u <;> first | rfl | (simp [oneCells, Value.oneCell'] at h1; done)
        simp only [aop, h0, hop, hx, abox, e1, h1, if_true, one]
        rfl
    · exact hk.elim
  · obtain ⟨l, hl, hk⟩ := partsT_ex hk
    rw [List.nil_append] at hk
    split at hk
    · rename_i v h' hv
      exact vals (by simp only [apure, hop]) (fun h0 => by simp only [aop, h0, hop, hl, hv, one]) hk
    · exact hk.elim
  · obtain ⟨u, hx, hk⟩ := valT_ex hk
    obtain ⟨v, hy, hk⟩ := valT_ex hk
    obtain ⟨h', hs, hk⟩ := hk
    refine OpW.of_aop hN (r := .skip h') ?_ hk
    have h0 : apure P tm o = none := by simp only [apure, hop]
    simp only [aop, h0, hop, hx, hy, hs, skips]
  · exact vals (by simp only [apure, hop]) (fun h0 => by simp only [aop, h0, hop]) hk
  · rename_i t x y
    obtain ⟨u, hx, hk⟩ := valT_ex hk
    obtain ⟨v, hy, hk⟩ := valT_ex hk
    refine ⟨fun w0 β w a hw ha => ?_, ⟨fun cs b e => (by rw [hop] at e; cases e), fun c e => (by rw [hop] at e; cases e)⟩⟩
    have : execOp a.eval o = (do pure (.value (← Instr.makeSlice t (a.eval x) (a.eval y)))) := by simp only [execOp, hop]
    rw [this]
    exact SW.next ((hk.mono fun _ _ hr => retT_ex hr).out w0 β w _ _ hw (aeval_sound ha hx) (aeval_sound ha hy))
  · obtain ⟨u, hx, hk⟩ := valT_ex hk
    obtain ⟨v, hy, hk⟩ := valT_ex hk
    obtain ⟨z, hz, hk⟩ := valT_ex hk
    obtain ⟨h', hs, hk⟩ := hk
    refine OpW.of_aop hN (r := .skip h') ?_ hk
    have h0 : apure P tm o = none := by simp only [apure, hop]
    simp only [aop, h0, hop, hx, hy, hz, hs, skips]
  · obtain ⟨u, hx, hk⟩ := valT_ex hk
    obtain ⟨v, hy, hk⟩ := valT_ex hk
    obtain ⟨z, hz, hk⟩ := valT_ex hk
    obtain ⟨h', hs, hk⟩ := hk
    refine OpW.of_aop hN (r := .skip h') ?_ hk
    have h0 : apure P tm o = none := by simp only [apure, hop]
    simp only [aop, h0, hop, hx, hy, hz, hs, skips]
  · obtain ⟨u, hx, hk⟩ := valT_ex hk
    obtain ⟨q, h', hv, hk⟩ := hk
    exact vals (by simp only [apure, hop]) (fun h0 => by simp only [aop, h0, hop, hx, hv, one]) hk
  · rename_i it s
    obtain ⟨u, hx, hk⟩ := valT_ex hk
    obtain ⟨outs, hv, hk⟩ := hk
    have h0 : apure P tm o = none := by simp only [apure, hop]
    refine OpW.of_aop hN (r := .vals outs) (by simp only [aop, h0, hop, hx, hv]) ?_
    rintro ⟨v, h'⟩ hm
    rcases hk v h' hm with ⟨rfl, h2⟩ | h2
    · exact h2
    · cases s with
      | true => obtain ⟨n, c, rfl, h2⟩ := h2; exact h2
      | false => obtain ⟨u, rfl, h2⟩ := asT_ex h2; exact h2
  · obtain ⟨u, hx, hk⟩ := valT_ex hk
    obtain ⟨v, hv, hk⟩ := asT_ex hk
    exact vals (by simp only [apure, hop]) (fun h0 => by simp only [aop, h0, hop, hx, hv, same]) hk
  · rename_i src dst x
    have conv : ∀ (f : valT tm x fun u => ConvW P h src dst u (retT P dst K)), OpW P tm h o K := fun hk => by
      obtain ⟨u, hx, hk⟩ := valT_ex hk
      refine ⟨fun w0 β w a hw ha => ?_, ⟨fun cs b e => (by rw [hop] at e; cases e), fun c e => (by rw [hop] at e; cases e)⟩⟩
      have : execOp a.eval o = (do pure (.value (← convert src dst (a.eval x)))) := by simp only [execOp, hop]
      rw [this]
      exact SW.next ((hk.mono fun _ _ hr => retT_ex hr).out w0 β w _ hw (aeval_sound ha hx))
    split at hk
    · exact conv hk
    · exact conv hk
    · exact rd hk
  · exact callT_sound hN hop hk
  · exact rd hk
end
end
end Go.AE

/- Code and calls as conditions. -/
namespace Go.AE
noncomputable section
open Go.RowKit

abbrev KW := Exit → List Value → List Nat → AH → Prop
def QW (w0 : World) (β : Inj) (K : KW) : Exit → Act → World → Prop := fun e a w =>
  ∃ tm ds h β', K e tm ds h ∧ Inj.le β β' ∧ AR β' tm.toArray a.tmps ∧ DS β' ds a.defers ∧ WR w0 β' h w
theorem QW.mono {w0 : World} {β : Inj} {K K' : KW} (hq : ∀ e tm ds h, K e tm ds h → K' e tm ds h) {e : Exit} {a : Act} {w : World} (h : QW w0 β K e a w) : QW w0 β K' e a w := by
  obtain ⟨tm, ds, h, β', h1, h2⟩ := h
  exact ⟨tm, ds, h, β', hq _ _ _ _ h1, h2⟩
theorem QW.le {w0 : World} {β β1 : Inj} {K : KW} (hb : Inj.le β β1) {e : Exit} {a : Act} {w : World} (h : QW w0 β1 K e a w) : QW w0 β K e a w := by
  obtain ⟨tm, ds, h, β', h1, h2, h3⟩ := h
  exact ⟨tm, ds, h, β', h1, hb.trans h2, h3⟩

structure CodeW (P : Program) (rd : Option Nat) (c : Code) (tm : List Value) (ds : List Nat) (h : AH) (K : KW) : Prop where
  out : ∀ w0 β F (a : Act) w n, FRd β rd F → AR β tm.toArray a.tmps → DS β ds a.defers → WR w0 β h w → c.wpIn F n P (QW w0 β K) a w
theorem CodeW.mono {P : Program} {rd : Option Nat} {c : Code} {tm : List Value} {ds : List Nat} {h : AH} {K K' : KW} (hc : CodeW P rd c tm ds h K) (hq : ∀ e tm ds h, K e tm ds h → K' e tm ds h) : CodeW P rd c tm ds h K' :=
  ⟨fun w0 β F a w n h1 h2 h3 h4 => wpIn_mono (hc.out w0 β F a w n h1 h2 h3 h4) fun e a w hq' => hq'.mono hq⟩

/-! ### regions -/
/-- A guard: yes or no. -/
def guardT (ops : Array Oper) (tm : List Value) (o : Oper) (yes no : List Value → Prop) : Prop :=
  match o.guard with
  | none => yes tm
  | some (j, wnt) => (match (ops[j]?).bind (·.dst) with
    | some s => (match tm[s]? with
      | some (.bool b) => (match wnt with
        | true => iteB b (yes (lset tm (.bool true) s)) (no (lset tm (.bool false) s))
        | false => iteB b (no (lset tm (.bool true) s)) (yes (lset tm (.bool false) s)))
      | _ => no tm)
    | none => no tm)
theorem lset_same {tm : List Value} {s : Nat} {v : Value} (h : tm[s]? = some v) : lset tm v s = tm := by
  rw [lset_eq]
  apply List.ext_getElem?
  intro i
  by_cases hi : s = i
  · subst hi
    obtain ⟨h1, h2⟩ := List.getElem?_eq_some_iff.1 h
    rw [List.getElem?_set_self h1, h]
  · rw [List.getElem?_set_ne hi]
theorem guardT_iff {ops : Array Oper} {tm : List Value} {o : Oper} {yes no : List Value → Prop} (h : guardT ops tm o yes no) :
    (Region.wanted o (ayielded ops tm) = true → yes tm) ∧ (Region.wanted o (ayielded ops tm) = false → no tm) := by
  unfold guardT at h
  unfold Region.wanted ayielded
  split at h
  · rename_i hg; simp only [hg]; exact ⟨fun _ => h, fun e => by cases e⟩
  · rename_i j wnt hg
    simp only [hg]
    split at h
    · rename_i s hs
      simp only [hs, Option.bind_some]
      split at h
      · rename_i b hb
        simp only [hb]
        cases b with
        | true =>
          rw [lset_same hb] at h
          cases wnt <;> simp [iteB] at h ⊢ <;> exact h
        | false =>
          rw [lset_same hb] at h
          cases wnt <;> simp [iteB] at h ⊢ <;> exact h
      · rename_i hb
        have nb : ∀ b, tm[s]? = some (.bool b) → False := hb
        cases hq : tm[s]? with
        | none => exact ⟨fun e => by simp at e, fun _ => h⟩
        | some u => cases u with
          | bool b => exact (nb b hq).elim
          | _ => exact ⟨fun e => by simp at e, fun _ => h⟩
    · rename_i hs
      simp only [hs, Option.bind_none]
      exact ⟨fun e => by simp at e, fun _ => h⟩

/-- Does a reading hold still? -/
def recheckT (P : Program) (ops : Array Oper) (tm : List Value) (h : AH) (e : Nat) : Prop :=
  match ops[e]? with
  | some o => (match o.dst with
    | some d => guardT ops tm o (fun tm => rdT P tm h o fun v => v = lget tm undef d) (fun tm => undef = lget tm undef d)
    | none => guardT ops tm o (fun tm => rdT P tm h o fun _ => True) (fun _ => True))
  | none => True
theorem recheckT_sound {P : Program} {ops : Array Oper} {tm : List Value} {h : AH} {e : Nat} (hr : recheckT P ops tm h e) : X.Recheck P ops tm h e := by
  intro o ho
  unfold recheckT at hr
  rw [ho] at hr
  simp only at hr
  split at hr
  · rename_i d hd
    obtain ⟨h1, h2⟩ := guardT_iff hr
    unfold xread
    cases hw : Region.wanted o (ayielded ops tm) with
    | true =>
      obtain ⟨v, h3, h4⟩ := rdT_ex (h1 hw)
      refine ⟨v, by simpa using h3, fun d' hd' _ => ?_⟩
      rw [hd] at hd'; cases hd'
      rw [h4, lget_eq]
    | false =>
      refine ⟨undef, by simp, fun d' hd' _ => ?_⟩
      rw [hd] at hd'; cases hd'
      have := h2 hw; rw [lget_eq] at this; exact this.symm
  · rename_i hd
    obtain ⟨h1, h2⟩ := guardT_iff hr
    unfold xread
    cases hw : Region.wanted o (ayielded ops tm) with
    | true =>
      obtain ⟨v, h3, h4⟩ := rdT_ex (h1 hw)
      exact ⟨v, by simpa using h3, fun d' hd' _ => by rw [hd] at hd'; cases hd'⟩
    | false => exact ⟨undef, by simp, fun d' hd' _ => by rw [hd] at hd'; cases hd'⟩
def recheckAll (P : Program) (ops : Array Oper) (tm : List Value) (h : AH) (k : Prop) : List Nat → Prop
  | [] => k
  | e :: r => recheckT P ops tm h e ∧ recheckAll P ops tm h k r
theorem recheckAll_sound {P : Program} {ops : Array Oper} {tm : List Value} {h : AH} {k : Prop} : ∀ {l : List Nat}, recheckAll P ops tm h k l → (∀ e ∈ l, X.Recheck P ops tm h e) ∧ k
  | [], hk => ⟨fun e he => (by cases he), hk⟩
  | e :: r, hk => by
    obtain ⟨h1, h2⟩ := hk
    obtain ⟨h3, h4⟩ := recheckAll_sound h2
    exact ⟨fun e' he => (by
      rcases List.mem_cons.1 he with rfl | he
      · exact recheckT_sound h1
      · exact h3 e' he), h4⟩

def runT (P : Program) (ops : Array Oper) (K : List Value → AH → Prop) : List Stp → List Value → AH → Prop
  | [], tm, h => K tm h
  | .take i :: r, tm, h => (match ops[i]? with
    | some o => guardT ops tm o (fun tm => rdT P tm h o fun v => runT P ops K r (aput tm o.dst v) h) (fun tm => runT P ops K r (aput tm o.dst undef) h)
    | none => False)
  | .eff i keep :: r, tm, h => (match ops[i]? with
    | some o => guardT ops tm o (fun tm => stepT P tm h o fun v h' => recheckAll P ops (aput tm o.dst v) h' (runT P ops K r (aput tm o.dst v) h') keep)
        (fun tm => recheckAll P ops (aput tm o.dst undef) h (runT P ops K r (aput tm o.dst undef) h) keep)
    | none => False)
def seqT (P : Program) (ops : Array Oper) (K : List Value → AH → Prop) : List Nat → List Value → AH → Prop
  | [], tm, h => K tm h
  | i :: r, tm, h => (match ops[i]? with
    | some o => guardT ops tm o (fun tm => stepT P tm h o fun v h' => seqT P ops K r (aput tm o.dst v) h') (fun tm => seqT P ops K r (aput tm o.dst undef) h)
    | none => False)

section
variable {P : Program} {ops : Array Oper} {K : List Value → AH → Prop}
theorem runT_sound (hN : NoNum P) : ∀ {l : List Stp} {tm : List Value} {h : AH}, runT P ops K l tm h → X.runW P ops l tm h K
  | [], tm, h, hk => hk
  | .take i :: r, tm, h, hk => by
    unfold runT at hk
    split at hk
    · rename_i o ho
      obtain ⟨h1, h2⟩ := guardT_iff hk
      unfold X.runW xread
      cases hw : Region.wanted o (ayielded ops tm) with
      | true =>
        obtain ⟨v, h3, h4⟩ := rdT_ex (h1 hw)
        exact ⟨o, v, ho, by simpa [hw] using h3, runT_sound hN h4⟩
      | false => exact ⟨o, undef, ho, by simp [hw], runT_sound hN (h2 hw)⟩
    · exact hk.elim
  | .eff i keep :: r, tm, h, hk => by
    unfold runT at hk
    split at hk
    · rename_i o ho
      obtain ⟨h1, h2⟩ := guardT_iff hk
      refine ⟨o, ho, fun hw => ?_, fun hw => ?_⟩
      · refine (stepT_sound hN (h1 hw)).mono fun v h' hr => ?_
        obtain ⟨h3, h4⟩ := recheckAll_sound hr
        exact ⟨h3, runT_sound hN h4⟩
      · obtain ⟨h3, h4⟩ := recheckAll_sound (h2 hw)
        exact ⟨h3, runT_sound hN h4⟩
    · exact hk.elim
theorem seqT_sound (hN : NoNum P) : ∀ {l : List Nat} {tm : List Value} {h : AH}, seqT P ops K l tm h → X.seqW P ops l tm h K
  | [], tm, h, hk => hk
  | i :: r, tm, h, hk => by
    unfold seqT at hk
    split at hk
    · rename_i o ho
      obtain ⟨h1, h2⟩ := guardT_iff hk
      refine ⟨o, ho, fun hw => ?_, fun hw => ?_⟩
      · exact (stepT_sound hN (h1 hw)).mono fun v h' hr => seqT_sound hN hr
      · exact seqT_sound hN (h2 hw)
    · exact hk.elim
theorem seqW_sound {w0 : World} {F : Fence} {n : Nat} {Q : Exit → Act → World → Prop} (hF : Wide F) : ∀ (l : List Nat) (tm : List Value) (h : AH), X.seqW P ops l tm h K → ∀ (β : Inj) (a : Act) (w : World), AR β tm.toArray a.tmps → WR w0 β h w →
    (∀ tm' h' β' (a' : Act) w', K tm' h' → Inj.le β β' → AR β' tm'.toArray a'.tmps → a'.defers = a.defers → WR w0 β' h' w' → Q .normal a' w') → wpOpsIn F n P ops Q l a w := by
  intro l
  induction l with
  | nil => intro tm h hv β a w ha hw hQ; exact hQ _ _ β a w hv (Inj.le.refl _) ha rfl hw
  | cons i r ih =>
    intro tm h hv β a w ha hw hQ
    obtain ⟨o, ho, hst⟩ := hv
    rw [wpOpsIn_cons]
    refine X.step_sound hF ho hst hw ha (fun _ => rfl) (wanted_congr fun j _ _ => yielded_all ha j) fun v h' u β' w' q0 q1 q2 q3 => ?_
    refine ih _ _ q0 β' _ w' (aput_rel (ha.mono q1) o.dst q2) q3 fun tm2 h2 β2 a2 w2 r0 r1 r2 r3 r4 => ?_
    exact hQ tm2 h2 β2 a2 w2 r0 (q1.trans r1) r2 (r3.trans (put_defers _ _ _)) r4
/-- As isRd; a text out of bytes is read too. -/
def isRdW (P : Program) : Op → Bool
  | .convert src dst _ => (match P.underlying dst, P.underlying src with | some (.slice _), _ => false | some .string, some (.slice _) => true | some .string, _ => false | _, _ => true)
  | o => isRd P o
noncomputable def planGoW (P : Program) (ops : Array Oper) (ps : List (Nat × Nat)) (k : Nat) : Nat → List Nat → Option (List Stp) :=
  @Nat.rec (fun _ => Nat → List Nat → Option (List Stp)) (fun _ _ => none) (fun _ ih m early => match readyM ps m with
    | [] => some []
    | l => match firstB (fun i => (match ops[i]? with | some o => isRdW P o.op | none => false) && freeM ops m i && noClobber ops early i) l with
      | some i => (match ih (Nat.lor m (Nat.shiftLeft 1 i)) (i :: early) with | some r => some (.take i :: r) | none => none)
      | none => (match l with
        | [i] => (match early.filter fun e => !(doneBy ops i).contains e with
          | keep => (match ih (Nat.lor m (Nat.shiftLeft 1 i)) keep with | some r => some (.eff i keep :: r) | none => none))
        | _ => none)) k
noncomputable def aplanW (P : Program) (ops : Array Oper) : Option (List Stp) :=
  match aplanM P ops with
  | some p => some p
  | none => (match planGoW P ops (pairsL ops (List.range ops.size)) (ops.size + 1) 0 [] with
    | some p => if acyclic ops && planOkM ops (pairsL ops (List.range ops.size)) p 0 [] then some p else none
    | none => none)
theorem aplanW_ok {P : Program} {ops : Array Oper} {p : List Stp} (hp : aplanW P ops = some p) : acyclic ops = true ∧ planOkM ops (pairsL ops (List.range ops.size)) p 0 [] = true := by
  unfold aplanW at hp
  split at hp
  · rename_i p' hp'
    cases hp
    unfold aplanM at hp'
    split at hp'
    · split at hp'
      · rename_i hok; cases hp'; simpa using hok
      · cases hp'
    · cases hp'
  · split at hp
    · split at hp
      · rename_i hok; cases hp; simpa using hok
      · cases hp
    · cases hp
theorem runW_sound {w0 w : World} {β : Inj} {F : Fence} {n : Nat} {Q : Exit → Act → World → Prop} {a : Act} {tm : List Value} {h : AH} (hF : Wide F) {p : List Stp} (hp : aplanW P ops = some p) (hv : X.runW P ops p tm h K)
    (ha : AR β tm.toArray a.tmps) (hw : WR w0 β h w) (hQ : ∀ tm' h' β' (a' : Act) w', K tm' h' → Inj.le β β' → AR β' tm'.toArray a'.tmps → a'.defers = a.defers → WR w0 β' h' w' → Q .normal a' w') :
    wpAnyIn F n P .any ops Q ops.size (Array.replicate ops.size false) a w := by
  have hok := aplanW_ok hp
  have hok2 := planOkM_ok p 0 (Array.replicate ops.size false) [] (MR.zero _) (by simp) hok.2
  have no : ∀ i, ¬ Is (Array.replicate ops.size false) i := fun i hi => by
    unfold Is at hi
    rw [Array.getD_eq_getD_getElem?, Array.getElem?_replicate] at hi
    split at hi <;> simp at hi
  have hI : X.Inv P ops β (Array.replicate ops.size false) ⟨Array.replicate ops.size false, [], tm⟩ h a :=
    ⟨by simp, by simp, fun i hi => hi, fun i h1 _ => absurd h1 (no i), (fun e he => by cases he), (fun e he => by cases he), (fun e he => by cases he), (fun e he => by cases he), (fun e he => by cases he),
      (fun i _ h1 => absurd h1 (no i)), (fun i _ h1 => absurd h1 (no i)), ⟨a.tmps, ha, rfl, fun _ _ => rfl⟩⟩
  refine X.run_sound hF hok.1 a.defers ops.size p _ _ tm h _ β a w hok2 hv hI hw rfl ?_ hQ
  rw [Array.toList_replicate]
  exact Nat.le_trans (List.count_le_length ..) (by simp)
end

/-! ### code -/
/-- Code as a condition; loops stand for themselves. -/
def wpa (P : Program) (rd : Option Nat) : Code → List Value → List Nat → AH → KW → Prop
  | .skip, tm, ds, h, K => K .normal tm ds h
  | .label _, tm, ds, h, K => K .normal tm ds h
  | .region _ ops true, tm, ds, h, K => (match P.follows .mixedOrders, aplanW P ops with
    | true, some p => runT P ops (fun tm' h' => K .normal tm' ds h') p tm h
    | _, _ => False)
  | .region _ ops false, tm, ds, h, K => seqT P ops (fun tm' h' => K .normal tm' ds h') (List.range ops.size) tm h
  | .seq x y, tm, ds, h, K => wpa P rd x tm ds h fun e tm' ds' h' => (match e with
    | .normal => wpa P rd y tm' ds' h' K
    | e => K e tm' ds' h')
  | .cond c x y, tm, ds, h, K => (match c with
    | .tmp t => (match tm[t]? with
      | some (.bool b) => iteB b (wpa P rd x (lset tm (.bool true) t) ds h K) (wpa P rd y (lset tm (.bool false) t) ds h K)
      | _ => False)
    | .const (.bool b) => iteB b (wpa P rd x tm ds h K) (wpa P rd y tm ds h K)
    | _ => False)
  | .block id x, tm, ds, h, K => wpa P rd x tm ds h fun e tm' ds' h' => (match e with
    | .exit i => (match Nat.beq i id with | true => K .normal tm' ds' h' | false => K (.exit i) tm' ds' h')
    | e => K e tm' ds' h')
  | .loop x, tm, ds, h, K => CodeW P rd (.loop x) tm ds h K
  | .scope x, tm, ds, h, K => wpa P rd x tm ds h fun e tm' ds' h' => (match e with
    | .goto _ => False
    | e => K e tm' ds' h')
  | .exit id, tm, ds, h, K => K (.exit id) tm ds h
  | .ret, tm, ds, h, K => K .ret tm ds h
  | .rangeFunc f ps as bd, tm, ds, h, K => CodeW P rd (.rangeFunc f ps as bd) tm ds h K
  | _, _, _, _, _ => False

theorem wpa_sound {P : Program} (hN : NoNum P) : ∀ {c : Code} {rd : Option Nat} {tm : List Value} {ds : List Nat} {h : AH} {K : KW}, wpa P rd c tm ds h K → CodeW P rd c tm ds h K := by
  intro c
  induction c with
  | skip => intro rd tm ds h K hk; exact ⟨fun w0 β F a w n h1 h2 h3 h4 => wpIn_skip ⟨tm, ds, h, β, hk, Inj.le.refl _, h2, h3, h4⟩⟩
  | label l => intro rd tm ds h K hk; exact ⟨fun w0 β F a w n h1 h2 h3 h4 => wpIn_label ⟨tm, ds, h, β, hk, Inj.le.refl _, h2, h3, h4⟩⟩
  | region id ops draw =>
    intro rd tm ds h K hk
    cases draw with
    | true =>
      unfold wpa at hk
      split at hk
      · rename_i p hm hp
        refine ⟨fun w0 β F a w n h1 h2 h3 h4 => wpIn_region_any hm ?_⟩
        refine runW_sound h1.wide hp (runT_sound hN hk) h2 h4.drew fun tm' h' β' a' w' q0 q1 q2 q3 q4 => ?_
        exact ⟨tm', ds, h', β', q0, q1, q2, by rw [q3]; exact h3.mono q1, q4⟩
      · exact hk.elim
    | false =>
      refine ⟨fun w0 β F a w n h1 h2 h3 h4 => wpIn_region ?_⟩
      refine seqW_sound h1.wide _ tm h (seqT_sound hN hk) β a w h2 h4 fun tm' h' β' a' w' q0 q1 q2 q3 q4 => ?_
      exact ⟨tm', ds, h', β', q0, q1, q2, by rw [q3]; exact h3.mono q1, q4⟩
  | seq x y ihx ihy =>
    intro rd tm ds h K hk
    refine ⟨fun w0 β F a w n h1 h2 h3 h4 => wpIn_seq (wpIn_mono ((ihx hk).out w0 β F a w n h1 h2 h3 h4) fun e a w hq => ?_)⟩
    obtain ⟨tm', ds', h', β', q1, q2, q3, q4, q5⟩ := hq
    cases e with
    | normal => exact wpIn_mono ((ihy q1).out w0 β' F a w n (h1.mono q2) q3 q4 q5) fun e a w hq => hq.le q2
    | exit id => exact ⟨tm', ds', h', β', q1, q2, q3, q4, q5⟩
    | goto l => exact ⟨tm', ds', h', β', q1, q2, q3, q4, q5⟩
    | ret => exact ⟨tm', ds', h', β', q1, q2, q3, q4, q5⟩
    | panic c => exact ⟨tm', ds', h', β', q1, q2, q3, q4, q5⟩
    | outgrown => exact ⟨tm', ds', h', β', q1, q2, q3, q4, q5⟩
  | cond c x y ihx ihy =>
    intro rd tm ds h K hk
    unfold wpa at hk
    split at hk
    · rename_i t
      split at hk
      · rename_i b hb
        have hv : aeval tm (.tmp t) = some (.bool b) := by simp only [aeval, lget_eq, List.getD_eq_getElem?_getD, hb, Option.getD_some]
        cases b with
        | true => rw [lset_same hb] at hk; exact ⟨fun w0 β F a w n h1 h2 h3 h4 => wpIn_cond_true (bool_of h2 hv) ((ihx hk).out w0 β F a w n h1 h2 h3 h4)⟩
        | false => rw [lset_same hb] at hk; exact ⟨fun w0 β F a w n h1 h2 h3 h4 => wpIn_cond_false (bool_of h2 hv) ((ihy hk).out w0 β F a w n h1 h2 h3 h4)⟩
      · exact hk.elim
    · rename_i b
      have hv : aeval tm (.const (.bool b)) = some (.bool b) := rfl
      cases b with
      | true => exact ⟨fun w0 β F a w n h1 h2 h3 h4 => wpIn_cond_true (bool_of h2 hv) ((ihx hk).out w0 β F a w n h1 h2 h3 h4)⟩
      | false => exact ⟨fun w0 β F a w n h1 h2 h3 h4 => wpIn_cond_false (bool_of h2 hv) ((ihy hk).out w0 β F a w n h1 h2 h3 h4)⟩
    · exact hk.elim
  | block id x ihx =>
    intro rd tm ds h K hk
    refine ⟨fun w0 β F a w n h1 h2 h3 h4 => wpIn_block (wpIn_mono ((ihx hk).out w0 β F a w n h1 h2 h3 h4) fun e a w hq => ?_)⟩
    obtain ⟨tm', ds', h', β', q1, q2, q3, q4, q5⟩ := hq
    cases e with
    | normal => exact ⟨tm', ds', h', β', q1, q2, q3, q4, q5⟩
    | exit i =>
      simp only [Exit.inBlock]
      simp only at q1
      by_cases hi : i = id
      · subst hi
        rw [if_pos rfl]
        rw [Nat.beq_refl] at q1
        exact ⟨tm', ds', h', β', q1, q2, q3, q4, q5⟩
      · rw [if_neg hi]
        have : Nat.beq i id = false := by
          cases hb : Nat.beq i id with
          | false => rfl
          | true => exact absurd (Nat.eq_of_beq_eq_true hb) hi
        rw [this] at q1
        exact ⟨tm', ds', h', β', q1, q2, q3, q4, q5⟩
    | goto l => exact ⟨tm', ds', h', β', q1, q2, q3, q4, q5⟩
    | ret => exact ⟨tm', ds', h', β', q1, q2, q3, q4, q5⟩
    | panic c => exact ⟨tm', ds', h', β', q1, q2, q3, q4, q5⟩
    | outgrown => exact ⟨tm', ds', h', β', q1, q2, q3, q4, q5⟩
  | loop x ih => intro rd tm ds h K hk; exact hk
  | rangeFunc f ps as bd _ _ => intro rd tm ds h K hk; exact hk
  | scope x ihx =>
    intro rd tm ds h K hk
    refine ⟨fun w0 β F a w n h1 h2 h3 h4 => wpIn_scope (wpIn_mono ((ihx hk).out w0 β F a w n h1 h2 h3 h4) fun e a w hq => ?_)⟩
    obtain ⟨tm', ds', h', β', q1, q2, q3, q4, q5⟩ := hq
    cases e with
    | normal => exact ⟨tm', ds', h', β', q1, q2, q3, q4, q5⟩
    | exit i => exact ⟨tm', ds', h', β', q1, q2, q3, q4, q5⟩
    | goto l => exact q1.elim
    | ret => exact ⟨tm', ds', h', β', q1, q2, q3, q4, q5⟩
    | panic c => exact ⟨tm', ds', h', β', q1, q2, q3, q4, q5⟩
    | outgrown => exact ⟨tm', ds', h', β', q1, q2, q3, q4, q5⟩
  | exit id => intro rd tm ds h K hk; exact ⟨fun w0 β F a w n h1 h2 h3 h4 => wpIn_exit ⟨tm, ds, h, β, hk, Inj.le.refl _, h2, h3, h4⟩⟩
  | ret => intro rd tm ds h K hk; exact ⟨fun w0 β F a w n h1 h2 h3 h4 => wpIn_ret ⟨tm, ds, h, β, hk, Inj.le.refl _, h2, h3, h4⟩⟩
  | goto l => intro rd tm ds h K hk; exact hk.elim
  | refuse y => intro rd tm ds h K hk; exact hk.elim

/-! ### loops -/
/-- A loop by an invariant that counts down. -/
theorem CodeW.loop {P : Program} {rd : Option Nat} {c : Code} {K : KW} {I : Nat → List Value → List Nat → AH → Prop}
    (step : ∀ m tm ds h, I m tm ds h → CodeW P rd c tm ds h fun e tm' ds' h' => (match e with
      | .normal => ∃ m', m' < m ∧ I m' tm' ds' h'
      | e => K e tm' ds' h')) {m : Nat} {tm : List Value} {ds : List Nat} {h : AH} (h0 : I m tm ds h) : CodeW P rd (.loop c) tm ds h K := by
  refine ⟨fun w0 β F a w n h1 h2 h3 h4 => wpIn_loop_rounds (m + 1) ?_⟩
  suffices H : ∀ (k m : Nat) (tm : List Value) (ds : List Nat) (h : AH) (β : Inj) (a : Act) (w : World), m < k → I m tm ds h → FRd β rd F → AR β tm.toArray a.tmps → DS β ds a.defers → WR w0 β h w → Code.roundsIn F n P c (QW w0 β K) k a w from
    H (m + 1) m tm ds h β a w (Nat.lt_succ_self _) h0 h1 h2 h3 h4
  intro k
  induction k with
  | zero => intro m tm ds h β a w hm; omega
  | succ k ih =>
    intro m tm ds h β a w hm hI h1 h2 h3 h4
    rw [roundsIn_succ]
    refine wpIn_mono ((step m tm ds h hI).out w0 β F a w n h1 h2 h3 h4) fun e a w hq => ?_
    obtain ⟨tm', ds', h', β', q1, q2, q3, q4, q5⟩ := hq
    cases e with
    | normal =>
      obtain ⟨m', hlt, hI'⟩ := q1
      exact roundsIn_mono (fun e a w hq => hq.le q2) (ih m' tm' ds' h' β' a w (by omega) hI' (h1.mono q2) q3 q4 q5)
    | exit id => exact ⟨tm', ds', h', β', q1, q2, q3, q4, q5⟩
    | goto l => exact ⟨tm', ds', h', β', q1, q2, q3, q4, q5⟩
    | ret => exact ⟨tm', ds', h', β', q1, q2, q3, q4, q5⟩
    | panic c => exact ⟨tm', ds', h', β', q1, q2, q3, q4, q5⟩
    | outgrown => exact ⟨tm', ds', h', β', q1, q2, q3, q4, q5⟩

/-! ### calls -/
def closeT (ds : List Nat) (h : AH) (k : AH → Prop) : Prop :=
  match ds with
  | [] => k h
  | d :: r => ∃ h', aclose (d :: r) h = some h' ∧ k h'
def resT (P : Program) (tm : List Value) (h : AH) : List ResultVar → List Value → (List Value → Prop) → Prop
  | [], acc, k => k acc
  | .tmp t :: r, acc, k => resT P tm h r (acc ++ [lget tm undef t]) k
  | .cell a t :: r, acc, k => asT P t fun v => aload P h t (lget tm undef a) = some v ∧ resT P tm h r (acc ++ [v]) k
def leaveT (P : Program) (fn : Func) (Q : Value → AH → Prop) : KW := fun e tm ds h => match e with
  | .normal => closeT ds h fun h' => resT P tm h' fn.results.toList [] fun l => Q (packed l) h'
  | .ret => closeT ds h fun h' => resT P tm h' fn.results.toList [] fun l => Q (packed l) h'
  | _ => False
theorem resT_ex {P : Program} {tm : List Value} {h : AH} : ∀ {l : List ResultVar} {acc : List Value} {k : List Value → Prop}, resT P tm h l acc k → ∃ r, aresults P h tm l = some r ∧ k (acc ++ r)
  | [], acc, k, hk => ⟨[], rfl, by rw [List.append_nil]; exact hk⟩
  | .tmp t :: r, acc, k, hk => by
    obtain ⟨q, h1, h2⟩ := resT_ex (show resT P tm h r _ k from hk)
    exact ⟨tm.getD t undef :: q, by simp only [aresults, aresult, h1], by rw [lget_eq] at h2; simpa using h2⟩
  | .cell a t :: r, acc, k, hk => by
    obtain ⟨v, hv, hk⟩ := asT_ex (show asT P t _ from hk)
    obtain ⟨q, h1, h2⟩ := resT_ex hk
    rw [lget_eq] at hv
    exact ⟨v :: q, by simp only [aresults, aresult, h1, hv], by simpa using h2⟩
theorem CallW.body {P : Program} (hN : NoNum P) {f : FuncId} {fn : Func} {c : Code} {args : List Value} {h : AH} {Q : Value → AH → Prop} (hfn : P.funcs[f]? = some fn) (hb : fn.body = some c)
    (hk : CodeW P none c (args ++ List.replicate (fn.ntmps - args.length) undef) [] h (leaveT P fn Q)) : CallW P f args h Q := by
  refine ⟨fun w0 β w args' hw ha n => ?_⟩
  refine callsIn_of_wp_marks hfn hb trivial ?_
  have hsz : args.length = args'.size := by simpa using ha.1
  have h2 : AR β (args ++ List.replicate (fn.ntmps - args.length) undef).toArray (args' ++ Array.replicate (fn.ntmps - args'.size) undef) := by
    have e : (args ++ List.replicate (fn.ntmps - args.length) undef).toArray = args.toArray ++ Array.replicate (fn.ntmps - args'.size) undef := by
      apply Array.ext'; simp [hsz]
    rw [e]
    exact AR.append ha ⟨rfl, fun i hi => by
      have : (Array.replicate (fn.ntmps - args'.size) undef).getD i undef = undef := by simp at hi; simp [hi]
      rw [this]; exact VR.undef _⟩
  refine wpIn_mono (hk.out w0 β Fence.wide _ w n rfl h2 trivial hw) fun e a w1 hq => ?_
  obtain ⟨tm, ds, h1, β1, q1, q2, q3, q4, q5⟩ := hq
  have key : (closeT ds h1 fun h' => resT P tm h' fn.results.toList [] fun l => Q (packed l) h') → LeavesInM Fence.wide n P fn a.tmps (RetW w0 β Q) a.defers .returning w1 := by
    intro hh
    have hh : ∃ h', aclose ds h1 = some h' ∧ resT P tm h' fn.results.toList [] fun l => Q (packed l) h' := by
      cases ds with
      | nil => exact ⟨h1, rfl, hh⟩
      | cons d r => exact hh
    obtain ⟨h', hc, hr⟩ := hh
    obtain ⟨l, hl, hQ⟩ := resT_ex hr
    rw [List.nil_append] at hQ
    refine aclose_sound _ _ _ h' _ hc q4 q5 fun w' hw' => ?_
    obtain ⟨l', r1, r2⟩ := aresults_sound hw' q3 _ _ hl
    refine ⟨if h : l'.toArray.size = 1 then l'.toArray[0] else .tuple l'.toArray, ?_, ?_⟩
    · have e : results fn a.tmps = (do let vs ← fn.results.mapM (resOne a.tmps); pure (if h : vs.size = 1 then vs[0] else .tuple vs)) := rfl
      rw [e, Array.mapM_eq_mapM_toList]
      simp only [Sem.run_bind, Sem.run_map, r1, Result.andThen, Sem.run_pure]
    · exact ⟨_, rfl, _, _, β1, hQ, q2, packed_sound r2, hw'⟩
  cases e with
  | normal => exact key q1
  | ret => exact key q1
  | exit i => exact q1.elim
  | goto l => exact q1.elim
  | panic c => exact q1.elim
  | outgrown => exact q1.elim

/-! ### places in code -/
def subAt : Code → List Nat → Code
  | c, [] => c
  | .seq x y, i :: p => (match i with | 0 => subAt x p | _ => subAt y p)
  | .cond _ x y, i :: p => (match i with | 0 => subAt x p | _ => subAt y p)
  | .block _ x, _ :: p => subAt x p
  | .loop x, _ :: p => subAt x p
  | .scope x, _ :: p => subAt x p
  | .rangeFunc _ _ as bd, i :: p => (match i with | 0 => subAt as p | _ => subAt bd p)
  | c, _ :: _ => c
/-- What comes behind a place. -/
def contAt (P : Program) (rd : Option Nat) : Code → List Nat → KW → KW
  | _, [], K => K
  | .seq x y, i :: p, K => (match i with
    | 0 => contAt P rd x p fun e tm' ds' h' => (match e with | .normal => wpa P rd y tm' ds' h' K | e => K e tm' ds' h')
    | _ => contAt P rd y p K)
  | .cond _ x y, i :: p, K => (match i with | 0 => contAt P rd x p K | _ => contAt P rd y p K)
  | .block id x, _ :: p, K => contAt P rd x p fun e tm' ds' h' => (match e with
    | .exit i => (match Nat.beq i id with | true => K .normal tm' ds' h' | false => K (.exit i) tm' ds' h')
    | e => K e tm' ds' h')
  | .scope x, _ :: p, K => contAt P rd x p fun e tm' ds' h' => (match e with
    | .goto _ => False
    | e => K e tm' ds' h')
  | _, _ :: _, K => K
def bodyOf (fn : Func) : Code := match fn.body with | some c => c | none => .skip
def loopBody (c : Code) : Code := match c with | .loop x => x | c => c
/-- A loop at a place, with what comes behind it. -/
def LoopAt (P : Program) (rd : Option Nat) (c : Code) (p : List Nat) (tm : List Value) (ds : List Nat) (h : AH) (K : KW) : Prop :=
  CodeW P rd (subAt c p) tm ds h (contAt P rd c p K)
/-- What comes behind a round of it. -/
def roundK (P : Program) (rd : Option Nat) (c : Code) (p : List Nat) (Kn : List Value → List Nat → AH → Prop) (K : KW) : KW := fun e tm' ds' h' => (match e with
    | .normal => Kn tm' ds' h'
    | e => contAt P rd c p K e tm' ds' h')
/-- A round of it: Kn comes behind a round that ends as it should. -/
def roundAt (P : Program) (rd : Option Nat) (c : Code) (p : List Nat) (tm : List Value) (ds : List Nat) (h : AH) (Kn : List Value → List Nat → AH → Prop) (K : KW) : Prop :=
  wpa P rd (loopBody (subAt c p)) tm ds h (roundK P rd c p Kn K)
def isLoop (c : Code) : Bool := match c with | .loop _ => true | _ => false
theorem LoopAt.rule {P : Program} (hN : NoNum P) {rd : Option Nat} {c : Code} {p : List Nat} {tm : List Value} {ds : List Nat} {h : AH} {K : KW} (hx : isLoop (subAt c p) = true) (I : Nat → List Value → AH → Prop) (m : Nat) (h0 : I m tm h)
    (step : ∀ m tm h, I m tm h → roundAt P rd c p tm ds h (fun tm' ds' h' => ds' = ds ∧ ∃ m', m' < m ∧ I m' tm' h') K) : LoopAt P rd c p tm ds h K := by
  unfold LoopAt
  obtain ⟨x, hx⟩ : ∃ x, subAt c p = .loop x := by
    revert hx
    cases subAt c p <;> intro hx <;> first | exact ⟨_, rfl⟩ | cases hx
  rw [hx]
  refine CodeW.loop (I := fun m tm ds' h => ds' = ds ∧ I m tm h) (fun m tm ds' h ⟨hd, hI⟩ => ?_) ⟨rfl, h0⟩
  subst hd
  have := wpa_sound hN (step m tm h hI)
  rw [show loopBody (subAt c p) = x by rw [hx]; rfl] at this
  refine this.mono fun e tm' ds'' h' hq => ?_
  cases e with
  | normal => obtain ⟨h1, m', h2, h3⟩ := hq; exact ⟨m', h2, h1, h3⟩
  | exit i => exact hq
  | goto l => exact hq
  | ret => exact hq
  | panic c => exact hq
  | outgrown => exact hq
theorem CallW.code {P : Program} (hN : NoNum P) {f : FuncId} {fn : Func} {args : List Value} {h : AH} {Q : Value → AH → Prop} (hfn : P.funcs[f]? = some fn) (hb : fn.body.isSome = true)
    (hk : wpa P none (bodyOf fn) (args ++ List.replicate (fn.ntmps - args.length) undef) [] h (leaveT P fn Q)) : CallW P f args h Q := by
  cases hq : fn.body with
  | none => rw [hq] at hb; cases hb
  | some c =>
    have e : bodyOf fn = c := by unfold bodyOf; rw [hq]
    rw [e] at hk
    exact CallW.body hN hfn hq (wpa_sound hN hk)
end
end Go.AE
