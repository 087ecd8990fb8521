/- A part of the proof of SnapPieces. Conditions: those of the card. -/
import Derived.Test.YtcpedibmacomcaaGreatDoorAeB

/- Values compared; operations that leave the memory as it is. -/
namespace Go.AE
noncomputable section
open Go.RowKit

def alleq (p : Value → Value → Bool) : List Value → List Value → Bool
  | [], [] => true
  | x :: r, y :: s => p x y && alleq p r s
  | _, _ => false
theorem alleq_eq {p : Value → Value → Bool} (hp : ∀ x y, p x y = true → x = y) : ∀ l m, alleq p l m = true → l = m := by
  intro l
  induction l with
  | nil => intro m h; cases m <;> simp_all [alleq]
  | cons x r ih =>
    intro m h
    cases m with
    | nil => simp [alleq] at h
    | cons y s =>
      simp only [alleq, Bool.and_eq_true] at h
      rw [hp _ _ h.1, ih _ h.2]
def veq : Nat → Value → Value → Bool
  | _, .bool a, .bool b => a == b
  | _, .int j a, .int k b => decide (j = k) && decide (a = b)
  | _, .string a, .string b => a.data.toList == b.data.toList
  | _, .pointer a, .pointer b => decide (a = b)
  | _, .slice a l c, .slice b m d => decide (a = b) && decide (l = m) && decide (c = d)
  | _, .map a, .map b => decide (a = b)
  | _, .nilFunc, .nilFunc => true
  | _, .nilIface, .nilIface => true
  | n + 1, .func f a c, .func g b d => decide (f = g) && alleq (veq n) a.toList b.toList && alleq (veq n) c.toList d.toList
  | n + 1, .iface t v, .iface u w => decide (t = u) && veq n v w
  | n + 1, .agg a, .agg b => alleq (veq n) a.toList b.toList
  | n + 1, .tuple a, .tuple b => alleq (veq n) a.toList b.toList
  | _, _, _ => false
theorem veq_eq : ∀ (n : Nat) (v u : Value), veq n v u = true → v = u := by
  intro n
  induction n with
  | zero =>
    intro v u h
    cases v <;> cases u <;> simp [veq] at h <;> first
      | (subst h; rfl)
      | (obtain ⟨rfl, rfl⟩ := h; rfl)
      | (obtain ⟨⟨rfl, rfl⟩, rfl⟩ := h; rfl)
      | (rename_i a b; cases a; cases b; simp only at h; subst h; rfl)
      | rfl
      | skip
  | succ n ih =>
    intro v u h
    cases v <;> cases u <;> simp [veq] at h <;> first
      | (subst h; rfl)
      | (obtain ⟨rfl, h2⟩ := h; rw [ih _ _ h2])
      | (obtain ⟨rfl, rfl⟩ := h; rfl)
      | (obtain ⟨⟨rfl, rfl⟩, rfl⟩ := h; rfl)
      | (obtain ⟨⟨rfl, h2⟩, h3⟩ := h; rw [Array.toList_inj.1 (alleq_eq ih _ _ h2), Array.toList_inj.1 (alleq_eq ih _ _ h3)])
      | (rw [Array.toList_inj.1 (alleq_eq ih _ _ h)])
      | (rename_i a b; cases a; cases b; simp only at h; subst h; rfl)
      | rfl
      | skip

section
variable {P : Program} {w0 w : World} {β : Inj} {h : AH} {tm : List Value} {a : Act}

def areader (P : Program) (tm : List Value) (h : AH) (o : Oper) : Option Value :=
  match apure P tm o with
  | some v => some v
  | none =>
    match o.op with
    | .load t x => (match aeval tm x with | some v => aload P h t v | none => none)
    | .slice t x lo hi mx => (match aeval tm x, oval tm lo, oval tm hi, oval tm mx with | some u, some a, some b, some c => aslice P h t u a b c | _, _, _, _ => none)
    | .lookup t x k ok => (match aeval tm x, aeval tm k with | some u, some v => alookup P h t u v ok | _, _ => none)
    | .call c => (match c.callee with
      | .builtin .len => (match c.argTypes.toList, c.args.toList with
        | [t], [x] => (match aeval tm x with | some u => alen P h t u | _ => none)
        | _, _ => none)
      | _ => none)
    | _ => none
theorem areader_sound {o : Oper} {v : Value} (hw : WR w0 β h w) (ha : AR β tm.toArray a.tmps) (hv : areader P tm h o = some v) :
    ∃ v', (execOp a.eval o).run P w = .ok (.value v') w ∧ VR β v v' := by
  unfold areader at hv
  split at hv
  · rename_i v0 hp
    cases hv
    obtain ⟨v', h1, h2⟩ := apure_sound ha hp
    exact ⟨v', h1 w, h2⟩
  · unfold execOp
    split at hv <;> first | (rename_i hop; rw [hop]) | skip
    · split at hv
      · rename_i hx
        obtain ⟨v', h1, h2⟩ := aload_sound hw (aeval_sound ha hx) hv
        exact ⟨v', val_run h1, h2⟩
      · cases hv
    · split at hv
      · rename_i hx h1 h2 h3
        obtain ⟨v', h1, h2⟩ := aslice_sound hw (aeval_sound ha hx) (oval_sound ha h1) (oval_sound ha h2) (oval_sound ha h3) hv
        exact ⟨v', val_run h1, h2⟩
      · cases hv
    · split at hv
      · rename_i hx hy
        obtain ⟨v', h1, h2⟩ := alookup_sound hw (aeval_sound ha hx) (aeval_sound ha hy) hv
        exact ⟨v', val_run h1, h2⟩
      · cases hv
    · rename_i c
      split at hv
      · rename_i hc
        split at hv
        · rename_i t x ht hl
          split at hv
          · rename_i u hx
            obtain ⟨v', h1, h2⟩ := alen_sound (ty := o.type) hw (aeval_sound ha hx) hv
            have e2 := args1 (a := a) hl
            have e3 := types1 ht
            refine ⟨v', ?_, h2⟩
            have : (do let d ← resolve a.eval c o.type; invoke d.target d.args : Sem Next) = (do pure (.value (← Builtin.len_ #[t] o.type #[a.eval x]))) := by
              simp [resolve, hc, e2, e3, invoke, builtin]
            show Sem.run P (do let d ← resolve a.eval c o.type; invoke d.target d.args) w = _
            rw [this]; exact val_run h1
          · cases hv
        · cases hv
      · cases hv
    · cases hv

/-- Slots as a region's guards see them. -/
def ayielded (ops : Array Oper) (tm : List Value) (j : Nat) : Option Bool :=
  match ((ops[j]?).bind (·.dst)).bind (tm[·]?) with
  | some (.bool b) => some b
  | _ => none
theorem wanted_congr {o : Oper} {f g : Nat → Option Bool} (h : ∀ j wnt, o.guard = some (j, wnt) → f j = g j) : Region.wanted o f = Region.wanted o g := by
  unfold Region.wanted
  cases hg : o.guard with
  | none => rfl
  | some p => obtain ⟨j, wnt⟩ := p; simp only [h j wnt hg]
theorem yielded_slot {ops : Array Oper} {T : Array Value} {j s : Nat} (hs : (ops[j]?).bind (·.dst) = some s) (hsz : tm.length = T.size) (hr : VR β (tm.getD s undef) (T.getD s undef)) : yielded ops T j = ayielded ops tm j := by
  unfold yielded ayielded
  rw [hs]
  simp only [Option.bind_some]
  by_cases hlt : s < tm.length
  · have hlt' : s < T.size := by omega
    have e1 : tm.getD s undef = tm[s] := by simp [List.getD_eq_getElem?_getD, hlt]
    have e2 : T.getD s undef = T[s] := by simp [Array.getD, hlt']
    rw [e1, e2] at hr
    rw [List.getElem?_eq_getElem hlt, Array.getElem?_eq_getElem hlt']
    generalize tm[s] = u at hr ⊢
    generalize T[s] = u' at hr ⊢
    cases hr <;> rfl
  · have hlt' : ¬ s < T.size := by omega
    rw [List.getElem?_eq_none (by omega), Array.getElem?_eq_none (by omega)]
theorem yielded_none {ops : Array Oper} {T : Array Value} {j : Nat} (hs : (ops[j]?).bind (·.dst) = none) : yielded ops T j = ayielded ops tm j := by
  unfold yielded ayielded
  rw [hs]; rfl

/-- A reading operation, or one whose guard says no. -/
def aread (P : Program) (ops : Array Oper) (tm : List Value) (h : AH) (o : Oper) : Option Value :=
  if Region.wanted o (ayielded ops tm) then areader P tm h o else some undef
end
end
end Go.AE

/- One operation of a region, its calls too; a region in its text's order. -/
namespace Go.AE
noncomputable section
open Go.RowKit

def bindLI {α γ : Type} (f : α → Option (List γ)) : List α → Option (List γ)
  | [] => some []
  | [x] => f x
  | x :: r => match f x, bindLI f r with
    | some a, some b => some (a ++ b)
    | _, _ => none
noncomputable def bindL {α γ : Type} (f : α → Option (List γ)) (l : List α) : Option (List γ) :=
  @List.rec α (fun _ => Option (List γ)) (some []) (fun x r ih => @List.casesOn α (fun _ => Option (List γ)) r (f x) (fun _ _ => match f x, ih with
    | some a, some b => some (a ++ b)
    | _, _ => none)) l
theorem bindL_one {α γ : Type} (f : α → Option (List γ)) (x : α) : bindL f [x] = f x := rfl
theorem bindL_cons {α γ : Type} (f : α → Option (List γ)) (x y : α) (r : List α) : bindL f (x :: y :: r) = match f x, bindL f (y :: r) with
    | some a, some b => some (a ++ b)
    | _, _ => none := rfl
theorem bindL_mem {α γ : Type} {f : α → Option (List γ)} : ∀ {l : List α} {r : List γ}, bindL f l = some r → ∀ x ∈ l, ∃ a, f x = some a ∧ ∀ y ∈ a, y ∈ r := by
  intro l
  induction l with
  | nil => intro r _ x hx; cases hx
  | cons z t ih =>
    intro r hr x hx
    cases t with
    | nil =>
      rw [bindL_one] at hr
      have := List.mem_singleton.1 hx
      subst this
      exact ⟨r, hr, fun y hy => hy⟩
    | cons z2 t =>
    rw [bindL_cons] at hr
    split at hr
    · rename_i a b ha hb
      cases hr
      rcases List.mem_cons.1 hx with rfl | hx
      · exact ⟨a, ha, fun y hy => List.mem_append_left _ hy⟩
      · obtain ⟨a', h1, h2⟩ := ih hb x hx
        exact ⟨a', h1, fun y hy => List.mem_append_right _ (h2 y hy)⟩
    · cases hr

/-- What calls and rounds come to. -/
structure Ev where
  code : Option Nat → Code → List Value → List Nat → AH → Option (List (Exit × List Value × List Nat × AH))
  call : FuncId → List Value → AH → Option (List (Value × AH))
  round : Nat → List Value → Code → Code → AH → Option (List (Value × AH))

def Wide (F : Fence) : Prop := F = Fence.wide ∨ ∃ l, F = Fence.wide.inRound l
theorem Wide.fn {F : Fence} (h : Wide F) (f : FuncId) : F.fn f := by
  rcases h with rfl | ⟨l, rfl⟩ <;> trivial
theorem Wide.depth {F : Fence} (h : Wide F) (n : Nat) : F.depth.isSome = true → 1 ≤ n := by
  rcases h with rfl | ⟨l, rfl⟩ <;> (intro h; cases h)
theorem Wide.calls {F : Fence} (h : Wide F) {n : Nat} {P : Program} {f : FuncId} {args : Array Value} {w : World} {R : Ending → World → Prop} (hc : CallsIn Fence.wide n P f args w R) : CallsIn F n P f args w R := by
  rcases h with rfl | ⟨l, rfl⟩
  · exact hc
  · exact hc
theorem Wide.rounds {F : Fence} (h : Wide F) {n : Nat} {P : Program} {l : Nat} {f : FuncId} {T : Array Value} {as bd : Code} {w : World} {R : Ending → World → Prop} (hc : RoundIn Fence.wide n P l f T as bd w R) : RoundIn F n P l f T as bd w R := by
  rcases h with rfl | ⟨l, rfl⟩
  · exact hc
  · exact hc

def RetP (w0 : World) (β : Inj) (outs : List (Value × AH)) : Ending → World → Prop := fun e w' =>
  ∃ v', e = .returned v' ∧ ∃ o ∈ outs, ∃ β', Inj.le β β' ∧ VR β' o.1 v' ∧ WR w0 β' o.2 w'

structure EvOK (P : Program) (w0 : World) (E : Ev) : Prop where
  call : ∀ f args h outs, E.call f args h = some outs → ∀ β w args', WR w0 β h w → AR β args.toArray args' → ∀ n, CallsIn Fence.wide n P f args' w (RetP w0 β outs)
  round : ∀ l tm as bd h outs, E.round l tm as bd h = some outs → ∀ β w L f T, β l = some L → WR w0 β h w → AR β tm.toArray T → ∀ n, RoundIn Fence.wide n P L.blk f T as bd w (RetP w0 β outs)

def aput (tm : List Value) (dst : Option Tmp) (v : Value) : List Value :=
  match dst with
  | some d => lset tm v d
  | none => tm
theorem aput_some (tm : List Value) (d : Tmp) (v : Value) : aput tm (some d) v = tm.set d v := lset_eq _ _ _
theorem aput_rel {β : Inj} {tm : List Value} {a : Act} (ha : AR β tm.toArray a.tmps) (dst : Option Tmp) {v u : Value} (hv : VR β v u) : AR β (aput tm dst v).toArray (a.put dst u).tmps := by
  cases dst with
  | none => exact ha
  | some d =>
    have := ha.set d hv
    have e : (tm.set d v).toArray = tm.toArray.setIfInBounds d v := by simp
    show AR β (aput tm (some d) v).toArray (a.tmps.setIfInBounds d u)
    rw [aput_some, e]; exact this
theorem put_defers (a : Act) (dst : Option Tmp) (v : Value) : (a.put dst v).defers = a.defers := by cases dst <;> rfl

def astep (P : Program) (E : Ev) (ops : Array Oper) (tm : List Value) (h : AH) (o : Oper) : Option (List (Value × AH)) :=
  if Region.wanted o (ayielded ops tm) then
    match aop P tm h o with
    | some (.vals outs) => some outs
    | some (.skip h') => some [(undef, h')]
    | some (.enter f args) => E.call f args h
    | some (.round l T as bd) => E.round l T as bd h
    | none => none
  else some [(undef, h)]

section
variable {P : Program} {w0 w : World} {β : Inj} {h : AH} {tm : List Value} {E : Ev} {F : Fence} {n : Nat} {ops : Array Oper} {Q : Exit → Act → World → Prop}

theorem aop_noDefer {o : Oper} {r : ARes} (hv : aop P tm h o = some r) : ∀ c, o.op ≠ .defer c := by
  intro c hc
  unfold aop apure at hv
  rw [hc] at hv
  simp at hv
theorem semAt_of {o : Oper} (hd : ∀ c, o.op ≠ .defer c) (ro : Option Nat) (ρ : Operand → Value) : o.semAt ro ρ = execOp ρ o := Oper.semAt_eq ro ρ o hd

/-- One operation, carried out in state a, whose operands are those of state a2. -/
theorem astep_sound (hN : ∀ (f : FuncId) (fn : Func), P.funcs[f]? = some fn → (fn.name == "runtime.NumGoroutine") = false) (hE : EvOK P w0 E) (hF : Wide F) {i : Nat} {o : Oper} (ho : ops[i]? = some o) {outs : List (Value × AH)}
    (hv : astep P E ops tm h o = some outs) (hw : WR w0 β h w) {a a2 : Act} (ha : AR β tm.toArray a2.tmps) (hex : execOp a.eval o = execOp a2.eval o)
    (hwa : Region.wanted o (yielded ops a.tmps) = Region.wanted o (ayielded ops tm)) {K : Act → World → Prop}
    (hK : ∀ x ∈ outs, ∀ u β' w', Inj.le β β' → VR β' x.1 u → WR w0 β' x.2 w' → K (a.put o.dst u) w') : wpOpIn F n P ops Q i K a w := by
  unfold wpOpIn
  simp only [ho]
  have hab : ∀ f, o.about P w a.eval = some f → F.fn f := fun f _ => hF.fn f
  unfold astep at hv
  rw [hwa]
  split at hv
  · rename_i hwant
    simp only [hwant, if_true]
    split at hv
    · rename_i outs' hop
      cases hv
      have hs := aop_sound hN hw ha hop
      rw [← hex] at hs
      obtain ⟨x, q1, v', w', β', q2, q3, q4, q5⟩ := hs
      refine ⟨hab, ?_⟩
      rw [semAt_of (aop_noDefer hop), q2]
      exact hK x q1 v' β' w' q3 q4 q5
    · rename_i h' hop
      cases hv
      have hs := aop_sound hN hw ha hop
      rw [← hex] at hs
      obtain ⟨w', β', q2, q3, q5⟩ := hs
      refine ⟨hab, ?_⟩
      rw [semAt_of (aop_noDefer hop), q2]
      exact hK _ (List.mem_singleton.2 rfl) undef β' w' q3 (VR.undef _) q5
    · rename_i f args hop
      have hs := aop_sound hN hw ha hop
      rw [← hex] at hs
      obtain ⟨args', q2, q3⟩ := hs
      refine ⟨hab, ?_⟩
      rw [semAt_of (aop_noDefer hop), q2]
      refine ⟨hF.depth _, (hF.calls (hE.call f args h outs hv β w args' hw q3 (n - 1))).mono ?_⟩
      rintro e w' ⟨v', rfl, x, p1, β', p2, p3, p4⟩
      exact hK x p1 v' β' w' p2 p3 p4
    · rename_i l T as bd hop
      have hs := aop_sound hN hw ha hop
      rw [← hex] at hs
      obtain ⟨L, fn, T', p0, q2, q3⟩ := hs
      refine ⟨hab, ?_⟩
      rw [semAt_of (aop_noDefer hop), q2]
      refine ⟨hF.depth _, (hF.rounds (hE.round l T as bd h outs hv β w L fn T' p0 hw q3 (n - 1))).mono ?_⟩
      rintro e w' ⟨v', rfl, x, p1, β', p2, p3, p4⟩
      exact hK x p1 v' β' w' p2 p3 p4
    · cases hv
  · rename_i hwant
    cases hv
    simp only [hwant, if_false, Bool.false_eq_true]
    exact ⟨hab, hK _ (List.mem_singleton.2 rfl) undef β w (Inj.le.refl _) (VR.undef _) hw⟩

theorem yielded_all {T : Array Value} (ha : AR β tm.toArray T) (j : Nat) : yielded ops T j = ayielded ops tm j := by
  have hsz : tm.length = T.size := by simpa using ha.1
  cases hs : (ops[j]?).bind (·.dst) with
  | none => exact yielded_none hs
  | some s =>
    have := ha.at s
    rw [toArray_getD] at this
    exact yielded_slot hs hsz this

/-! ### a region in its text's order -/
def aseqI (P : Program) (E : Ev) (ops : Array Oper) : List Nat → List Value → AH → Option (List (List Value × AH))
  | [], tm, h => some [(tm, h)]
  | i :: r, tm, h => match ops[i]? with
    | none => aseqI P E ops r tm h
    | some o => match astep P E ops tm h o with
      | some outs => bindL (fun x => aseqI P E ops r (aput tm o.dst x.1) x.2) outs
      | none => none
noncomputable def aseq (P : Program) (E : Ev) (ops : Array Oper) (l : List Nat) : List Value → AH → Option (List (List Value × AH)) :=
  @List.rec Nat (fun _ => List Value → AH → Option (List (List Value × AH))) (fun tm h => some [(tm, h)]) (fun i _ ih tm h => match ops[i]? with
    | none => ih tm h
    | some o => match astep P E ops tm h o with
      | some outs => bindL (fun x => ih (aput tm o.dst x.1) x.2) outs
      | none => none) l
theorem aseq_nil (P : Program) (E : Ev) (ops : Array Oper) (tm : List Value) (h : AH) : aseq P E ops [] tm h = some [(tm, h)] := rfl
theorem aseq_cons (P : Program) (E : Ev) (ops : Array Oper) (i : Nat) (r : List Nat) (tm : List Value) (h : AH) : aseq P E ops (i :: r) tm h = match ops[i]? with
    | none => aseq P E ops r tm h
    | some o => match astep P E ops tm h o with
      | some outs => bindL (fun x => aseq P E ops r (aput tm o.dst x.1) x.2) outs
      | none => none := rfl
theorem aseq_sound (hN : ∀ (f : FuncId) (fn : Func), P.funcs[f]? = some fn → (fn.name == "runtime.NumGoroutine") = false) (hE : EvOK P w0 E) (hF : Wide F) : ∀ (l : List Nat) (tm : List Value) (h : AH) (outs : List (List Value × AH)),
    aseq P E ops l tm h = some outs → ∀ (β : Inj) (a : Act) (w : World), AR β tm.toArray a.tmps → WR w0 β h w →
    (∀ x ∈ outs, ∀ β' (a' : Act) w', Inj.le β β' → AR β' x.1.toArray a'.tmps → a'.defers = a.defers → WR w0 β' x.2 w' → Q .normal a' w') → wpOpsIn F n P ops Q l a w := by
  intro l
  induction l with
  | nil =>
    intro tm h outs hv β a w ha hw hQ
    simp only [aseq_nil, Option.some.injEq] at hv
    subst hv
    exact hQ _ (List.mem_singleton.2 rfl) β a w (Inj.le.refl _) ha rfl hw
  | cons i r ih =>
    intro tm h outs hv β a w ha hw hQ
    simp only [aseq_cons] at hv
    rw [wpOpsIn_cons]
    cases ho : ops[i]? with
    | none =>
      rw [ho] at hv
      unfold wpOpIn
      simp only [ho]
      exact ih tm h outs hv β a w ha hw hQ
    | some o =>
      rw [ho] at hv
      simp only at hv
      split at hv
      · rename_i outs1 hst
        refine astep_sound hN hE hF ho hst hw ha rfl (wanted_congr fun j _ _ => yielded_all ha j) fun x hx u β' w' q1 q2 q3 => ?_
        obtain ⟨outs2, p1, p2⟩ := bindL_mem hv x hx
        refine ih _ _ _ p1 β' _ w' (aput_rel (ha.mono q1) o.dst q2) q3 fun y hy β2 a2 w2 r1 r2 r3 r4 => ?_
        exact hQ y (p2 y hy) β2 a2 w2 (q1.trans r1) r2 (r3.trans (put_defers _ _ _)) r4
      · cases hv
end
end
end Go.AE

/- A region that draws its order: reading operations first, then whichever comes up. -/
namespace Go.AE
noncomputable section
open Go.RowKit

structure RS where
  al : Array Bool
  early : List Nat
  tm : List Value

def dstOf (ops : Array Oper) (i : Nat) : Option Tmp := (ops[i]?).bind (·.dst)
def looksOf (ops : Array Oper) (i : Nat) : List Tmp := match ops[i]? with
  | some o => o.looksAt ops
  | none => []
def noClobber (ops : Array Oper) (early : List Nat) (i : Nat) : Bool :=
  match dstOf ops i with
  | none => true
  | some d => !(looksOf ops i).contains d && early.all fun e => !(looksOf ops e).contains d && dstOf ops e != some d

def takeOne (P : Program) (ops : Array Oper) (h : AH) (X : RS) : List Nat → Option RS
  | [] => none
  | i :: r => match ops[i]? with
    | some o =>
      if Region.free .any ops X.al i && noClobber ops X.early i then
        (match aread P ops X.tm h o with
         | some v => some ⟨X.al.setIfInBounds i true, i :: X.early, aput X.tm o.dst v⟩
         | none => takeOne P ops h X r)
      else takeOne P ops h X r
    | none => takeOne P ops h X r
def takeAll (P : Program) (ops : Array Oper) (h : AH) : Nat → RS → RS
  | 0, X => X
  | k + 1, X => match takeOne P ops h X (Region.ready .any ops X.al) with
    | some X' => takeAll P ops h k X'
    | none => X

def depsOf (ops : Array Oper) (i : Nat) : List Nat := match ops[i]? with
  | some o => (o.after.toList.filter (Region.binds .any)).map (·.on)
  | none => []
def dfs (ops : Array Oper) : Nat → List Nat → List Nat → List Nat
  | 0, _, seen => seen
  | _ + 1, [], seen => seen
  | k + 1, i :: st, seen => if seen.contains i then dfs ops k st seen else dfs ops k (depsOf ops i ++ st) (i :: seen)
def doneBy (ops : Array Oper) (i : Nat) : List Nat := dfs ops 200 (depsOf ops i) []
def acyclic (ops : Array Oper) : Bool := (List.range ops.size).all fun i => (depsOf ops i).all fun j => decide (j < i)

def recheck (P : Program) (ops : Array Oper) (tm : List Value) (h : AH) (e : Nat) : Bool :=
  match ops[e]? with
  | some o => (match aread P ops tm h o with
    | some v => (match o.dst with | none => true | some d => veq 8 v (tm.getD d undef))
    | none => false)
  | none => false

def aeff (P : Program) (E : Ev) (ops : Array Oper) : Nat → RS → AH → Option (List (List Value × AH))
  | 0, _, _ => none
  | k + 1, X, h =>
    match takeAll P ops h ops.size X with
    | X =>
      match Region.ready .any ops X.al with
      | [] => some [(X.tm, h)]
      | l => bindL (fun i => match ops[i]? with
        | some o => (match astep P E ops X.tm h o with
          | some outs =>
            (match X.early.filter (fun e => !(doneBy ops i).contains e) with
             | early' => bindL (fun x => if early'.all (recheck P ops (aput X.tm o.dst x.1) x.2) then aeff P E ops k ⟨X.al.setIfInBounds i true, early', aput X.tm o.dst x.1⟩ x.2 else none) outs)
          | none => none)
        | none => none) l
/-- Behind the reading operations. -/
def aeffS (P : Program) (E : Ev) (ops : Array Oper) (k : Nat) (X : RS) (h : AH) : Option (List (List Value × AH)) :=
  match Region.ready .any ops X.al with
  | [] => some [(X.tm, h)]
  | l => bindL (fun i => match ops[i]? with
    | some o => (match astep P E ops X.tm h o with
      | some outs =>
        (match X.early.filter (fun e => !(doneBy ops i).contains e) with
         | early' => bindL (fun x => if early'.all (recheck P ops (aput X.tm o.dst x.1) x.2) then aeff P E ops k ⟨X.al.setIfInBounds i true, early', aput X.tm o.dst x.1⟩ x.2 else none) outs)
      | none => none)
    | none => none) l
theorem aeff_succ (P : Program) (E : Ev) (ops : Array Oper) (k : Nat) (X : RS) (h : AH) : aeff P E ops (k + 1) X h = aeffS P E ops k (takeAll P ops h ops.size X) h := rfl

def aany (P : Program) (E : Ev) (ops : Array Oper) (tm : List Value) (h : AH) : Option (List (List Value × AH)) :=
  if acyclic ops then aeff P E ops (ops.size + 1) ⟨Array.replicate ops.size false, [], tm⟩ h else none

section
variable {P : Program} {w0 w : World} {β : Inj} {h : AH} {tm : List Value} {E : Ev} {F : Fence} {n : Nat} {ops : Array Oper} {Q : Exit → Act → World → Prop}

/-! ### what an operation looks at -/
theorem aevals_congr {tm tm' : List Value} : ∀ (l : List Operand), (∀ x ∈ l, aeval tm x = aeval tm' x) → aevals tm l = aevals tm' l := by
  intro l
  induction l with
  | nil => intro _; rfl
  | cons x r ih =>
    intro hl
    simp only [aevals_cons, hl x (by simp), ih fun y hy => hl y (by simp [hy])]
theorem aparts_congr {tm tm' : List Value} : ∀ (l : List (Nat × Operand)), (∀ x ∈ l.map (·.2), aeval tm x = aeval tm' x) → aparts tm l = aparts tm' l := by
  intro l
  induction l with
  | nil => intro _; rfl
  | cons p r ih =>
    intro hl
    obtain ⟨i, x⟩ := p
    simp only [aparts, hl x (by simp), ih fun y hy => hl y (by simp only [List.map_cons, List.mem_cons]; exact .inr hy)]
theorem oval_congr {tm tm' : List Value} (x : Option Operand) (hx : ∀ y ∈ x.toArray, aeval tm y = aeval tm' y) : oval tm x = oval tm' x := by
  cases x with
  | none => rfl
  | some x => simp only [oval, hx x (by simp)]
theorem areader_congr {tm tm' : List Value} {o : Oper} (hx : ∀ x ∈ o.op.operands, aeval tm x = aeval tm' x) : areader P tm h o = areader P tm' h o := by
  unfold areader apure
  obtain ⟨dst, op, type, pos, after, guard⟩ := o
  cases op <;> simp only [Op.operands] at hx <;> simp only []
  case move x => rw [hx x (by simp)]
  case assign x => rw [hx x (by simp)]
  case pick c a b => rw [hx c (by simp), hx a (by simp), hx b (by simp)]
  case build t ps => rw [aparts_congr ps.toList fun x hm => hx x (by simpa using hm)]
  case load t x => rw [hx x (by simp)]
  case nilCheck x => rw [hx x (by simp)]
  case binOp op t x y u => rw [hx x (by simp), hx y (by simp)]
  case unOp op t x => rw [hx x (by simp)]
  case convert s d x => rw [hx x (by simp)]
  case makeInterface t x => rw [hx x (by simp)]
  case makeFunc fn a b => rw [aevals_congr a.toList fun x hm => hx x (by simp at hm; simp [hm]), aevals_congr b.toList fun x hm => hx x (by simp at hm; simp [hm])]
  case slice t x lo hi mx =>
    rw [hx x (by simp), oval_congr lo fun y hy => hx y (by simp at hy; simp [hy]), oval_congr hi fun y hy => hx y (by simp at hy; simp [hy]), oval_congr mx fun y hy => hx y (by simp at hy; simp [hy])]
  case fieldAddr t x f => rw [hx x (by simp)]
  case field t x f => rw [hx x (by simp)]
  case indexAddr t x i => rw [hx x (by simp), hx i (by simp)]
  case index t x i => rw [hx x (by simp), hx i (by simp)]
  case lookup t x k ok => rw [hx x (by simp), hx k (by simp)]
  case extract t i => rw [hx t (by simp)]
  case call c =>
    obtain ⟨callee, args, argTypes⟩ := c
    cases callee with
    | builtin b =>
      cases b <;> simp only []
      cases hl : args.toList with
      | nil => cases argTypes.toList with
        | nil => rfl
        | cons t s => cases s <;> rfl
      | cons x r =>
        cases r with
        | nil =>
          have hm : x ∈ args := by
            have : x ∈ args.toList := by rw [hl]; simp
            simpa using this
          have e := hx x (by simp [Call.operands, hm])
          cases argTypes.toList with
          | nil => rfl
          | cons t s => cases s with
            | nil => simp only [e]
            | cons _ _ => rfl
        | cons y s => cases argTypes.toList with
          | nil => rfl
          | cons t s => cases s <;> rfl
    | _ => rfl

theorem aeval_set {d : Nat} {v : Value} {x : Operand} (hx : x ≠ .tmp d) : aeval (tm.set d v) x = aeval tm x := by
  cases x with
  | tmp t =>
    have : d ≠ t := fun e => hx (by rw [e])
    simp only [aeval, lget_eq, List.getD_eq_getElem?_getD, List.getElem?_set_ne this]
  | _ => rfl
theorem mem_looks {o : Oper} {t : Nat} (hx : Operand.tmp t ∈ o.op.operands) : t ∈ o.looksAt ops :=
  List.mem_append_left _ (List.mem_filterMap.2 ⟨.tmp t, by simpa using hx, rfl⟩)
theorem aread_set {d : Nat} {v : Value} {o : Oper} (hd : d ∉ o.looksAt ops) : aread P ops (tm.set d v) h o = aread P ops tm h o := by
  have h1 : Region.wanted o (ayielded ops (tm.set d v)) = Region.wanted o (ayielded ops tm) := by
    refine wanted_congr fun j wnt hg => ?_
    unfold ayielded
    cases hs : (ops[j]?).bind (·.dst) with
    | none => rfl
    | some s =>
      have : d ≠ s := fun e => hd (by
        subst e
        refine List.mem_append_right _ ?_
        simp only [hg, hs]
        simp)
      simp only [Option.bind_some, List.getElem?_set_ne this]
  have h2 : areader P (tm.set d v) h o = areader P tm h o := areader_congr fun x hx => aeval_set fun e => hd (by subst e; exact mem_looks hx)
  unfold aread
  rw [h1, h2]
theorem aread_put {dst : Option Tmp} {v : Value} {o : Oper} (hd : ∀ d, dst = some d → d ∉ o.looksAt ops) : aread P ops (aput tm dst v) h o = aread P ops tm h o := by
  cases dst with
  | none => rfl
  | some d => rw [aput_some]; exact aread_set (hd d rfl)
end
end
end Go.AE

/- A region that draws its order: what is computed holds in every order. -/
namespace Go.AE
noncomputable section
open Go.RowKit

section
variable {P : Program} {w0 w : World} {β : Inj} {h : AH} {tm : List Value} {E : Ev} {F : Fence} {n : Nat} {ops : Array Oper} {Q : Exit → Act → World → Prop}

def Is (l : Array Bool) (i : Nat) : Prop := l.getD i false = true
theorem Is.set {l : Array Bool} {i j : Nat} : Is (l.setIfInBounds i true) j ↔ (i = j ∧ i < l.size) ∨ Is l j := by
  unfold Is
  by_cases hij : i = j
  · subst hij
    by_cases hlt : i < l.size
    · simp [hlt]
    · simp [hlt, Array.getElem?_eq_none (Nat.not_lt.1 hlt)]
  · rw [getD_set_ne false hij]
    simp [hij]
theorem not_ready {l : Array Bool} {i : Nat} (hlt : i < l.size) : l.getD i true = false ↔ ¬ Is l i := by
  unfold Is
  simp [hlt]
def Waits (j : Nat) (oi : Oper) : Prop := ∃ e ∈ oi.after, Region.binds .any e = true ∧ e.on = j
theorem ready_iff {l : Array Bool} {j : Nat} (hs : l.size = ops.size) : j ∈ Region.ready .any ops l ↔ ∃ o, ops[j]? = some o ∧ ¬ Is l j ∧ ∀ i, Waits i o → Is l i := by
  rw [mem_ready]
  constructor
  · rintro ⟨h1, o, h2, h3⟩
    have hlt : j < ops.size := (Array.getElem?_eq_some_iff.1 h2).1
    refine ⟨o, h2, (not_ready (by omega)).1 h1, ?_⟩
    rintro i ⟨e, he, hb, rfl⟩
    exact h3 e he hb
  · rintro ⟨o, h2, h1, h3⟩
    have hlt : j < ops.size := (Array.getElem?_eq_some_iff.1 h2).1
    exact ⟨(not_ready (by omega)).2 h1, o, h2, fun e he hb => h3 e.on ⟨e, he, hb, rfl⟩⟩
theorem mem_deps {i j : Nat} {o : Oper} (ho : ops[i]? = some o) : j ∈ depsOf ops i ↔ Waits j o := by
  unfold depsOf Waits
  simp only [ho, List.mem_map, List.mem_filter, Array.mem_toList_iff]
  constructor
  · rintro ⟨e, ⟨h1, h2⟩, rfl⟩; exact ⟨e, h1, h2, rfl⟩
  · rintro ⟨e, h1, h2, rfl⟩; exact ⟨e, ⟨h1, h2⟩, rfl⟩

structure Inv (P : Program) (ops : Array Oper) (β : Inj) (cl : Array Bool) (X : RS) (h : AH) (a : Act) : Prop where
  szc : cl.size = ops.size
  sza : X.al.size = ops.size
  sub : ∀ i, Is cl i → Is X.al i
  pend : ∀ i, Is X.al i → ¬ Is cl i → i ∈ X.early
  earlyA : ∀ e ∈ X.early, Is X.al e
  fresh : ∀ e ∈ X.early, ∀ o, ops[e]? = some o → ∃ v, aread P ops X.tm h o = some v ∧ ∀ d, o.dst = some d → d < X.tm.length → X.tm.getD d undef = v
  own : ∀ e ∈ X.early, ∀ o d, ops[e]? = some o → o.dst = some d → d ∉ o.looksAt ops
  apart1 : ∀ e ∈ X.early, ∀ j oj oe d, ops[j]? = some oj → ops[e]? = some oe → j ≠ e → (¬ Is X.al j ∨ j ∈ X.early) → oe.dst = some d → Waits e oj ∨ d ∉ oj.looksAt ops
  dst2 : ∀ e ∈ X.early, ∀ f ∈ X.early, e ≠ f → ∀ oe of d, ops[e]? = some oe → ops[f]? = some of → oe.dst = some d → of.dst ≠ some d
  down : ∀ i o, Is cl i → ops[i]? = some o → ∀ j, Waits j o → Is cl j
  downA : ∀ i o, Is X.al i → ops[i]? = some o → ∀ j, Waits j o → Is X.al j
  ghost : ∃ T2, AR β X.tm.toArray T2 ∧ T2.size = a.tmps.size ∧ ∀ s, (∀ i o, Is X.al i → ¬ Is cl i → ops[i]? = some o → o.dst ≠ some s) → T2[s]? = a.tmps[s]?

theorem free_of {l : Array Bool} {i : Nat} {oi : Oper} (hs : l.size = ops.size) (hi : ops[i]? = some oi) (hf : Region.free .any ops l i = true) {j : Nat} {oj : Oper} (hj : ops[j]? = some oj) (hne : j ≠ i) (hun : ¬ Is l j) :
    Waits i oj ∨ oi.apart ops oj = true := by
  by_cases hw : Waits i oj
  · exact .inl hw
  · refine .inr (Region.free_spec hi hf j oj hj hne ?_ ?_)
    · exact (not_ready (by rw [hs]; exact (Array.getElem?_eq_some_iff.1 hj).1)).2 hun
    · intro e he hb heq
      exact hw ⟨e, he, hb, heq⟩

/-- The operands of an operation that is about to come up are where they should be. -/
theorem same_op {cl : Array Bool} {X : RS} {a : Act} {T2 : Array Value} {k : Nat} {o : Oper} (hk : ops[k]? = some o)
    (hlook : ∀ i oi d, Is X.al i → ¬ Is cl i → ops[i]? = some oi → oi.dst = some d → d ∉ o.looksAt ops)
    (hsz : T2.size = a.tmps.size) (hT : ∀ s, (∀ i oi, Is X.al i → ¬ Is cl i → ops[i]? = some oi → oi.dst ≠ some s) → T2[s]? = a.tmps[s]?) (hsel : ∀ cs b, o.op ≠ .select cs b) :
    execOp a.eval o = execOp ({ tmps := T2, defers := a.defers } : Act).eval o ∧ Region.wanted o (yielded ops a.tmps) = Region.wanted o (yielded ops T2) := by
  have slot : ∀ s, s ∈ o.looksAt ops → T2[s]? = a.tmps[s]? := fun s hs => hT s fun i oi h1 h2 h3 h4 => hlook i oi s h1 h2 h3 h4 hs
  constructor
  · refine execOp_congr o hsel fun x hx => ?_
    cases x with
    | tmp t =>
      have := slot t (mem_looks hx)
      simp only [Act.eval, Array.getD_eq_getD_getElem?, this]
    | _ => rfl
  · refine wanted_congr fun j wnt hg => ?_
    unfold yielded
    cases hs : (ops[j]?).bind (·.dst) with
    | none => rfl
    | some s =>
      have hmem : s ∈ o.looksAt ops := by
        refine List.mem_append_right _ ?_
        simp only [hg, hs]
        simp
      simp only [Option.bind_some, slot s hmem]

theorem areader_noSel {o : Oper} {v : Value} (hv : areader P tm h o = some v) : (∀ cs b, o.op ≠ .select cs b) ∧ (∀ c, o.op ≠ .defer c) := by
  constructor
  · intro cs b hc; unfold areader apure at hv; rw [hc] at hv; simp at hv
  · intro c hc; unfold areader apure at hv; rw [hc] at hv; simp at hv
theorem astep_noSel {o : Oper} {outs : List (Value × AH)} (hw : Region.wanted o (ayielded ops tm) = true) (hv : astep P E ops tm h o = some outs) : ∀ cs b, o.op ≠ .select cs b := by
  intro cs b hc
  unfold astep at hv
  rw [if_pos hw] at hv
  have : aop P tm h o = none := by unfold aop apure; rw [hc]
  rw [this] at hv
  cases hv

theorem AR.put_same {T : Array Value} {d : Nat} {v u : Value} (ha : AR β tm.toArray T) (hv : VR β v u) (hd : d < tm.length → tm.getD d undef = v) : AR β tm.toArray (T.setIfInBounds d u) := by
  refine ⟨by simp [ha.1], fun i hi => ?_⟩
  have := ha.2 i hi
  have e0 : (T.setIfInBounds d u).getD i undef = ((T.setIfInBounds d u)[i]?).getD undef := Array.getD_eq_getD_getElem? ..
  rw [e0, Array.getElem?_setIfInBounds]
  by_cases hdi : d = i
  · subst hdi
    have hlt : d < tm.length := by simpa using hi
    have hlt' : d < T.size := by rw [← ha.1]; exact hi
    simp only [if_true, hlt', Option.getD_some]
    rw [toArray_getD, hd hlt]
    exact hv
  · simp only [hdi, if_false]
    rwa [← Array.getD_eq_getD_getElem?]

theorem put_get (a : Act) (dst : Option Tmp) (u : Value) (s : Nat) (hs : dst ≠ some s) : (a.put dst u).tmps[s]? = a.tmps[s]? := by
  cases dst with
  | none => rfl
  | some d =>
    have : d ≠ s := fun e => hs (by rw [e])
    simp only [Act.put, Array.getElem?_setIfInBounds_ne this]
theorem put_size (a : Act) (dst : Option Tmp) (u : Value) : (a.put dst u).tmps.size = a.tmps.size := by
  cases dst <;> simp [Act.put]

/-- A pending operation comes up. -/
theorem Inv.step_pending {cl : Array Bool} {X : RS} {a : Act} {k : Nat} (hI : Inv P ops β cl X h a) (hw : WR w0 β h w) (hF : Wide F) (hr : k ∈ Region.ready .any ops cl) (hA : Is X.al k) {K : Act → World → Prop}
    (hK : ∀ a', Inv P ops β (cl.setIfInBounds k true) X h a' → a'.defers = a.defers → K a' w) : wpOpIn F n P ops Q k K a w := by
  obtain ⟨o, ho, hC, hdep⟩ := (ready_iff hI.szc).1 hr
  have hke := hI.pend k hA hC
  obtain ⟨T2, g1, g2, g3⟩ := hI.ghost
  obtain ⟨v, f1, f2⟩ := hI.fresh k hke o ho
  have hlook : ∀ i oi d, Is X.al i → ¬ Is cl i → ops[i]? = some oi → oi.dst = some d → d ∉ o.looksAt ops := by
    intro i oi d h1 h2 h3 h4
    by_cases hik : i = k
    · subst hik
      rw [ho] at h3; cases h3
      exact hI.own i hke o d ho h4
    · rcases hI.apart1 i (hI.pend i h1 h2) k o oi d ho h3 (Ne.symm hik) (.inr hke) h4 with hw' | hn
      · exact absurd (hdep i hw') h2
      · exact hn
  have hab : ∀ f, o.about P w a.eval = some f → F.fn f := fun f _ => hF.fn f
  -- behind it
  have after : ∀ u, VR β v u → Inv P ops β (cl.setIfInBounds k true) X h (a.put o.dst u) := by
    intro u hu
    have hlt : k < cl.size := by rw [hI.szc]; exact (Array.getElem?_eq_some_iff.1 ho).1
    refine ⟨by simp [hI.szc], hI.sza, ?_, ?_, hI.earlyA, hI.fresh, hI.own, hI.apart1, hI.dst2, ?_, hI.downA, ?_⟩
    · intro i hi
      rcases Is.set.1 hi with ⟨rfl, _⟩ | hi
      · exact hA
      · exact hI.sub i hi
    · intro i h1 h2
      exact hI.pend i h1 fun hc => h2 (Is.set.2 (.inr hc))
    · intro i oi hi hoi j hj
      rcases Is.set.1 hi with ⟨rfl, _⟩ | hi
      · rw [ho] at hoi; cases hoi
        exact Is.set.2 (.inr (hdep j hj))
      · exact Is.set.2 (.inr (hI.down i oi hi hoi j hj))
    · have hAR : AR β X.tm.toArray (match o.dst with | some d => T2.setIfInBounds d u | none => T2) := by
        cases hd : o.dst with
        | none => exact g1
        | some d => exact g1.put_same hu (f2 d hd)
      refine ⟨_, hAR, ?_, ?_⟩
      · rw [put_size]
        cases o.dst <;> simp [g2]
      · intro s hs
        by_cases hds : o.dst = some s
        · rw [hds]
          simp only [Act.put]
          rw [Array.getElem?_setIfInBounds, Array.getElem?_setIfInBounds, g2]; simp
        · rw [put_get a o.dst u s hds]
          have e1 : (match o.dst with | some d => T2.setIfInBounds d u | none => T2)[s]? = T2[s]? := by
            cases hd : o.dst with
            | none => rfl
            | some d =>
              have : d ≠ s := fun e => hds (by rw [hd, e])
              simp only [Array.getElem?_setIfInBounds_ne this]
          rw [e1]
          refine g3 s fun i oi h1 h2 h3 h4 => ?_
          by_cases hik : i = k
          · subst hik
            rw [ho] at h3; cases h3
            exact hds h4
          · exact hs i oi h1 (fun hc => by rcases Is.set.1 hc with ⟨e, _⟩ | hc; exact hik e.symm; exact h2 hc) h3 h4
  unfold wpOpIn
  simp only [ho]
  unfold aread at f1
  have hwT : Region.wanted o (yielded ops T2) = Region.wanted o (ayielded ops X.tm) := wanted_congr fun j _ _ => yielded_all g1 j
  have hwa : Region.wanted o (yielded ops a.tmps) = Region.wanted o (ayielded ops X.tm) := by
    rw [← hwT]
    refine wanted_congr fun j wnt hg => ?_
    unfold yielded
    cases hs : (ops[j]?).bind (·.dst) with
    | none => rfl
    | some s =>
      have hmem : s ∈ o.looksAt ops := by
        refine List.mem_append_right _ ?_
        simp only [hg, hs]
        simp
      have := g3 s fun i oi h1 h2 h3 h4 => hlook i oi s h1 h2 h3 h4 hmem
      simp only [Option.bind_some, this]
  rw [hwa]
  split at f1
  · rename_i hwant
    simp only [hwant, if_true]
    obtain ⟨hsel, hdef⟩ := areader_noSel f1
    obtain ⟨u, r1, r2⟩ := areader_sound (a := { tmps := T2, defers := a.defers }) hw g1 f1
    have hsame := (same_op (X := X) (cl := cl) ho hlook g2 g3 hsel).1
    refine ⟨hab, ?_⟩
    rw [semAt_of hdef, hsame, r1]
    exact hK _ (after u r2) (put_defers _ _ _)
  · rename_i hwant
    cases f1
    simp only [hwant, if_false, Bool.false_eq_true]
    exact ⟨hab, hK _ (after undef (VR.undef β)) (put_defers _ _ _)⟩

/-- A reading operation is taken first. -/
theorem Inv.take {cl : Array Bool} {X : RS} {a : Act} {i : Nat} {o : Oper} {v : Value} (hI : Inv P ops β cl X h a) (hw : WR w0 β h w) (hr : i ∈ Region.ready .any ops X.al) (ho : ops[i]? = some o)
    (hfree : Region.free .any ops X.al i = true) (hclob : noClobber ops X.early i = true) (hv : aread P ops X.tm h o = some v) :
    Inv P ops β cl ⟨X.al.setIfInBounds i true, i :: X.early, aput X.tm o.dst v⟩ h a := by
  obtain ⟨o', ho', hA, hdep⟩ := (ready_iff hI.sza).1 hr
  rw [ho] at ho'; cases ho'
  have hlt : i < X.al.size := by rw [hI.sza]; exact (Array.getElem?_eq_some_iff.1 ho).1
  have hA' : ∀ j, Is (X.al.setIfInBounds i true) j ↔ j = i ∨ Is X.al j := fun j => by
    rw [Is.set]
    constructor
    · rintro (⟨rfl, _⟩ | hj)
      · exact .inl rfl
      · exact .inr hj
    · rintro (rfl | hj)
      · exact .inl ⟨rfl, hlt⟩
      · exact .inr hj
  have hdst : dstOf ops i = o.dst := by simp [dstOf, ho]
  have clob : ∀ d, o.dst = some d → d ∉ o.looksAt ops ∧ ∀ e ∈ X.early, ∀ oe, ops[e]? = some oe → d ∉ oe.looksAt ops ∧ oe.dst ≠ some d := by
    intro d hd
    unfold noClobber at hclob
    rw [hdst, hd] at hclob
    simp only [Bool.and_eq_true, Bool.not_eq_true', List.all_eq_true, bne_iff_ne] at hclob
    refine ⟨?_, fun e he oe hoe => ?_⟩
    · have := hclob.1
      simp only [looksOf, ho] at this
      simpa using this
    · have := hclob.2 e he
      simp only [looksOf, hoe, dstOf, Option.bind_some] at this
      exact ⟨by simpa using this.1, this.2⟩
  have hni : i ∉ X.early := fun he => hA (hI.earlyA i he)
  have look_i : ∀ d, o.dst = some d → d ∉ o.looksAt ops := fun d hd => (clob d hd).1
  have hread : ∀ e ∈ X.early, ∀ oe, ops[e]? = some oe → aread P ops (aput X.tm o.dst v) h oe = aread P ops X.tm h oe := fun e he oe hoe => aread_put fun d hd => ((clob d hd).2 e he oe hoe).1
  refine ⟨hI.szc, by simp [hI.sza], fun j hj => (hA' j).2 (.inr (hI.sub j hj)), ?_, ?_, ?_, ?_, ?_, ?_, hI.down, ?_, ?_⟩
  · intro j h1 h2
    rcases (hA' j).1 h1 with rfl | h1
    · exact List.mem_cons_self
    · exact List.mem_cons_of_mem _ (hI.pend j h1 h2)
  · intro e he
    rcases List.mem_cons.1 he with rfl | he
    · exact (hA' _).2 (.inl rfl)
    · exact (hA' _).2 (.inr (hI.earlyA e he))
  · intro e he oe hoe
    rcases List.mem_cons.1 he with rfl | he
    · rw [ho] at hoe; cases hoe
      refine ⟨v, by rw [aread_put look_i]; exact hv, fun d hd hlen => ?_⟩
      simp only [hd, aput_some] at hlen ⊢
      rw [List.length_set] at hlen
      simp [List.getD_eq_getElem?_getD, hlen]
    · obtain ⟨u, q1, q2⟩ := hI.fresh e he oe hoe
      refine ⟨u, by rw [hread e he oe hoe]; exact q1, fun d hd hlen => ?_⟩
      have hne : o.dst ≠ some d := fun e' => ((clob d e').2 e he oe hoe).2 hd
      cases hod : o.dst with
      | none => simp only [hod] at hlen ⊢; exact q2 d hd hlen
      | some d' =>
        have : d' ≠ d := fun e' => hne (by rw [hod, e'])
        simp only [hod, aput_some] at hlen ⊢
        rw [List.length_set] at hlen
        rw [List.getD_eq_getElem?_getD, List.getElem?_set_ne this, ← List.getD_eq_getElem?_getD]
        exact q2 d hd hlen
  · intro e he oe d hoe hd
    rcases List.mem_cons.1 he with rfl | he
    · rw [ho] at hoe; cases hoe
      exact look_i d hd
    · exact hI.own e he oe d hoe hd
  · intro e he0 j oj oe d hoj hoe hne hj hd
    rcases List.mem_cons.1 he0 with he | he
    · subst he
      rw [ho] at hoe; cases hoe
      rcases hj with hj | hj
      · have hun : ¬ Is X.al j := fun hq => hj ((hA' j).2 (.inr hq))
        rcases free_of hI.sza ho hfree hoj hne hun with hq | hq
        · exact .inl hq
        · exact .inr ((Oper.apart_spec hq).1 d hd)
      · rcases List.mem_cons.1 hj with hj | hj
        · exact absurd hj hne
        · exact .inr ((clob d hd).2 j hj oj hoj).1
    · rcases hj with hj | hj
      · exact hI.apart1 e he j oj oe d hoj hoe hne (.inl fun hq => hj ((hA' j).2 (.inr hq))) hd
      · rcases List.mem_cons.1 hj with hj | hj
        · exact hI.apart1 e he j oj oe d hoj hoe hne (.inl (by rw [hj]; exact hA)) hd
        · exact hI.apart1 e he j oj oe d hoj hoe hne (.inr hj) hd
  · intro e he0 f hf0 hne oe of d hoe hof hd
    rcases List.mem_cons.1 he0 with he | he
    · rw [he, ho] at hoe; cases hoe
      rcases List.mem_cons.1 hf0 with hf | hf
      · exact absurd (he.trans hf.symm) hne
      · exact ((clob d hd).2 f hf of hof).2
    · rcases List.mem_cons.1 hf0 with hf | hf
      · rw [hf, ho] at hof; cases hof
        intro hq
        exact ((clob d hq).2 e he oe hoe).2 hd
      · exact hI.dst2 e he f hf hne oe of d hoe hof hd
  · intro j oj hj hoj x hx
    rcases (hA' j).1 hj with hj | hj
    · rw [hj, ho] at hoj; cases hoj
      exact (hA' x).2 (.inr (hdep x hx))
    · exact (hA' x).2 (.inr (hI.downA j oj hj hoj x hx))
  · obtain ⟨T2, g1, g2, g3⟩ := hI.ghost
    obtain ⟨u, hu⟩ : ∃ u, VR β v u := by
      unfold aread at hv
      split at hv
      · obtain ⟨u, _, hu⟩ := areader_sound (a := { tmps := T2, defers := [] }) hw g1 hv
        exact ⟨u, hu⟩
      · cases hv; exact ⟨undef, VR.undef β⟩
    refine ⟨(({ tmps := T2, defers := [] } : Act).put o.dst u).tmps, aput_rel g1 o.dst hu, by rw [put_size]; exact g2, fun s hs => ?_⟩
    have hds : o.dst ≠ some s := hs i o ((hA' i).2 (.inl rfl)) (fun hc => hA (hI.sub i hc)) ho
    rw [put_get _ o.dst u s hds]
    exact g3 s fun j oj h1 h2 h3 => hs j oj ((hA' j).2 (.inr h1)) h2 h3

theorem Inv.takeOne {cl : Array Bool} {X X' : RS} {a : Act} (hI : Inv P ops β cl X h a) (hw : WR w0 β h w) : ∀ (l : List Nat), (∀ i ∈ l, i ∈ Region.ready .any ops X.al) → takeOne P ops h X l = some X' → Inv P ops β cl X' h a := by
  intro l
  induction l with
  | nil => intro _ hx; cases hx
  | cons i r ih =>
    intro hl hx
    have ih' := ih (fun j hj => hl j (by simp [hj]))
    simp only [AE.takeOne] at hx
    split at hx
    · rename_i o ho
      split at hx
      · rename_i hc
        simp only [Bool.and_eq_true] at hc
        split at hx
        · rename_i v hv
          cases hx
          exact hI.take hw (hl i (by simp)) ho hc.1 hc.2 hv
        · exact ih' hx
      · exact ih' hx
    · exact ih' hx
theorem Inv.takeAll {cl : Array Bool} {a : Act} (hw : WR w0 β h w) : ∀ (k : Nat) (X : RS), Inv P ops β cl X h a → Inv P ops β cl (takeAll P ops h k X) h a := by
  intro k
  induction k with
  | zero => intro X hI; exact hI
  | succ k ih =>
    intro X hI
    simp only [AE.takeAll]
    split
    · rename_i X' hx
      exact ih X' (hI.takeOne hw _ (fun i hi => hi) hx)
    · exact hI

/-- What is surely done where all that an operation waits for is. -/
theorem dfs_done (D : Nat → Prop) (hD : ∀ i, D i → ∀ j ∈ depsOf ops i, D j) : ∀ (k : Nat) (st seen : List Nat), (∀ i ∈ st, D i) → (∀ i ∈ seen, D i) → ∀ i ∈ dfs ops k st seen, D i := by
  intro k
  induction k with
  | zero => intro st seen _ h2 i hi; exact h2 i hi
  | succ k ih =>
    intro st seen h1 h2 i hi
    cases st with
    | nil => exact h2 i hi
    | cons x r =>
      simp only [dfs] at hi
      split at hi
      · exact ih r seen (fun j hj => h1 j (by simp [hj])) h2 i hi
      · refine ih _ _ (fun j hj => ?_) (fun j hj => ?_) i hi
        · rcases List.mem_append.1 hj with hj | hj
          · exact hD x (h1 x (by simp)) j hj
          · exact h1 j (by simp [hj])
        · rcases List.mem_cons.1 hj with rfl | hj
          · exact h1 _ (by simp)
          · exact h2 j hj
theorem done_in {cl : Array Bool} {k : Nat} (hdown : ∀ i o, Is cl i → ops[i]? = some o → ∀ j, Waits j o → Is cl j) (hk : ∀ j ∈ depsOf ops k, Is cl j) : ∀ i ∈ doneBy ops k, Is cl i := by
  refine dfs_done (Is cl) (fun i hi j hj => ?_) 200 _ [] hk (fun i hi => by cases hi)
  cases ho : ops[i]? with
  | none => simp [depsOf, ho] at hj
  | some o => exact hdown i o hi ho j ((mem_deps ho).1 hj)

theorem recheck_spec {tm : List Value} {h : AH} {e : Nat} {o : Oper} (ho : ops[e]? = some o) (hr : recheck P ops tm h e = true) : ∃ v, aread P ops tm h o = some v ∧ ∀ d, o.dst = some d → d < tm.length → tm.getD d undef = v := by
  unfold recheck at hr
  rw [ho] at hr
  simp only at hr
  split at hr
  · rename_i v hv
    refine ⟨v, hv, fun d hd _ => ?_⟩
    rw [hd] at hr
    exact (veq_eq 8 _ _ hr).symm
  · cases hr

/-- An operation that does more comes up. -/
theorem Inv.step_effect (hN : ∀ (f : FuncId) (fn : Func), P.funcs[f]? = some fn → (fn.name == "runtime.NumGoroutine") = false) (hE : EvOK P w0 E) {cl : Array Bool} {X : RS} {a : Act} {k : Nat} {o : Oper} {outs : List (Value × AH)} (hI : Inv P ops β cl X h a) (hw : WR w0 β h w) (hF : Wide F)
    (hr : k ∈ Region.ready .any ops cl) (hA : ¬ Is X.al k) (ho : ops[k]? = some o) (hst : astep P E ops X.tm h o = some outs) {K : Act → World → Prop}
    (hK : ∀ x ∈ outs, ∀ β' a' w', Inj.le β β' → WR w0 β' x.2 w' → a'.defers = a.defers →
      ((X.early.filter (fun e => !(doneBy ops k).contains e)).all (recheck P ops (aput X.tm o.dst x.1) x.2) = true →
        Inv P ops β' (cl.setIfInBounds k true) ⟨X.al.setIfInBounds k true, X.early.filter (fun e => !(doneBy ops k).contains e), aput X.tm o.dst x.1⟩ x.2 a') → K a' w') : wpOpIn F n P ops Q k K a w := by
  obtain ⟨o', ho', hC, hdep⟩ := (ready_iff hI.szc).1 hr
  rw [ho] at ho'; cases ho'
  obtain ⟨T2, g1, g2, g3⟩ := hI.ghost
  have hlook : ∀ i oi d, Is X.al i → ¬ Is cl i → ops[i]? = some oi → oi.dst = some d → d ∉ o.looksAt ops := by
    intro i oi d h1 h2 h3 h4
    have hik : i ≠ k := fun e => hA (e ▸ h1)
    rcases hI.apart1 i (hI.pend i h1 h2) k o oi d ho h3 (Ne.symm hik) (.inl hA) h4 with hw' | hn
    · exact absurd (hdep i hw') h2
    · exact hn
  have hwT : Region.wanted o (yielded ops T2) = Region.wanted o (ayielded ops X.tm) := wanted_congr fun j _ _ => yielded_all g1 j
  have hwa : Region.wanted o (yielded ops a.tmps) = Region.wanted o (ayielded ops X.tm) := by
    rw [← hwT]
    refine wanted_congr fun j wnt hg => ?_
    unfold yielded
    cases hs : (ops[j]?).bind (·.dst) with
    | none => rfl
    | some s =>
      have hmem : s ∈ o.looksAt ops := by
        refine List.mem_append_right _ ?_
        simp only [hg, hs]
        simp
      have := g3 s fun i oi h1 h2 h3 h4 => hlook i oi s h1 h2 h3 h4 hmem
      simp only [Option.bind_some, this]
  have hlt : k < cl.size := by rw [hI.szc]; exact (Array.getElem?_eq_some_iff.1 ho).1
  have hltA : k < X.al.size := by rw [hI.sza, ← hI.szc]; exact hlt
  have hC' : ∀ j, Is (cl.setIfInBounds k true) j ↔ j = k ∨ Is cl j := fun j => by
    rw [Is.set]
    constructor
    · rintro (⟨rfl, _⟩ | hj)
      · exact .inl rfl
      · exact .inr hj
    · rintro (rfl | hj)
      · exact .inl ⟨rfl, hlt⟩
      · exact .inr hj
  have hA' : ∀ j, Is (X.al.setIfInBounds k true) j ↔ j = k ∨ Is X.al j := fun j => by
    rw [Is.set]
    constructor
    · rintro (⟨rfl, _⟩ | hj)
      · exact .inl rfl
      · exact .inr hj
    · rintro (rfl | hj)
      · exact .inl ⟨rfl, hltA⟩
      · exact .inr hj
  have hdone : ∀ i ∈ doneBy ops k, Is cl i := done_in hI.down fun j hj => hdep j ((mem_deps ho).1 hj)
  have hsub : ∀ e, e ∈ X.early.filter (fun e => !(doneBy ops k).contains e) → e ∈ X.early := fun e he => (List.mem_filter.1 he).1
  have go : execOp a.eval o = execOp ({ tmps := T2, defers := a.defers } : Act).eval o ∨ Region.wanted o (ayielded ops X.tm) = false := by
    cases hq : Region.wanted o (ayielded ops X.tm) with
    | false => exact .inr rfl
    | true => exact .inl (same_op (X := X) (cl := cl) ho hlook g2 g3 (astep_noSel hq hst)).1
  have hKK : ∀ x ∈ outs, ∀ u β' w', Inj.le β β' → VR β' x.1 u → WR w0 β' x.2 w' → K (a.put o.dst u) w' := by
    intro x hx u β' w' q1 q2 q3
    refine hK x hx β' _ w' q1 q3 (put_defers _ _ _) fun hre => ?_
    have hre' := List.all_eq_true.1 hre
    refine ⟨by simp [hI.szc], by simp [hI.sza], ?_, ?_, ?_, ?_, ?_, ?_, ?_, ?_, ?_, ?_⟩
    · intro i hi
      rcases (hC' i).1 hi with rfl | hi
      · exact (hA' _).2 (.inl rfl)
      · exact (hA' _).2 (.inr (hI.sub i hi))
    · intro i h1 h2
      rcases (hA' i).1 h1 with rfl | h1
      · exact absurd ((hC' _).2 (.inl rfl)) h2
      · have hnc : ¬ Is cl i := fun hc => h2 ((hC' i).2 (.inr hc))
        refine List.mem_filter.2 ⟨hI.pend i h1 hnc, ?_⟩
        have : i ∉ doneBy ops k := fun hd => hnc (hdone i hd)
        simpa using this
    · intro e he
      exact (hA' _).2 (.inr (hI.earlyA e (hsub e he)))
    · intro e he oe hoe
      exact recheck_spec hoe (hre' e he)
    · intro e he oe d hoe hd
      exact hI.own e (hsub e he) oe d hoe hd
    · intro e he j oj oe d hoj hoe hne hj hd
      rcases hj with hj | hj
      · exact hI.apart1 e (hsub e he) j oj oe d hoj hoe hne (.inl fun hq => hj ((hA' j).2 (.inr hq))) hd
      · exact hI.apart1 e (hsub e he) j oj oe d hoj hoe hne (.inr (hsub j hj)) hd
    · intro e he f hf hne
      exact hI.dst2 e (hsub e he) f (hsub f hf) hne
    · intro i oi hi hoi j hj
      rcases (hC' i).1 hi with rfl | hi
      · rw [ho] at hoi; cases hoi
        exact (hC' j).2 (.inr (hdep j hj))
      · exact (hC' j).2 (.inr (hI.down i oi hi hoi j hj))
    · intro i oi hi hoi j hj
      rcases (hA' i).1 hi with hi | hi
      · rw [hi, ho] at hoi; cases hoi
        exact (hA' j).2 (.inr (hI.sub j (hdep j hj)))
      · exact (hA' j).2 (.inr (hI.downA i oi hi hoi j hj))
    · refine ⟨(({ tmps := T2, defers := [] } : Act).put o.dst u).tmps, aput_rel (a := { tmps := T2, defers := [] }) (g1.mono q1) o.dst q2, by rw [put_size, put_size]; exact g2, fun s hs => ?_⟩
      by_cases hds : o.dst = some s
      · rw [hds]
        simp only [Act.put]
        rw [Array.getElem?_setIfInBounds, Array.getElem?_setIfInBounds, g2]; simp
      · rw [put_get _ o.dst u s hds, put_get _ o.dst u s hds]
        refine g3 s fun i oi h1 h2 h3 => ?_
        have hik : i ≠ k := fun e => hA (e ▸ h1)
        exact hs i oi ((hA' i).2 (.inr h1)) (fun hc => by rcases (hC' i).1 hc with e | hc; exact hik e; exact h2 hc) h3
  rcases go with go | go
  · exact astep_sound hN hE hF ho hst hw (a2 := { tmps := T2, defers := a.defers }) g1 go hwa hKK
  · unfold wpOpIn
    simp only [ho]
    unfold astep at hst
    rw [hwa]
    rw [go] at hst ⊢
    simp only [Bool.false_eq_true, if_false] at hst ⊢
    cases hst
    exact ⟨fun f _ => hF.fn f, hKK _ (List.mem_singleton.2 rfl) undef β w (Inj.le.refl _) (VR.undef _) hw⟩
end
end
end Go.AE

/- A region that draws its order, from its beginning to its end. -/
namespace Go.AE
noncomputable section
open Go.RowKit

section
variable {P : Program} {w0 w : World} {β : Inj} {h : AH} {tm : List Value} {E : Ev} {F : Fence} {n : Nat} {ops : Array Oper} {Q : Exit → Act → World → Prop}

theorem count_set : ∀ (l : List Bool) (k : Nat), l[k]? = some false → (l.set k true).count false + 1 = l.count false := by
  intro l
  induction l with
  | nil => intro k h; simp at h
  | cons b r ih =>
    intro k h
    cases k with
    | zero => simp at h; subst h; simp
    | succ k =>
      have := ih k (by simpa using h)
      simp only [List.set_cons_succ, List.count_cons]
      omega
theorem count_zero {l : Array Bool} (h : l.toList.count false = 0) (i : Nat) : l.getD i true = true := by
  have h1 := List.count_eq_zero.1 h
  by_cases hi : i < l.size
  · have : l[i] ≠ false := fun e => h1 (by rw [← e]; simp)
    have h2 : l[i] = true := by cases hq : l[i] <;> simp_all
    simp [hi, h2]
  · simp [hi, Array.getElem?_eq_none (Nat.not_lt.1 hi)]

/-- When nothing may come up any more, all has come up. -/
theorem Inv.done {cl : Array Bool} {X : RS} {a : Act} (hI : Inv P ops β cl X h a) (hac : acyclic ops = true) (hr : Region.ready .any ops cl = []) : Region.ready .any ops X.al = [] ∧ AR β X.tm.toArray a.tmps := by
  have all : ∀ i, Is X.al i → Is cl i := by
    intro i
    induction i using Nat.strongRecOn with
    | _ i ih =>
      intro hA
      by_cases hc : Is cl i
      · exact hc
      · exfalso
        cases ho : ops[i]? with
        | none =>
          have : ¬ i < ops.size := fun hlt => by rw [Array.getElem?_eq_getElem hlt] at ho; cases ho
          unfold Is at hA
          rw [Array.getD_eq_getD_getElem?, Array.getElem?_eq_none (by rw [hI.sza]; omega)] at hA
          simp at hA
        | some o =>
          have hlt : i < ops.size := (Array.getElem?_eq_some_iff.1 ho).1
          have hdep : ∀ j, Waits j o → Is cl j := fun j hj => by
            have hji : j < i := by
              have h1 := List.all_eq_true.1 hac i (List.mem_range.2 hlt)
              have h2 := List.all_eq_true.1 h1 j ((mem_deps ho).2 hj)
              exact of_decide_eq_true h2
            exact ih j hji (hI.downA i o hA ho j hj)
          have : i ∈ Region.ready .any ops cl := (ready_iff hI.szc).2 ⟨o, ho, hc, hdep⟩
          rw [hr] at this
          cases this
  refine ⟨?_, ?_⟩
  · cases hq : Region.ready .any ops X.al with
    | nil => rfl
    | cons k r =>
      exfalso
      have hk : k ∈ Region.ready .any ops X.al := by rw [hq]; simp
      obtain ⟨o, ho, h1, h2⟩ := (ready_iff hI.sza).1 hk
      have : k ∈ Region.ready .any ops cl := (ready_iff hI.szc).2 ⟨o, ho, fun hc => h1 (hI.sub k hc), fun j hj => all j (h2 j hj)⟩
      rw [hr] at this
      cases this
  · obtain ⟨T2, g1, g2, g3⟩ := hI.ghost
    have : T2 = a.tmps := by
      apply Array.ext g2
      intro i h1 h2
      have := g3 i fun j o q1 q2 => absurd (all j q1) q2
      rw [Array.getElem?_eq_getElem h1, Array.getElem?_eq_getElem h2] at this
      exact Option.some.inj this
    rw [← this]
    exact g1

theorem aeffS_sound (hN : ∀ (f : FuncId) (fn : Func), P.funcs[f]? = some fn → (fn.name == "runtime.NumGoroutine") = false) (hE : EvOK P w0 E) (hF : Wide F) (hac : acyclic ops = true) (ds : List Deferred) : ∀ (fuel k : Nat) (X : RS) (h : AH) (outs : List (List Value × AH)) (cl : Array Bool) (β : Inj) (a : Act) (w : World),
    aeffS P E ops k X h = some outs → Inv P ops β cl X h a → WR w0 β h w → a.defers = ds → cl.toList.count false ≤ fuel →
    (∀ x ∈ outs, ∀ β' (a' : Act) w', Inj.le β β' → AR β' x.1.toArray a'.tmps → a'.defers = ds → WR w0 β' x.2 w' → Q .normal a' w') → wpAnyIn F n P .any ops Q fuel cl a w := by
  intro fuel
  induction fuel with
  | zero =>
    intro k X h outs cl β a w hv hI hw hd hcnt hQ
    have hr : Region.ready .any ops cl = [] := by
      cases hq : Region.ready .any ops cl with
      | nil => rfl
      | cons i r =>
        exfalso
        have hi : i ∈ Region.ready .any ops cl := by rw [hq]; simp
        have h1 := (mem_ready.1 hi).1
        rw [count_zero (by omega) i] at h1
        cases h1
    obtain ⟨q1, q2⟩ := hI.done hac hr
    refine ⟨hr, ?_⟩
    unfold aeffS at hv
    rw [q1] at hv
    simp only [Option.some.injEq] at hv
    subst hv
    exact hQ _ (List.mem_singleton.2 rfl) β a w (Inj.le.refl _) q2 hd hw
  | succ fuel ih =>
    intro k X h outs cl β a w hv hI hw hd hcnt hQ
    refine ⟨fun hr => ?_, fun i hi => ?_⟩
    · obtain ⟨q1, q2⟩ := hI.done hac hr
      unfold aeffS at hv
      rw [q1] at hv
      simp only [Option.some.injEq] at hv
      subst hv
      exact hQ _ (List.mem_singleton.2 rfl) β a w (Inj.le.refl _) q2 hd hw
    · obtain ⟨o, ho, hC, hdep⟩ := (ready_iff hI.szc).1 hi
      have hlt : i < cl.size := by rw [hI.szc]; exact (Array.getElem?_eq_some_iff.1 ho).1
      have hfalse : cl.toList[i]? = some false := by
        unfold Is at hC
        rw [Array.getElem?_toList, Array.getElem?_eq_getElem hlt]
        rw [Array.getD_eq_getD_getElem?, Array.getElem?_eq_getElem hlt] at hC
        cases hq : cl[i] <;> simp_all
      have hcnt' : (cl.setIfInBounds i true).toList.count false ≤ fuel := by
        have := count_set cl.toList i hfalse
        rw [Array.toList_setIfInBounds]
        omega
      by_cases hA : Is X.al i
      · exact hI.step_pending hw hF hi hA fun a' hI' hd' => ih k X h outs _ β a' w hv hI' hw (hd'.trans hd) hcnt' hQ
      · have hiA : i ∈ Region.ready .any ops X.al := (ready_iff hI.sza).2 ⟨o, ho, hA, fun j hj => hI.sub j (hdep j hj)⟩
        unfold aeffS at hv
        split at hv
        · rename_i hq
          rw [hq] at hiA
          cases hiA
        · obtain ⟨outs1, p1, p2⟩ := bindL_mem hv i hiA
          rw [ho] at p1
          simp only at p1
          split at p1
          · rename_i outs2 hst
            refine hI.step_effect hN hE hw hF hi hA ho hst fun x hx β' a' w' r1 r2 r3 r4 => ?_
            obtain ⟨outs3, s1, s2⟩ := bindL_mem p1 x hx
            split at s1
            · rename_i hre
              have hI' := r4 hre
              cases k with
              | zero => cases s1
              | succ k =>
                rw [aeff_succ] at s1
                exact ih k _ x.2 outs3 _ β' a' w' s1 (Inv.takeAll r2 _ _ hI') r2 (r3.trans hd) hcnt' fun y hy β2 a2 w2 t1 t2 t3 t4 => hQ y (p2 y (s2 y hy)) β2 a2 w2 (r1.trans t1) t2 t3 t4
            · cases s1
          · cases p1

theorem aany_sound (hN : ∀ (f : FuncId) (fn : Func), P.funcs[f]? = some fn → (fn.name == "runtime.NumGoroutine") = false) (hE : EvOK P w0 E) (hF : Wide F) {outs : List (List Value × AH)} {a : Act} (hv : aany P E ops tm h = some outs)
    (ha : AR β tm.toArray a.tmps) (hw : WR w0 β h w) (hQ : ∀ x ∈ outs, ∀ β' (a' : Act) w', Inj.le β β' → AR β' x.1.toArray a'.tmps → a'.defers = a.defers → WR w0 β' x.2 w' → Q .normal a' w') :
    wpAnyIn F n P .any ops Q ops.size (Array.replicate ops.size false) a w := by
  unfold aany at hv
  split at hv
  · rename_i hac
    rw [aeff_succ] at hv
    have no : ∀ i, ¬ Is (Array.replicate ops.size false) i := fun i hi => by
      unfold Is at hi
      rw [Array.getD_eq_getD_getElem?, Array.getElem?_replicate] at hi
      split at hi <;> simp at hi
    have hI : Inv P ops β (Array.replicate ops.size false) ⟨Array.replicate ops.size false, [], tm⟩ h a :=
      ⟨by simp, by simp, fun i hi => hi, fun i h1 _ => absurd h1 (no i), (fun e he => by cases he), (fun e he => by cases he), (fun e he => by cases he), (fun e he => by cases he), (fun e he => by cases he),
        (fun i _ h1 => absurd h1 (no i)), (fun i _ h1 => absurd h1 (no i)), ⟨a.tmps, ha, rfl, fun _ _ => rfl⟩⟩
    refine aeffS_sound hN hE hF hac a.defers ops.size _ _ h outs _ β a w hv (Inv.takeAll hw _ _ hI) hw rfl ?_ hQ
    rw [Array.toList_replicate]
    exact Nat.le_trans (List.count_le_length ..) (by simp)
  · cases hv
end
end
end Go.AE

/- A region that draws its order, by a plan that is made once. -/
namespace Go.AE
noncomputable section
open Go.RowKit

/-- A reading operation is taken; or the one operation that may come up otherwise, and which of the readings are looked at again. -/
inductive Stp where
  | take (i : Nat)
  | eff (i : Nat) (keep : List Nat)

def planOk (ops : Array Oper) : List Stp → Array Bool → List Nat → Bool
  | [], al, _ => (Region.ready .any ops al).isEmpty
  | .take i :: r, al, early => (ops[i]?).isSome && (Region.ready .any ops al).contains i && Region.free .any ops al i && noClobber ops early i && planOk ops r (al.setIfInBounds i true) (i :: early)
  | .eff i keep :: r, al, early => (Region.ready .any ops al == [i]) && (keep == early.filter fun e => !(doneBy ops i).contains e) && planOk ops r (al.setIfInBounds i true) keep

def isRd (P : Program) : Op → Bool
  | .move _ | .assign _ | .pick .. | .build .. | .load .. | .nilCheck _ | .binOp .. | .unOp .. | .makeInterface .. | .makeFunc .. | .fieldAddr .. | .field .. | .indexAddr .. | .index .. | .lookup .. | .extract .. | .slice .. => true
  | .convert _ dst _ => (match P.underlying dst with | some (.slice _) | some .string => false | _ => true)
  | .call { callee := .builtin .len, .. } => true
  | _ => false
def planGo (P : Program) (ops : Array Oper) : Nat → Array Bool → List Nat → Option (List Stp)
  | 0, _, _ => none
  | k + 1, al, early =>
    match Region.ready .any ops al with
    | [] => some []
    | l => match l.find? (fun i => (match ops[i]? with | some o => isRd P o.op | none => false) && Region.free .any ops al i && noClobber ops early i) with
      | some i => (match planGo P ops k (al.setIfInBounds i true) (i :: early) with | some r => some (.take i :: r) | none => none)
      | none => (match l with
        | [i] => (match early.filter fun e => !(doneBy ops i).contains e with
          | keep => (match planGo P ops k (al.setIfInBounds i true) keep with | some r => some (.eff i keep :: r) | none => none))
        | _ => none)
def aplan (P : Program) (ops : Array Oper) : Option (List Stp) :=
  match planGo P ops (ops.size + 1) (Array.replicate ops.size false) [] with
  | some p => if acyclic ops && planOk ops p (Array.replicate ops.size false) [] then some p else none
  | none => none

def arunI (P : Program) (E : Ev) (ops : Array Oper) : List Stp → List Value → AH → Option (List (List Value × AH))
  | [], tm, h => some [(tm, h)]
  | .take i :: r, tm, h => match ops[i]? with
    | some o => (match aread P ops tm h o with
      | some v => arunI P E ops r (aput tm o.dst v) h
      | none => none)
    | none => none
  | .eff i keep :: r, tm, h => match ops[i]? with
    | some o => (match astep P E ops tm h o with
      | some outs => bindL (fun x => if keep.all (recheck P ops (aput tm o.dst x.1) x.2) then arunI P E ops r (aput tm o.dst x.1) x.2 else none) outs
      | none => none)
    | none => none
noncomputable def arun (P : Program) (E : Ev) (ops : Array Oper) (l : List Stp) : List Value → AH → Option (List (List Value × AH)) :=
  @List.rec Stp (fun _ => List Value → AH → Option (List (List Value × AH))) (fun tm h => some [(tm, h)]) (fun s _ ih tm h => match s with
    | .take i => (match ops[i]? with
      | some o => (match aread P ops tm h o with
        | some v => ih (aput tm o.dst v) h
        | none => none)
      | none => none)
    | .eff i keep => (match ops[i]? with
      | some o => (match astep P E ops tm h o with
        | some outs => bindL (fun x => if keep.all (recheck P ops (aput tm o.dst x.1) x.2) then ih (aput tm o.dst x.1) x.2 else none) outs
        | none => none)
      | none => none)) l
theorem arun_take (P : Program) (E : Ev) (ops : Array Oper) (i : Nat) (r : List Stp) (tm : List Value) (h : AH) : arun P E ops (.take i :: r) tm h = match ops[i]? with
      | some o => (match aread P ops tm h o with
        | some v => arun P E ops r (aput tm o.dst v) h
        | none => none)
      | none => none := rfl
theorem arun_eff (P : Program) (E : Ev) (ops : Array Oper) (i : Nat) (keep : List Nat) (r : List Stp) (tm : List Value) (h : AH) : arun P E ops (.eff i keep :: r) tm h = match ops[i]? with
      | some o => (match astep P E ops tm h o with
        | some outs => bindL (fun x => if keep.all (recheck P ops (aput tm o.dst x.1) x.2) then arun P E ops r (aput tm o.dst x.1) x.2 else none) outs
        | none => none)
      | none => none := rfl
def aanyP (P : Program) (E : Ev) (ops : Array Oper) (tm : List Value) (h : AH) : Option (List (List Value × AH)) :=
  match aplan P ops with
  | some p => arun P E ops p tm h
  | none => aany P E ops tm h

section
variable {P : Program} {w0 w : World} {β : Inj} {h : AH} {tm : List Value} {E : Ev} {F : Fence} {n : Nat} {ops : Array Oper} {Q : Exit → Act → World → Prop}

theorem cnt_step {cl : Array Bool} {i fuel : Nat} (hlt : i < cl.size) (hC : ¬ Is cl i) (hcnt : cl.toList.count false ≤ fuel + 1) : (cl.setIfInBounds i true).toList.count false ≤ fuel := by
  have hfalse : cl.toList[i]? = some false := by
    unfold Is at hC
    rw [Array.getElem?_toList, Array.getElem?_eq_getElem hlt]
    rw [Array.getD_eq_getD_getElem?, Array.getElem?_eq_getElem hlt] at hC
    cases hq : cl[i] <;> simp_all
  have := count_set cl.toList i hfalse
  rw [Array.toList_setIfInBounds]
  omega
theorem arun_sound (hN : ∀ (f : FuncId) (fn : Func), P.funcs[f]? = some fn → (fn.name == "runtime.NumGoroutine") = false) (hE : EvOK P w0 E) (hF : Wide F) (hac : acyclic ops = true) (ds : List Deferred) : ∀ (fuel : Nat) (stps : List Stp) (al : Array Bool) (early : List Nat) (tm : List Value) (h : AH) (outs : List (List Value × AH)) (cl : Array Bool) (β : Inj) (a : Act) (w : World),
    planOk ops stps al early = true → arun P E ops stps tm h = some outs → Inv P ops β cl ⟨al, early, tm⟩ h a → WR w0 β h w → a.defers = ds → cl.toList.count false ≤ fuel →
    (∀ x ∈ outs, ∀ β' (a' : Act) w', Inj.le β β' → AR β' x.1.toArray a'.tmps → a'.defers = ds → WR w0 β' x.2 w' → Q .normal a' w') → wpAnyIn F n P .any ops Q fuel cl a w := by
  intro fuel
  induction fuel with
  | zero =>
    intro stps
    induction stps with
    | nil =>
      intro al early tm h outs cl β a w hp hv hI hw hd hcnt hQ
      have hr : Region.ready .any ops cl = [] := by
        cases hq : Region.ready .any ops cl with
        | nil => rfl
        | cons i r =>
          exfalso
          have hi : i ∈ Region.ready .any ops cl := by rw [hq]; simp
          have h1 := (mem_ready.1 hi).1
          rw [count_zero (by omega) i] at h1
          cases h1
      obtain ⟨q1, q2⟩ := hI.done hac hr
      cases hv
      exact ⟨hr, hQ _ (List.mem_singleton.2 rfl) β a w (Inj.le.refl _) q2 hd hw⟩
    | cons s r ih =>
      intro al early tm h outs cl β a w hp hv hI hw hd hcnt hQ
      cases s with
      | take i =>
        simp only [planOk, Bool.and_eq_true] at hp
        obtain ⟨⟨⟨⟨p1, p2⟩, p3⟩, p4⟩, p5⟩ := hp
        simp only [arun_take] at hv
        split at hv
        · rename_i o ho
          split at hv
          · rename_i v hrd
            exact ih _ _ _ h outs cl β a w p5 hv (hI.take hw (by simpa using p2) ho p3 p4 hrd) hw hd hcnt hQ
          · cases hv
        · cases hv
      | eff i keep =>
        exfalso
        simp only [planOk, Bool.and_eq_true] at hp
        have hr : Region.ready .any ops cl = [] := by
          cases hq : Region.ready .any ops cl with
          | nil => rfl
          | cons i r =>
            exfalso
            have hi : i ∈ Region.ready .any ops cl := by rw [hq]; simp
            have h1 := (mem_ready.1 hi).1
            rw [count_zero (by omega) i] at h1
            cases h1
        obtain ⟨q1, q2⟩ := hI.done hac hr
        have : Region.ready .any ops al = [i] := by simpa using hp.1.1
        simp only at q1
        rw [q1] at this
        cases this
  | succ fuel ihf =>
    intro stps
    induction stps with
    | nil =>
      intro al early tm h outs cl β a w hp hv hI hw hd hcnt hQ
      have hv0 := hv
      cases hv
      refine ⟨fun hr => ?_, fun k hk => ?_⟩
      · obtain ⟨q1, q2⟩ := hI.done hac hr
        exact hQ _ (List.mem_singleton.2 rfl) β a w (Inj.le.refl _) q2 hd hw
      · obtain ⟨o, ho, hC, hdep⟩ := (ready_iff hI.szc).1 hk
        have hlt : k < cl.size := by rw [hI.szc]; exact (Array.getElem?_eq_some_iff.1 ho).1
        have hcnt' := cnt_step hlt hC hcnt
        by_cases hA : Is al k
        · exact hI.step_pending hw hF hk hA fun a' hI' hd' => ihf [] al early tm h _ _ β a' w hp hv0 hI' hw (hd'.trans hd) hcnt' hQ
        · exfalso
          have hiA : k ∈ Region.ready .any ops al := (ready_iff hI.sza).2 ⟨o, ho, hA, fun j hj => hI.sub j (hdep j hj)⟩
          have : Region.ready .any ops al = [] := by simpa [planOk] using hp
          rw [this] at hiA
          cases hiA
    | cons s r ih =>
      intro al early tm h outs cl β a w hp hv hI hw hd hcnt hQ
      cases s with
      | take i =>
        simp only [planOk, Bool.and_eq_true] at hp
        obtain ⟨⟨⟨⟨p1, p2⟩, p3⟩, p4⟩, p5⟩ := hp
        simp only [arun_take] at hv
        split at hv
        · rename_i o ho
          split at hv
          · rename_i v hrd
            exact ih _ _ _ h outs cl β a w p5 hv (hI.take hw (by simpa using p2) ho p3 p4 hrd) hw hd hcnt hQ
          · cases hv
        · cases hv
      | eff i keep =>
        have hp0 := hp
        have hv0 := hv
        simp only [planOk, Bool.and_eq_true] at hp
        obtain ⟨⟨p1, p2⟩, p3⟩ := hp
        have p1' : Region.ready .any ops al = [i] := by simpa using p1
        have p2' : keep = early.filter fun e => !(doneBy ops i).contains e := eq_of_beq p2
        refine ⟨fun hr => ?_, fun k hk => ?_⟩
        · exfalso
          obtain ⟨q1, q2⟩ := hI.done hac hr
          simp only at q1
          rw [q1] at p1'
          cases p1'
        · obtain ⟨o, ho, hC, hdep⟩ := (ready_iff hI.szc).1 hk
          have hlt : k < cl.size := by rw [hI.szc]; exact (Array.getElem?_eq_some_iff.1 ho).1
          have hcnt' := cnt_step hlt hC hcnt
          by_cases hA : Is al k
          · exact hI.step_pending hw hF hk hA fun a' hI' hd' => ihf (.eff i keep :: r) al early tm h outs _ β a' w hp0 hv0 hI' hw (hd'.trans hd) hcnt' hQ
          · have hiA : k ∈ Region.ready .any ops al := (ready_iff hI.sza).2 ⟨o, ho, hA, fun j hj => hI.sub j (hdep j hj)⟩
            rw [p1'] at hiA
            have hki : k = i := List.mem_singleton.1 hiA
            subst hki
            simp only [arun_eff] at hv
            rw [ho] at hv
            simp only at hv
            split at hv
            · rename_i outs2 hst
              refine hI.step_effect hN hE hw hF hk hA ho hst fun x hx β' a' w' r1 r2 r3 r4 => ?_
              obtain ⟨outs3, s1, s2⟩ := bindL_mem hv x hx
              split at s1
              · rename_i hre
                rw [p2'] at hre
                have hI' := r4 hre
                rw [← p2'] at hI'
                exact ihf r _ _ _ x.2 outs3 _ β' a' w' p3 s1 hI' r2 (r3.trans hd) hcnt' fun y hy β2 a2 w2 t1 t2 t3 t4 => hQ y (s2 y hy) β2 a2 w2 (r1.trans t1) t2 t3 t4
              · cases s1
            · cases hv

theorem aanyP_sound (hN : ∀ (f : FuncId) (fn : Func), P.funcs[f]? = some fn → (fn.name == "runtime.NumGoroutine") = false) (hE : EvOK P w0 E) (hF : Wide F) {outs : List (List Value × AH)} {a : Act} (hv : aanyP P E ops tm h = some outs)
    (ha : AR β tm.toArray a.tmps) (hw : WR w0 β h w) (hQ : ∀ x ∈ outs, ∀ β' (a' : Act) w', Inj.le β β' → AR β' x.1.toArray a'.tmps → a'.defers = a.defers → WR w0 β' x.2 w' → Q .normal a' w') :
    wpAnyIn F n P .any ops Q ops.size (Array.replicate ops.size false) a w := by
  unfold aanyP at hv
  split at hv
  · rename_i p hp
    unfold aplan at hp
    split at hp
    · split at hp
      · rename_i p' _ hok
        cases hp
        simp only [Bool.and_eq_true] at hok
        have no : ∀ i, ¬ Is (Array.replicate ops.size false) i := fun i hi => by
          unfold Is at hi
          rw [Array.getD_eq_getD_getElem?, Array.getElem?_replicate] at hi
          split at hi <;> simp at hi
        have hI : Inv P ops β (Array.replicate ops.size false) ⟨Array.replicate ops.size false, [], tm⟩ h a :=
          ⟨by simp, by simp, fun i hi => hi, fun i h1 _ => absurd h1 (no i), (fun e he => by cases he), (fun e he => by cases he), (fun e he => by cases he), (fun e he => by cases he), (fun e he => by cases he),
            (fun i _ h1 => absurd h1 (no i)), (fun i _ h1 => absurd h1 (no i)), ⟨a.tmps, ha, rfl, fun _ _ => rfl⟩⟩
        refine arun_sound hN hE hF hok.1 a.defers ops.size p _ _ tm h outs _ β a w hok.2 hv hI hw rfl ?_ hQ
        rw [Array.toList_replicate]
        exact Nat.le_trans (List.count_le_length ..) (by simp)
      · cases hp
    · cases hp
  · exact aany_sound hN hE hF hv ha hw hQ
end
end
end Go.AE

/- Which operations may come up, by bits. -/
namespace Go.AE
noncomputable section
open Go.RowKit

noncomputable def dmaskL (l : List Edge) : Nat := @List.rec Edge (fun _ => Nat) 0 (fun e _ ih => cond (Region.binds .any e) (Nat.lor (Nat.shiftLeft 1 e.on) ih) ih) l
theorem dmask_bit (l : List Edge) (j : Nat) : (dmaskL l).testBit j = l.any fun e => Region.binds .any e && (e.on == j) := by
  induction l with
  | nil => simp [dmaskL]
  | cons e r ih =>
    show (cond (Region.binds .any e) (Nat.lor (Nat.shiftLeft 1 e.on) (dmaskL r)) (dmaskL r)).testBit j = _
    rw [List.any_cons]
    cases hb : Region.binds .any e with
    | false => simp [ih]
    | true =>
      simp only [cond_true, Bool.true_and]
      have : (Nat.lor (Nat.shiftLeft 1 e.on) (dmaskL r)) = (1 <<< e.on) ||| dmaskL r := rfl
      rw [this, Nat.testBit_or, ih]
      congr 1
      rw [Nat.one_shiftLeft, Nat.testBit_two_pow]
      by_cases h : e.on = j <;> simp [h]

/-- The bits m are what the marks l say. -/
def MR (l : Array Bool) (m : Nat) : Prop := ∀ i, m.testBit i = l.getD i false
theorem MR.zero (n : Nat) : MR (Array.replicate n false) 0 := fun i => by
  simp [Array.getD_eq_getD_getElem?, Array.getElem?_replicate]
  split <;> simp
noncomputable def msub (d m : Nat) : Bool := Nat.beq (Nat.land d m) d
theorem msub_iff {d m : Nat} : msub d m = true ↔ ∀ j, d.testBit j = true → m.testBit j = true := by
  unfold msub
  constructor
  · intro h j hj
    have h1 : d &&& m = d := Nat.eq_of_beq_eq_true h
    have := congrArg (·.testBit j) h1
    simp only [Nat.testBit_and, hj, Bool.true_and] at this
    exact this
  · intro h
    have h1 : d &&& m = d := by
      apply Nat.eq_of_testBit_eq
      intro j
      rw [Nat.testBit_and]
      cases hd : d.testBit j with
      | false => rfl
      | true => simp [h j hd]
    have : Nat.land d m = d := h1
    rw [this, Nat.beq_refl]

noncomputable def bitM (m i : Nat) : Bool := Nat.beq (Nat.land (Nat.shiftRight m i) 1) 1
theorem bitM_eq (m i : Nat) : bitM m i = m.testBit i := by
  unfold bitM Nat.testBit
  have e : Nat.land (Nat.shiftRight m i) 1 = 1 &&& (m >>> i) := by rw [Nat.and_comm]; rfl
  rw [e]
  have h2 : 1 &&& (m >>> i) = (m >>> i) % 2 := by rw [Nat.and_comm]; exact Nat.and_one_is_mod _
  rw [h2]
  rcases Nat.mod_two_eq_zero_or_one (m >>> i) with h | h <;> rw [h] <;> rfl
noncomputable def pairsL (ops : Array Oper) (l : List Nat) : List (Nat × Nat) := @List.rec Nat (fun _ => List (Nat × Nat)) [] (fun i _ ih => match ops[i]? with
  | some o => (i, dmaskL o.after.toList) :: ih
  | none => ih) l
noncomputable def readyM (l : List (Nat × Nat)) (m : Nat) : List Nat := @List.rec (Nat × Nat) (fun _ => List Nat) [] (fun p _ ih => cond (bitM m p.1) ih (cond (msub p.2 m) (p.1 :: ih) ih)) l
theorem readyM_eq {ops : Array Oper} {al : Array Bool} {m : Nat} (hm : MR al m) (hs : al.size = ops.size) : readyM (pairsL ops (List.range ops.size)) m = Region.ready .any ops al := by
  unfold Region.ready
  have key : ∀ l : List Nat, (∀ i ∈ l, i < ops.size) → readyM (pairsL ops l) m = l.filter fun i => !al.getD i true && ((ops[i]?).map (·.after.all fun e => !Region.binds .any e || al.getD e.on false)).getD false := by
    intro l
    induction l with
    | nil => intro _; rfl
    | cons i r ih =>
      intro hl
      have hi : i < ops.size := hl i (by simp)
      have hr := ih fun j hj => hl j (List.mem_cons_of_mem _ hj)
      have ho : ops[i]? = some ops[i] := by simp [hi]
      have e : pairsL ops (i :: r) = match ops[i]? with
        | some o => (i, dmaskL o.after.toList) :: pairsL ops r
        | none => pairsL ops r := rfl
      rw [e, ho]
      show cond (bitM m i) (readyM (pairsL ops r) m) (cond (msub (dmaskL ops[i].after.toList) m) (i :: readyM (pairsL ops r) m) (readyM (pairsL ops r) m)) = _
      rw [hr, bitM_eq, hm i, List.filter_cons, ho]
      have hg : al.getD i true = al.getD i false := by simp [show i < al.size by omega]
      rw [hg]
      cases hb : al.getD i false with
      | true => simp
      | false =>
        simp only [cond_false, Bool.not_false, Bool.true_and, Option.map_some, Option.getD_some]
        have h3 : msub (dmaskL ops[i].after.toList) m = ops[i].after.all fun e => !Region.binds .any e || al.getD e.on false := by
          rw [Bool.eq_iff_iff, msub_iff, Array.all_eq_true']
          constructor
          · intro h e he
            cases hbe : Region.binds .any e with
            | false => rfl
            | true =>
              have := h e.on (by rw [dmask_bit, List.any_eq_true]; exact ⟨e, by simpa using he, by simp [hbe]⟩)
              rw [hm] at this
              simp [this]
          · intro h j hj
            rw [dmask_bit, List.any_eq_true] at hj
            obtain ⟨e, he, h2⟩ := hj
            simp only [Bool.and_eq_true, beq_iff_eq] at h2
            have := h e (by simpa using he)
            rw [h2.1, h2.2] at this
            rw [hm]
            simpa using this
        rw [h3]
        cases (ops[i].after.all fun e => !Region.binds .any e || al.getD e.on false) <;> rfl
  exact key _ fun i hi => List.mem_range.1 hi
theorem MR.set {al : Array Bool} {m i : Nat} (hm : MR al m) (hi : i < al.size) : MR (al.setIfInBounds i true) (Nat.lor m (Nat.shiftLeft 1 i)) := by
  intro j
  have e : Nat.lor m (Nat.shiftLeft 1 i) = m ||| (1 <<< i) := rfl
  rw [e, Nat.testBit_or, hm j, Nat.one_shiftLeft, Nat.testBit_two_pow]
  rw [Array.getD_eq_getD_getElem?, Array.getD_eq_getD_getElem?, Array.getElem?_setIfInBounds]
  by_cases h : i = j
  · subst h; simp [hi]
  · simp [h]

noncomputable def freeM (ops : Array Oper) (m i : Nat) : Bool := match ops[i]? with
  | none => false
  | some oi => @List.rec Nat (fun _ => Bool) true (fun j _ ih => cond (cond (Nat.beq j i) true (cond (bitM m j) true (match ops[j]? with
    | some oj => cond (bitM (dmaskL oj.after.toList) i) true (oi.apart ops oj)
    | none => true))) ih false) (List.range ops.size)
theorem freeM_eq {ops : Array Oper} {al : Array Bool} {m : Nat} (hm : MR al m) (hs : al.size = ops.size) (i : Nat) : freeM ops m i = Region.free .any ops al i := by
  unfold freeM Region.free
  cases hoi : ops[i]? with
  | none => rfl
  | some oi =>
    simp only []
    have key : ∀ l : List Nat, (∀ j ∈ l, j < ops.size) → (@List.rec Nat (fun _ => Bool) true (fun j _ ih => cond (cond (Nat.beq j i) true (cond (bitM m j) true (match ops[j]? with
        | some oj => cond (bitM (dmaskL oj.after.toList) i) true (oi.apart ops oj)
        | none => true))) ih false) l) = l.all fun j => j == i || al.getD j true || match ops[j]? with
        | some oj => oj.after.any (fun e => Region.binds .any e && e.on == i) || oi.apart ops oj
        | none => true := by
      intro l
      induction l with
      | nil => intro _; rfl
      | cons j r ih =>
        intro hl
        have hj : j < ops.size := hl j (by simp)
        have hr := ih fun k hk => hl k (List.mem_cons_of_mem _ hk)
        simp only [List.all_cons]
        rw [← hr]
        have hg : al.getD j true = m.testBit j := by rw [hm j]; simp [show j < al.size by omega]
        have ho : ops[j]? = some ops[j] := by simp [hj]
        have hb : (j == i) = Nat.beq j i := by
          cases h : Nat.beq j i with
          | true => rw [Nat.eq_of_beq_eq_true h]; simp
          | false =>
            have : ¬ j = i := fun e => by subst e; rw [Nat.beq_refl] at h; cases h
            simpa using this
        rw [hg, ho, hb, bitM_eq]
        have hd : bitM (dmaskL ops[j].after.toList) i = ops[j].after.any (fun e => Region.binds .any e && e.on == i) := by
          rw [bitM_eq, dmask_bit]; simp
        show cond (cond (Nat.beq j i) true (cond (m.testBit j) true (cond (bitM (dmaskL ops[j].after.toList) i) true (oi.apart ops ops[j])))) _ false = _
        rw [hd]
        simp only []
        cases Nat.beq j i <;> cases m.testBit j <;> cases (ops[j].after.any fun e => Region.binds .any e && e.on == i) <;> cases oi.apart ops ops[j] <;> rfl
    exact key _ fun j hj => List.mem_range.1 hj

noncomputable def planOkM (ops : Array Oper) (ps : List (Nat × Nat)) (l : List Stp) : Nat → List Nat → Bool :=
  @List.rec Stp (fun _ => Nat → List Nat → Bool) (fun m _ => (readyM ps m).isEmpty) (fun s _ ih m early => match s with
    | .take i => (ops[i]?).isSome && (readyM ps m).contains i && freeM ops m i && noClobber ops early i && ih (Nat.lor m (Nat.shiftLeft 1 i)) (i :: early)
    | .eff i keep => (ops[i]?).isSome && (readyM ps m == [i]) && (keep == early.filter fun e => !(doneBy ops i).contains e) && ih (Nat.lor m (Nat.shiftLeft 1 i)) keep) l
theorem planOkM_ok {ops : Array Oper} : ∀ (l : List Stp) (m : Nat) (al : Array Bool) (early : List Nat), MR al m → al.size = ops.size → planOkM ops (pairsL ops (List.range ops.size)) l m early = true → planOk ops l al early = true := by
  intro l
  induction l with
  | nil =>
    intro m al early hm hs h
    have h : (readyM (pairsL ops (List.range ops.size)) m).isEmpty = true := h
    rw [readyM_eq hm hs] at h
    exact h
  | cons s r ih =>
    intro m al early hm hs h
    cases s with
    | take i =>
      have h : ((ops[i]?).isSome && (readyM (pairsL ops (List.range ops.size)) m).contains i && freeM ops m i && noClobber ops early i && planOkM ops (pairsL ops (List.range ops.size)) r (Nat.lor m (Nat.shiftLeft 1 i)) (i :: early)) = true := h
      rw [readyM_eq hm hs, freeM_eq hm hs] at h
      simp only [Bool.and_eq_true] at h
      obtain ⟨⟨⟨⟨h1, h2⟩, h3⟩, h4⟩, h5⟩ := h
      have hi : i < al.size := by
        rw [hs]
        rcases Nat.lt_or_ge i ops.size with hq | hq
        · exact hq
        · rw [Array.getElem?_eq_none hq] at h1; cases h1
      simp only [planOk, Bool.and_eq_true]
      exact ⟨⟨⟨⟨h1, h2⟩, h3⟩, h4⟩, ih _ _ _ (hm.set hi) (by simp [hs]) h5⟩
    | eff i keep =>
      have h : ((ops[i]?).isSome && (readyM (pairsL ops (List.range ops.size)) m == [i]) && (keep == early.filter fun e => !(doneBy ops i).contains e) && planOkM ops (pairsL ops (List.range ops.size)) r (Nat.lor m (Nat.shiftLeft 1 i)) keep) = true := h
      rw [readyM_eq hm hs] at h
      simp only [Bool.and_eq_true] at h
      obtain ⟨⟨⟨h1, h2⟩, h3⟩, h4⟩ := h
      have hi : i < al.size := by
        rw [hs]
        rcases Nat.lt_or_ge i ops.size with hq | hq
        · exact hq
        · rw [Array.getElem?_eq_none hq] at h1; cases h1
      simp only [planOk, Bool.and_eq_true]
      exact ⟨⟨h2, h3⟩, ih _ _ _ (hm.set hi) (by simp [hs]) h4⟩

noncomputable def firstB (f : Nat → Bool) (l : List Nat) : Option Nat := @List.rec Nat (fun _ => Option Nat) none (fun i _ ih => cond (f i) (some i) ih) l
noncomputable def planGoM (P : Program) (ops : Array Oper) (ps : List (Nat × Nat)) (k : Nat) : Nat → List Nat → Option (List Stp) :=
  @Nat.rec (fun _ => Nat → List Nat → Option (List Stp)) (fun _ _ => none) (fun _ ih m early => match readyM ps m with
    | [] => some []
    | l => match firstB (fun i => (match ops[i]? with | some o => isRd P o.op | none => false) && freeM ops m i && noClobber ops early i) l with
      | some i => (match ih (Nat.lor m (Nat.shiftLeft 1 i)) (i :: early) with | some r => some (.take i :: r) | none => none)
      | none => (match l with
        | [i] => (match early.filter fun e => !(doneBy ops i).contains e with
          | keep => (match ih (Nat.lor m (Nat.shiftLeft 1 i)) keep with | some r => some (.eff i keep :: r) | none => none))
        | _ => none)) k
def aplanI (P : Program) (ops : Array Oper) : Option (List Stp) := aplan P ops
noncomputable def aplanM (P : Program) (ops : Array Oper) : Option (List Stp) :=
  match planGoM P ops (pairsL ops (List.range ops.size)) (ops.size + 1) 0 [] with
  | some p => if acyclic ops && planOkM ops (pairsL ops (List.range ops.size)) p 0 [] then some p else none
  | none => none
def aanyM (P : Program) (E : Ev) (ops : Array Oper) (tm : List Value) (h : AH) : Option (List (List Value × AH)) :=
  match aplanM P ops with
  | some p => arun P E ops p tm h
  | none => aany P E ops tm h

section
variable {P : Program} {w0 w : World} {β : Inj} {h : AH} {tm : List Value} {E : Ev} {F : Fence} {n : Nat} {ops : Array Oper} {Q : Exit → Act → World → Prop}
theorem aanyM_sound (hN : ∀ (f : FuncId) (fn : Func), P.funcs[f]? = some fn → (fn.name == "runtime.NumGoroutine") = false) (hE : EvOK P w0 E) (hF : Wide F) {outs : List (List Value × AH)} {a : Act} (hv : aanyM P E ops tm h = some outs)
    (ha : AR β tm.toArray a.tmps) (hw : WR w0 β h w) (hQ : ∀ x ∈ outs, ∀ β' (a' : Act) w', Inj.le β β' → AR β' x.1.toArray a'.tmps → a'.defers = a.defers → WR w0 β' x.2 w' → Q .normal a' w') :
    wpAnyIn F n P .any ops Q ops.size (Array.replicate ops.size false) a w := by
  unfold aanyM at hv
  split at hv
  · rename_i p hp
    unfold aplanM at hp
    split at hp
    · split at hp
      · rename_i p' _ hok
        cases hp
        simp only [Bool.and_eq_true] at hok
        have hok2 := planOkM_ok p 0 (Array.replicate ops.size false) [] (MR.zero _) (by simp) hok.2
        have no : ∀ i, ¬ Is (Array.replicate ops.size false) i := fun i hi => by
          unfold Is at hi
          rw [Array.getD_eq_getD_getElem?, Array.getElem?_replicate] at hi
          split at hi <;> simp at hi
        have hI : Inv P ops β (Array.replicate ops.size false) ⟨Array.replicate ops.size false, [], tm⟩ h a :=
          ⟨by simp, by simp, fun i hi => hi, fun i h1 _ => absurd h1 (no i), (fun e he => by cases he), (fun e he => by cases he), (fun e he => by cases he), (fun e he => by cases he), (fun e he => by cases he),
            (fun i _ h1 => absurd h1 (no i)), (fun i _ h1 => absurd h1 (no i)), ⟨a.tmps, ha, rfl, fun _ _ => rfl⟩⟩
        refine arun_sound hN hE hF hok.1 a.defers ops.size p _ _ tm h outs _ β a w hok2 hv hI hw rfl ?_ hQ
        rw [Array.toList_replicate]
        exact Nat.le_trans (List.count_le_length ..) (by simp)
      · cases hp
    · cases hp
  · exact aany_sound hN hE hF hv ha hw hQ
end
end
end Go.AE

/- Code, rounds, calls: one level of the evaluator over the level below. -/
namespace Go.AE
noncomputable section
open Go.RowKit

abbrev CO := Exit × List Value × List Nat × AH

def inBlk (id : Nat) (o : CO) : CO := match o with
  | (.exit i, r) => if i = id then (.normal, r) else (.exit i, r)
  | o => o
def noGoto (o : CO) : Bool := match o.1 with
  | .goto _ => false
  | _ => true
def enterL (rd : Option Nat) (tm : List Value) (ps : Array Tmp) (as bd : Code) (ds : List Nat) (h : AH) : Option (Nat × List Nat × AH) :=
  match rd with
  | none => some (h.next + 1, h.next :: ds, (h.new .deferred).new (.loop .ready none tm ps as bd h.next))
  | some l0 => match h.get l0 with
    | some (.loop _ _ _ _ _ _ df) => some (h.next, ds, h.new (.loop .ready none tm ps as bd df))
    | _ => none
def rfEnd (E : Ev) (rd : Option Nat) (l : Nat) (tm : List Value) (ds : List Nat) (o : Value × AH) : Option (List CO) :=
  match o.2.get l with
  | some (.loop st pe _ _ _ _ _) => match st with
    | .busy => none
    | _ => match pe with
      | none => some [(.normal, tm, ds, o.2.put l .gone)]
      | some c => E.code rd c tm ds (o.2.put l .gone)
  | _ => none
def acodeS (P : Program) (E : Ev) (rd : Option Nat) (c : Code) (tm : List Value) (ds : List Nat) (h : AH) : Option (List CO) :=
  match c with
  | .skip => some [(.normal, tm, ds, h)]
  | .label _ => some [(.normal, tm, ds, h)]
  | .region _ ops true => if P.follows .mixedOrders then (match aanyM P E ops tm h with
      | some outs => some (outs.map fun x => (.normal, x.1, ds, x.2))
      | none => none) else none
  | .region _ ops false => (match aseq P E ops (List.range ops.size) tm h with
      | some outs => some (outs.map fun x => (.normal, x.1, ds, x.2))
      | none => none)
  | .seq x y => (match E.code rd x tm ds h with
      | some outs => bindL (fun o => match o.1 with
        | .normal => E.code rd y o.2.1 o.2.2.1 o.2.2.2
        | _ => some [o]) outs
      | none => none)
  | .cond c x y => (match aeval tm c with
      | some (.bool true) => E.code rd x tm ds h
      | some (.bool false) => E.code rd y tm ds h
      | _ => none)
  | .block id x => (match E.code rd x tm ds h with
      | some outs => some (outs.map (inBlk id))
      | none => none)
  | .loop x => (match E.code rd x tm ds h with
      | some outs => bindL (fun o => match o.1 with
        | .normal => E.code rd (.loop x) o.2.1 o.2.2.1 o.2.2.2
        | _ => some [o]) outs
      | none => none)
  | .scope x => (match E.code rd x tm ds h with
      | some outs => if outs.all noGoto then some outs else none
      | none => none)
  | .exit id => some [(.exit id, tm, ds, h)]
  | .ret => some [(.ret, tm, ds, h)]
  | .rangeFunc f ps as bd => (match aeval tm f with
      | some (.func (.func g) first cap) => (match P.funcs[g]? with
        | some fn => if fn.body.isSome then
            (match enterL rd tm ps as bd ds h with
             | some (l, ds1, h1) => (match E.call g (first.toList ++ [.func (.yield l) #[] #[]] ++ cap.toList) h1 with
               | some outs => bindL (rfEnd E rd l tm ds1) outs
               | none => none)
             | none => none)
          else none
        | none => none)
      | _ => none)
  | _ => none

def roundEnd (l : Nat) (o : CO) : Option (List (Value × AH)) :=
  match o.2.2.2.get l with
  | some (.loop _ _ tml ps as bd df) => (match o.1 with
    | .normal => some [(.bool true, o.2.2.2.put l (.loop .ready none tml ps as bd df))]
    | .ret => some [(.bool false, o.2.2.2.put l (.loop .done (some .ret) tml ps as bd df))]
    | .exit id => some [(.bool false, o.2.2.2.put l (.loop .done (some (.exit id)) tml ps as bd df))]
    | _ => none)
  | _ => none
def roundMid (E : Ev) (l : Nat) (bd : Code) (o : CO) : Option (List (Value × AH)) :=
  match o.1 with
  | .normal => (match o.2.2.2.get l with
    | some (.loop .ready pe tml ps as' bd' df) => (match E.code (some l) bd o.2.1 o.2.2.1 (o.2.2.2.put l (.loop .busy pe tml ps as' bd' df)) with
      | some outs => bindL (roundEnd l) outs
      | none => none)
    | _ => none)
  | _ => none
def aroundS (E : Ev) (l : Nat) (tm : List Value) (as bd : Code) (h : AH) : Option (List (Value × AH)) :=
  match E.code (some l) as tm [] h with
  | some outs => bindL (roundMid E l bd) outs
  | none => none

def aclose : List Nat → AH → Option AH
  | [], h => some h
  | d :: r, h => match h.get d with
    | some .deferred => aclose r (h.put d .gone)
    | _ => none
def aresult (P : Program) (h : AH) (tm : List Value) : ResultVar → Option Value
  | .tmp t => some (tm.getD t undef)
  | .cell a t => aload P h t (tm.getD a undef)
def aresults (P : Program) (h : AH) (tm : List Value) : List ResultVar → Option (List Value)
  | [] => some []
  | x :: r => match aresult P h tm x, aresults P h tm r with
    | some v, some l => some (v :: l)
    | _, _ => none
def packed : List Value → Value
  | [v] => v
  | l => .tuple l.toArray
def aleaveIn (P : Program) (fn : Func) (tm : List Value) (ds : List Nat) (h : AH) : Option (List (Value × AH)) :=
  match aclose ds h with
  | some h' => (match aresults P h' tm fn.results.toList with
    | some l => some [(packed l, h')]
    | none => none)
  | none => none
def aleave (P : Program) (fn : Func) (o : CO) : Option (List (Value × AH)) :=
  match o.1 with
  | .normal => aleaveIn P fn o.2.1 o.2.2.1 o.2.2.2
  | .ret => aleaveIn P fn o.2.1 o.2.2.1 o.2.2.2
  | _ => none
/-! ### several answers that are one -/
def zipAll {α : Type} (f : α → α → Bool) : List α → List α → Bool
  | [], [] => true
  | x :: r, y :: s => f x y && zipAll f r s
  | _, _ => false
def entEq (e f : Ent) : Bool := veq 8 e.key f.key && veq 8 e.val f.val && Nat.beq e.born f.born
def aobjEq : AObj → AObj → Bool
  | .row c z lo, .row c' z' lo' => zipAll (veq 8) c c' && Nat.beq z z' && (lo == lo')
  | .map es ck, .map es' ck' => zipAll entEq es es' && Nat.beq ck ck'
  | .deferred, .deferred => true
  | .gone, .gone => true
  | _, _ => false
def trieEq : Trie AObj → Trie AObj → Bool
  | .nil, .nil => true
  | .node v l r, .node v' l' r' => zipAll (fun (x y : Nat × AObj) => Nat.beq x.1 y.1 && aobjEq x.2 y.2) v v' && trieEq l l' && trieEq r r'
  | _, _ => false
def glEq (x y : Nat × List Value) : Bool := Nat.beq x.1 y.1 && zipAll (veq 8) x.2 y.2
def outEq (x y : Value × AH) : Bool := zipAll glEq x.2.gl y.2.gl && Nat.beq x.2.next y.2.next && veq 8 x.1 y.1 && trieEq x.2.t y.2.t

def vnames : Nat → Value → List Nat
  | _, .pointer (some a) => [a.block]
  | _, .slice (some a) _ _ => [a.block]
  | _, .map (some r) => [r]
  | d + 1, .iface _ v => vnames d v
  | d + 1, .agg c => c.toList.flatMap (vnames d)
  | d + 1, .tuple c => c.toList.flatMap (vnames d)
  | d + 1, .func (.yield l) a c => l :: (a.toList.flatMap (vnames d) ++ c.toList.flatMap (vnames d))
  | d + 1, .func _ a c => a.toList.flatMap (vnames d) ++ c.toList.flatMap (vnames d)
  | _, _ => []
def onames : AObj → List Nat
  | .row c _ _ => c.flatMap (vnames 8)
  | .map es _ => es.flatMap fun e => vnames 8 e.val
  | .mapIter (some m) _ _ _ => [m]
  | .loop _ _ tm _ _ _ df => df :: tm.flatMap (vnames 8)
  | _ => []
def marks (h : AH) : Nat → List Nat → Trie Bool → Trie Bool
  | 0, _, s => s
  | _ + 1, [], s => s
  | k + 1, b :: r, s => match Trie.get 8 s b with
    | some _ => marks h k r s
    | none => match h.get b with
      | some o => marks h k (onames o ++ r) (Trie.set 8 s b true)
      | none => marks h k r (Trie.set 8 s b true)
def sweep (s : Trie Bool) : List Nat → AH → AH
  | [], h => h
  | b :: r, h => match Trie.get 8 s b with
    | some _ => sweep s r h
    | none => sweep s r (if b < h.next then h.put b .gone else h)
/-- Names from N on that nothing leads to are let go. -/
def tidy (N : Nat) (x : Value × AH) : Value × AH :=
  (x.1, sweep (marks x.2 100000 (vnames 8 x.1 ++ List.range N) .nil) ((List.range (x.2.next - N)).map (N + ·)) x.2)
def addOut : List (Value × AH) → Value × AH → List (Value × AH)
  | [], x => [x]
  | y :: r, x => if outEq x y then y :: r else y :: addOut r x
def merged (N : Nat) : List (Value × AH) → List (Value × AH)
  | [] => []
  | [x] => [x]
  | l => (l.map (tidy N)).foldl addOut []

def acallS (P : Program) (E : Ev) (f : FuncId) (args : List Value) (h : AH) : Option (List (Value × AH)) :=
  match P.funcs[f]? with
  | some fn => (match fn.body with
    | some c => (match E.code none c (args ++ List.replicate (fn.ntmps - args.length) undef) [] h with
      | some outs => (match bindL (aleave P fn) outs with
        | some os => some (merged h.next os)
        | none => none)
      | none => none)
    | none => none)
  | none => none

def evNil : Ev := ⟨fun _ _ _ _ _ => none, fun _ _ _ => none, fun _ _ _ _ _ => none⟩
def evS (P : Program) (E : Ev) : Ev := ⟨acodeS P E, acallS P E, aroundS E⟩
def evI (P : Program) : Nat → Ev
  | 0 => evNil
  | k + 1 => evS P (evI P k)
noncomputable def ev (P : Program) (k : Nat) : Ev := @Nat.rec (fun _ => Ev) evNil (fun _ E => evS P E) k

/-! ### soundness -/
def DS (β : Inj) : List Nat → List Deferred → Prop
  | [], [] => True
  | d :: ds, D :: Ds => (∃ L, β d = some L ∧ D = { target := .collected L.blk, args := #[] }) ∧ DS β ds Ds
  | _, _ => False
theorem DS.mono {β β' : Inj} (hb : Inj.le β β') : ∀ {ds : List Nat} {Ds : List Deferred}, DS β ds Ds → DS β' ds Ds
  | [], [], _ => trivial
  | d :: ds, D :: Ds, h => ⟨let ⟨L, h1, h2⟩ := h.1; ⟨L, hb _ _ h1, h2⟩, DS.mono hb h.2⟩
  | [], _ :: _, h => h.elim
  | _ :: _, [], h => h.elim

def FRd (β : Inj) : Option Nat → Fence → Prop
  | none, F => F = Fence.wide
  | some l, F => ∃ L, β l = some L ∧ F = Fence.wide.inRound L.blk
theorem FRd.mono {β β' : Inj} (hb : Inj.le β β') : ∀ {rd : Option Nat} {F : Fence}, FRd β rd F → FRd β' rd F
  | none, _, h => h
  | some l, _, ⟨L, h1, h2⟩ => ⟨L, hb _ _ h1, h2⟩
theorem FRd.wide {β : Inj} : ∀ {rd : Option Nat} {F : Fence}, FRd β rd F → Wide F
  | none, _, h => .inl h
  | some l, _, ⟨L, h1, h2⟩ => .inr ⟨L.blk, h2⟩

def QR (w0 : World) (β : Inj) (outs : List CO) : Exit → Act → World → Prop := fun e a w =>
  ∃ x ∈ outs, e = x.1 ∧ ∃ β', Inj.le β β' ∧ AR β' x.2.1.toArray a.tmps ∧ DS β' x.2.2.1 a.defers ∧ WR w0 β' x.2.2.2 w
theorem QR.sub {w0 : World} {β β' : Inj} {o1 o2 : List CO} (hb : Inj.le β β') (hs : ∀ x ∈ o1, x ∈ o2) {e : Exit} {a : Act} {w : World} (h : QR w0 β' o1 e a w) : QR w0 β o2 e a w := by
  obtain ⟨x, h1, h2, β2, h3, h4⟩ := h
  exact ⟨x, hs x h1, h2, β2, hb.trans h3, h4⟩

structure CodeOK (P : Program) (w0 : World) (k : Nat) (E : Ev) : Prop extends EvOK P w0 E where
  code : ∀ rd c tm ds h outs, E.code rd c tm ds h = some outs → ∀ (β : Inj) (F : Fence) (a : Act) (w : World) (n : Nat), FRd β rd F → AR β tm.toArray a.tmps → DS β ds a.defers → WR w0 β h w → c.wpIn F n P (QR w0 β outs) a w
  loop : ∀ rd c tm ds h outs, E.code rd (.loop c) tm ds h = some outs → ∀ (β : Inj) (F : Fence) (a : Act) (w : World) (n : Nat), FRd β rd F → AR β tm.toArray a.tmps → DS β ds a.defers → WR w0 β h w → Code.roundsIn F n P c (QR w0 β outs) k a w

theorem roundsIn_mono {F : Fence} {n : Nat} {P : Program} {c : Code} {Q Q' : Exit → Act → World → Prop} (hq : ∀ e a w, Q e a w → Q' e a w) : ∀ {m : Nat} {a : Act} {w : World}, Code.roundsIn F n P c Q m a w → Code.roundsIn F n P c Q' m a w := by
  intro m
  induction m with
  | zero => intro a w h; exact h
  | succ m ih =>
    intro a w h
    refine wpIn_mono h fun e a w he => ?_
    cases e <;> first | exact ih he | exact hq _ _ _ he

/-- A name is let go, whatever its object is turned to. -/
theorem WR.kill {w0 w : World} {β : Inj} {h : AH} (hw : WR w0 β h w) {b : Nat} {o : AObj} {L : Loc} (hb : h.get b = some o) (hL : β b = some L) (O' : Obj) :
    WR w0 β (h.put b .gone) { w with heap := w.heap.setIfInBounds L.blk O' } := by
  obtain ⟨L', O, k1, k2, k3, k4⟩ := hw.obj b o hb
  rw [hL] at k1; cases k1
  have there : ∀ i x, (h.put b .gone).get i = some x → h.get i = some x ∧ b ≠ i := fun i x hx => by
    rw [AH.get_put] at hx
    by_cases e : b = i
    · subst e; simp [AObj.live] at hx
    · exact ⟨by simpa [e] using hx, e⟩
  refine ⟨below_put hw.below k4 O', ?_, ?_, hw.fresh, hw.glob⟩
  · intro i x hi
    obtain ⟨hi, e⟩ := there i x hi
    obtain ⟨M, X, h1, h2, h3, h4⟩ := hw.obj i x hi
    refine ⟨M, X, h1, ?_, h3, h4⟩
    have := hw.inj b i o x L M hb hi hL h1 e
    show (w.heap.setIfInBounds L.blk O')[M.blk]? = _
    rw [Array.getElem?_setIfInBounds_ne this]; exact h2
  · intro b1 b2 o1 o2 L1 L2 g1 g2
    exact hw.inj b1 b2 o1 o2 L1 L2 (there _ _ g1).1 (there _ _ g2).1

theorem run_getLoop {P : Program} {w : World} {l : Nat} {r : Loop} (h : w.heap[l]? = some (.loop r)) : (Instr.getLoop l).run P w = .ok r w := by
  simp [Instr.getLoop, getObj, Sem.run, h, Result.andThen, Sem.run_bind]
theorem run_setLoop {P : Program} {w : World} {l : Nat} {r r' : Loop} (h : w.heap[l]? = some (.loop r)) : (setObj l (.loop r')).run P w = .ok () { w with heap := w.heap.setIfInBounds l (.loop r') } := by
  simp [setObj, Sem.run, h]

section
variable {P : Program} {w0 w : World} {β : Inj} {h : AH} {tm : List Value} {ds : List Nat} {E : Ev} {F : Fence} {n k : Nat} {a : Act}

theorem seq_sound {rd : Option Nat} {y : Code} {outs1 outs : List CO} (hE : CodeOK P w0 k E)
    (hv : bindL (fun o : CO => match o.1 with | .normal => E.code rd y o.2.1 o.2.2.1 o.2.2.2 | _ => some [o]) outs1 = some outs) (hF : FRd β rd F) {e : Exit} {a : Act} {w : World} (h : QR w0 β outs1 e a w) :
    Exit.then (y.wpIn F n P (QR w0 β outs)) (QR w0 β outs) e a w := by
  obtain ⟨x, h1, h2, β', h3, h4, h5, h6⟩ := h
  obtain ⟨o2, h7, h8⟩ := bindL_mem hv x h1
  obtain ⟨xe, xt, xd, xh⟩ := x
  simp only at h2 h4 h5 h6 h7
  subst h2
  have keep : ∀ ee, ee = e → some [(ee, xt, xd, xh)] = some o2 → QR w0 β outs e a w := fun ee he hh => by
    subst he
    cases hh
    exact ⟨(_, xt, xd, xh), h8 _ (List.mem_singleton.2 rfl), rfl, β', h3, h4, h5, h6⟩
  cases e with
  | normal => exact wpIn_mono (hE.code _ _ _ _ _ _ h7 β' F a w n (hF.mono h3) h4 h5 h6) fun e a w hq => hq.sub h3 h8
  | exit id => exact keep _ rfl h7
  | goto l => exact keep _ rfl h7
  | ret => exact keep _ rfl h7
  | panic c => exact keep _ rfl h7
  | outgrown => exact keep _ rfl h7
theorem loop_sound {rd : Option Nat} {y : Code} {outs1 outs : List CO} (hE : CodeOK P w0 k E)
    (hv : bindL (fun o : CO => match o.1 with | .normal => E.code rd (.loop y) o.2.1 o.2.2.1 o.2.2.2 | _ => some [o]) outs1 = some outs) (hF : FRd β rd F) {e : Exit} {a : Act} {w : World} (h : QR w0 β outs1 e a w) :
    Exit.then (Code.roundsIn F n P y (QR w0 β outs) k) (QR w0 β outs) e a w := by
  obtain ⟨x, h1, h2, β', h3, h4, h5, h6⟩ := h
  obtain ⟨o2, h7, h8⟩ := bindL_mem hv x h1
  obtain ⟨xe, xt, xd, xh⟩ := x
  simp only at h2 h4 h5 h6 h7
  subst h2
  have keep : ∀ ee, ee = e → some [(ee, xt, xd, xh)] = some o2 → QR w0 β outs e a w := fun ee he hh => by
    subst he
    cases hh
    exact ⟨(_, xt, xd, xh), h8 _ (List.mem_singleton.2 rfl), rfl, β', h3, h4, h5, h6⟩
  cases e with
  | normal => exact roundsIn_mono (fun e a w hq => QR.sub h3 h8 hq) (hE.loop _ _ _ _ _ _ h7 β' F a w n (hF.mono h3) h4 h5 h6)
  | exit id => exact keep _ rfl h7
  | goto l => exact keep _ rfl h7
  | ret => exact keep _ rfl h7
  | panic c => exact keep _ rfl h7
  | outgrown => exact keep _ rfl h7

theorem stepR_scope {b : Frame} {k : List Item} {cs : List Frame} {c : Code} : step P (lone (b.atR a (.code (.scope c) :: k)) cs w) = .next (lone (b.atR a (.code c :: .inScope c :: k)) cs w) :=
  step_lone_go (by simp [stepG, stepG.exec, Frame.atR])
theorem stepR_inScope {b : Frame} {k : List Item} {cs : List Frame} {c : Code} : step P (lone (b.atR a (.inScope c :: k)) cs w) = .next (lone (b.atR a k) cs w) :=
  step_lone_go (by simp [stepG, stepG.exec, Frame.atR])
def NoGoto (Q : Exit → Act → World → Prop) : Exit → Act → World → Prop
  | .goto _, _, _ => False
  | e, a, w => Q e a w
theorem wpIn_scope {c : Code} {Q : Exit → Act → World → Prop} (h : c.wpIn F n P (NoGoto Q) a w) : (Code.scope c).wpIn F n P Q a w := by
  intro b k cs hro hb hr
  have h0 : (lone (b.atR a (.code (.scope c) :: k)) cs w).fenced P F := fenced_calm hb hr rfl
  obtain ⟨e, a₁, w₁, hq, harr⟩ := h b (.inScope c :: k) cs hro hb hr
  cases e with
  | normal => exact ⟨.normal, a₁, w₁, hq, .head h0 stepR_scope (StepsIn.trans harr (.one (fenced_calm hb hr rfl) stepR_inScope))⟩
  | exit id =>
    have hx : exitTo id (.inScope c :: k) = exitTo id k := by simp [exitTo]
    exact ⟨.exit id, a₁, w₁, hq, fun k' hk => .head h0 stepR_scope (harr.1 k' (by rw [hx]; exact hk)),
      fun hr' hk => let ⟨k₁, h1, h2⟩ := harr.2 hr' (by rw [hx]; exact hk); ⟨k₁, h1, .head h0 stepR_scope h2⟩⟩
  | goto l => exact hq.elim
  | ret => exact ⟨_, a₁, w₁, hq, .of_steps (.one h0 stepR_scope) harr⟩
  | panic ch => exact ⟨_, a₁, w₁, hq, .of_steps (.one h0 stepR_scope) harr⟩
  | outgrown => exact ⟨_, a₁, w₁, hq, .of_steps (.one h0 stepR_scope) harr⟩

theorem bool_of {x : Operand} {b : Bool} (ha : AR β tm.toArray a.tmps) (hv : aeval tm x = some (.bool b)) : a.eval x = .bool b := by
  have := aeval_sound ha hv
  cases hq : a.eval x <;> rw [hq] at this <;> cases this
  rfl

theorem enterL_sound {rd : Option Nat} {ps : Array Tmp} {as bd : Code} {l : Nat} {ds1 : List Nat} {h1 : AH} (hv : enterL rd tm ps as bd ds h = some (l, ds1, h1)) (hF : FRd β rd F) (ha : AR β tm.toArray a.tmps) (hd : DS β ds a.defers) (hw : WR w0 β h w) (fn : FuncId) :
    ∃ (L : Loc) (mark : List Deferred) (w1 : World) (β' : Inj), (Instr.enterLoop fn a.tmps ps as bd F.round).run P w = .ok (L.blk, mark) w1 ∧ Inj.le β β' ∧ β' l = some L ∧ DS β' ds1 (mark ++ a.defers) ∧ WR w0 β' h1 w1 := by
  cases rd with
  | none =>
    simp only [enterL, Option.some.injEq, Prod.mk.injEq] at hv
    obtain ⟨rfl, rfl, rfl⟩ := hv
    have hF : F = Fence.wide := hF
    subst hF
    obtain ⟨q1, q2⟩ := hw.new (o := .deferred) (O := .deferred (some [])) (L := ⟨w.heap.size, 0, 0, 0, 0⟩) rfl .deferred
    obtain ⟨q3, q4⟩ := q1.new (o := .loop .ready none tm ps as bd h.next) (L := ⟨w.heap.size + 1, 0, 0, 0, 0⟩)
      (O := .loop { state := .ready, pending := none, fn := fn, tmps := a.tmps, params := ps, assign := as, body := bd, defers := w.heap.size }) (by show w.heap.size + 1 = (w.heap.push _).size; rw [Array.size_push])
      (.loop .ready none fn tm a.tmps ps as bd h.next ⟨w.heap.size, 0, 0, 0, 0⟩ (by
        have : (h.new .deferred).next = h.next + 1 := rfl
        rw [this]
        simp [Inj.add]) (ha.mono (q2.trans (Inj.add_le (by
          have : (h.new .deferred).next = h.next + 1 := rfl
          exact q1.fresh _ (Nat.le_refl _))))))
    refine ⟨⟨w.heap.size + 1, 0, 0, 0, 0⟩, [{ target := .collected w.heap.size, args := #[] }], _, _, ?_, q2.trans q4, ?_, ?_, q3⟩
    · simp [Instr.enterLoop, Fence.wide, Result.andThen]
      rfl
    · have : (h.new .deferred).next = h.next + 1 := rfl
      rw [this]
      exact Inj.add_at
    · exact ⟨⟨_, q4 _ _ Inj.add_at, rfl⟩, hd.mono (q2.trans q4)⟩
  | some l0 =>
    simp only [enterL] at hv
    split at hv
    · rename_i st pe tml ps' as' bd' df hl0
      simp only [Option.some.injEq, Prod.mk.injEq] at hv
      obtain ⟨rfl, rfl, rfl⟩ := hv
      obtain ⟨L0, hL0, rfl⟩ := hF
      obtain ⟨L, O, k1, k2, k3, k4⟩ := hw.obj l0 _ hl0
      rw [hL0] at k1; cases k1
      cases k3 with
      | loop st pe fn' tml T ps' as' bd' df D hdf ht =>
        have hfr := Inj.add_le (b := h.next) (L := ⟨w.heap.size, 0, 0, 0, 0⟩) (hw.fresh _ (Nat.le_refl _))
        obtain ⟨q3, q4⟩ := hw.new (o := .loop .ready none tm ps as bd df) (L := ⟨w.heap.size, 0, 0, 0, 0⟩)
          (O := .loop { state := .ready, pending := none, fn := fn, tmps := a.tmps, params := ps, assign := as, body := bd, defers := D.blk }) rfl
          (.loop .ready none fn tm a.tmps ps as bd df D (hfr _ _ hdf) (ha.mono hfr))
        refine ⟨⟨w.heap.size, 0, 0, 0, 0⟩, [], _, _, ?_, q4, Inj.add_at, hd.mono q4, q3⟩
        simp [Instr.enterLoop, Fence.inRound, Result.andThen, Sem.run_bind, run_getLoop k2]
    · cases hv

theorem rfEnd_sound {rd : Option Nat} {l : Nat} {L : Loc} {o : Value × AH} {outs : List CO} (hE : CodeOK P w0 k E) (hv : rfEnd E rd l tm ds o = some outs) (hL : β l = some L) (hF : FRd β rd F) (ha : AR β tm.toArray a.tmps) (hd : DS β ds a.defers) (hw : WR w0 β o.2 w) (v : Value) :
    rangePost F n P L.blk (QR w0 β outs) a (.returned v) w := by
  unfold rfEnd at hv
  split at hv
  · rename_i st pe tml ps as bd df hl
    obtain ⟨L', O, k1, k2, k3, k4⟩ := hw.obj l _ hl
    rw [hL] at k1; cases k1
    cases k3 with
    | loop st pe fn' tml T ps' as' bd' df D hdf ht =>
      split at hv
      · cases hv
      · rename_i hst
        refine ⟨pe, { w with heap := w.heap.setIfInBounds L.blk (.loop { state := .exhausted, pending := pe, fn := fn', tmps := T, params := ps, assign := as, body := bd, defers := D.blk }) }, ?_, ?_⟩
        · have hst' : (st == LoopState.busy) = false := by
            cases st <;> first | rfl | exact absurd rfl hst
          simp only [Instr.endLoop, Sem.run_bind, run_getLoop k2, Result.andThen, hst', run_setLoop k2, Bool.false_eq_true, if_false, Sem.run_pure]
        · have hk := hw.kill hl hL (.loop { state := .exhausted, pending := pe, fn := fn', tmps := T, params := ps, assign := as, body := bd, defers := D.blk })
          cases pe with
          | none =>
            simp only [Option.some.injEq] at hv
            subst hv
            exact ⟨_, List.mem_singleton.2 rfl, rfl, β, Inj.le.refl _, ha, hd, hk⟩
          | some c => exact hE.code _ _ _ _ _ _ hv β F a _ n hF ha hd hk
  · cases hv

theorem acodeS_sound (hN : ∀ (f : FuncId) (fn : Func), P.funcs[f]? = some fn → (fn.name == "runtime.NumGoroutine") = false) (hE : CodeOK P w0 k E) {rd : Option Nat} {c : Code} {outs : List CO} (hv : acodeS P E rd c tm ds h = some outs)
    (hF : FRd β rd F) (ha : AR β tm.toArray a.tmps) (hd : DS β ds a.defers) (hw : WR w0 β h w) : c.wpIn F n P (QR w0 β outs) a w := by
  unfold acodeS at hv
  split at hv
  · cases hv; exact wpIn_skip ⟨_, List.mem_singleton.2 rfl, rfl, β, Inj.le.refl _, ha, hd, hw⟩
  · cases hv; exact wpIn_label ⟨_, List.mem_singleton.2 rfl, rfl, β, Inj.le.refl _, ha, hd, hw⟩
  · split at hv
    · rename_i hm
      split at hv
      · rename_i o1 h1
        cases hv
        refine wpIn_region_any hm ?_
        refine aanyM_sound hN hE.toEvOK hF.wide h1 ha hw.drew fun x hx β' a' w' q1 q2 q3 q4 => ?_
        exact ⟨_, List.mem_map.2 ⟨x, hx, rfl⟩, rfl, β', q1, q2, by rw [q3]; exact hd.mono q1, q4⟩
      · cases hv
    · cases hv
  · split at hv
    · rename_i o1 h1
      cases hv
      refine wpIn_region (aseq_sound hN hE.toEvOK hF.wide _ _ _ _ h1 β a w ha hw fun x hx β' a' w' q1 q2 q3 q4 => ?_)
      exact ⟨_, List.mem_map.2 ⟨x, hx, rfl⟩, rfl, β', q1, q2, by rw [q3]; exact hd.mono q1, q4⟩
    · cases hv
  · split at hv
    · rename_i o1 h1
      exact wpIn_seq (wpIn_mono (hE.code _ _ _ _ _ _ h1 β F a w n hF ha hd hw) fun e a w hq => seq_sound hE hv hF hq)
    · cases hv
  · split at hv
    · rename_i hc
      exact wpIn_cond_true (bool_of ha hc) (hE.code _ _ _ _ _ _ hv β F a w n hF ha hd hw)
    · rename_i hc
      exact wpIn_cond_false (bool_of ha hc) (hE.code _ _ _ _ _ _ hv β F a w n hF ha hd hw)
    · cases hv
  · rename_i id x
    split at hv
    · rename_i o1 h1
      cases hv
      refine wpIn_block (wpIn_mono (hE.code _ _ _ _ _ _ h1 β F a w n hF ha hd hw) fun e a w hq => ?_)
      obtain ⟨x, q1, q2, β', q3, q4, q5, q6⟩ := hq
      have hm := List.mem_map.2 ⟨x, q1, (rfl : inBlk id x = _)⟩
      obtain ⟨xe, xt, xd, xh⟩ := x
      simp only at q2 q4 q5 q6
      subst q2
      cases e with
      | exit i =>
        simp only [Exit.inBlock]
        simp only [inBlk] at hm
        split
        · rename_i hi
          simp only [hi, if_true] at hm
          exact ⟨_, hm, rfl, β', q3, q4, q5, q6⟩
        · rename_i hi
          simp only [hi, if_false] at hm
          exact ⟨_, hm, rfl, β', q3, q4, q5, q6⟩
      | normal => exact ⟨_, hm, rfl, β', q3, q4, q5, q6⟩
      | goto l => exact ⟨_, hm, rfl, β', q3, q4, q5, q6⟩
      | ret => exact ⟨_, hm, rfl, β', q3, q4, q5, q6⟩
      | panic c => exact ⟨_, hm, rfl, β', q3, q4, q5, q6⟩
      | outgrown => exact ⟨_, hm, rfl, β', q3, q4, q5, q6⟩
    · cases hv
  · split at hv
    · rename_i o1 h1
      refine wpIn_loop_rounds (k + 1) ?_
      rw [roundsIn_succ]
      exact wpIn_mono (hE.code _ _ _ _ _ _ h1 β F a w n hF ha hd hw) fun e a w hq => loop_sound hE hv hF hq
    · cases hv
  · split at hv
    · rename_i o1 h1
      split at hv
      · rename_i hall
        cases hv
        refine wpIn_scope (wpIn_mono (hE.code _ _ _ _ _ _ h1 β F a w n hF ha hd hw) fun e a w hq => ?_)
        cases e with
        | goto l =>
          obtain ⟨x, q1, q2, _⟩ := hq
          have := List.all_eq_true.1 hall x q1
          unfold noGoto at this
          rw [← q2] at this
          cases this
        | normal => exact hq
        | exit i => exact hq
        | ret => exact hq
        | panic c => exact hq
        | outgrown => exact hq
      · cases hv
    · cases hv
  · cases hv; exact wpIn_exit ⟨_, List.mem_singleton.2 rfl, rfl, β, Inj.le.refl _, ha, hd, hw⟩
  · cases hv; exact wpIn_ret ⟨_, List.mem_singleton.2 rfl, rfl, β, Inj.le.refl _, ha, hd, hw⟩
  · rename_i f ps as bd
    split at hv
    · rename_i g first cap hf
      split at hv
      · rename_i fn hfn
        split at hv
        · rename_i hbody
          split at hv
          · rename_i l ds1 h1 hent
            split at hv
            · rename_i o1 hcall
              refine wpIn_rangeFunc fun fid _ => ?_
              obtain ⟨L, mark, w1, β1, r1, r2, r3, r4, r5⟩ := enterL_sound (P := P) (F := F) (a := a) hent hF ha hd hw fid
              have hfr := aeval_sound ha hf
              obtain ⟨u, hu⟩ : ∃ u, a.eval f = u := ⟨_, rfl⟩
              rw [hu] at hfr
              cases hfr with
              | func f0 f' x x' y y' hfn' p1 p2 p3 p4 =>
                cases hfn' with
                | func f0 =>
                  have hname := hN g fn hfn
                  have hname' : ¬ fn.name = "runtime.NumGoroutine" := by simpa using hname
                  have hb : ¬ fn.body = none := by intro hq; rw [hq] at hbody; cases hbody
                  have hev : a.eval (.const (.func (.yield L.blk) #[] #[])) = .func (.yield L.blk) #[] #[] := rfl
                  refine ⟨L.blk, mark, w1, { target := .fn (.func g) y', args := x' ++ #[.func (.yield L.blk) #[] #[]] }, w1, g, x' ++ #[.func (.yield L.blk) #[] #[]] ++ y', w1, r1, ?_, fun f' _ => hF.wide.fn f', ?_, hF.wide.depth n, ?_⟩
                  · simp [resolve, rangeCall, hu, hev, Deferred.ofValue]
                  · simp [invoke, callFunc, Result.andThen, hfn, hname', hb]
                  · have hargs : AR β1 (first.toList ++ [Value.func (.yield l) #[] #[]] ++ cap.toList).toArray (x' ++ #[Value.func (.yield L.blk) #[] #[]] ++ y') := by
                      have e : (first.toList ++ [Value.func (.yield l) #[] #[]] ++ cap.toList).toArray = first ++ #[Value.func (.yield l) #[] #[]] ++ cap := by apply Array.ext'; simp
                      rw [e]
                      refine AR.append (AR.append (AR.mono r2 ⟨p1, p3⟩) ⟨rfl, fun i hi => ?_⟩) (AR.mono r2 ⟨p2, p4⟩)
                      have : i = 0 := by simp at hi; omega
                      subst this
                      exact VR.func _ _ _ _ _ _ (.yield l L r3) rfl rfl (fun i hi => absurd hi (Nat.not_lt_zero _)) (fun i hi => absurd hi (Nat.not_lt_zero _))
                    refine (hF.wide.calls (hE.call g _ h1 o1 hcall β1 w1 _ r5 hargs (n - 1))).mono ?_
                    rintro e w' ⟨v', rfl, x, s1, β2, s2, s3, s4⟩
                    obtain ⟨o2, t1, t2⟩ := bindL_mem hv x s1
                    have := rfEnd_sound (n := n) (F := F) (a := { a with defers := mark ++ a.defers }) hE t1 (s2 _ _ r3) ((hF.mono r2).mono s2) ((ha.mono r2).mono s2) (r4.mono s2) s4 v'
                    obtain ⟨jump, w4, u1, u2⟩ := this
                    refine ⟨jump, w4, u1, ?_⟩
                    cases jump with
                    | none => exact QR.sub (r2.trans s2) t2 u2
                    | some c => exact wpIn_mono u2 fun e a w hq => QR.sub (r2.trans s2) t2 hq
            · cases hv
          · cases hv
        · cases hv
      · cases hv
    · cases hv
  · cases hv
end
end
end Go.AE

/- A round, a call: the evaluator's answers hold, at every level. -/
namespace Go.AE
noncomputable section
open Go.RowKit

section
variable {P : Program} {w0 w : World} {β : Inj} {h : AH} {tm : List Value} {ds : List Nat} {E : Ev} {F : Fence} {n k : Nat} {a : Act}

theorem RetP.sub {β' : Inj} {o1 o2 : List (Value × AH)} (hb : Inj.le β β') (hs : ∀ x ∈ o1, x ∈ o2) {e : Ending} {w : World} (h : RetP w0 β' o1 e w) : RetP w0 β o2 e w := by
  obtain ⟨v, h1, x, h2, β2, h3, h4⟩ := h
  exact ⟨v, h1, x, hs x h2, β2, hb.trans h3, h4⟩

theorem roundEnd_sound {l : Nat} {L : Loc} {o : CO} {outs : List (Value × AH)} (hv : roundEnd l o = some outs) (hL : β l = some L) (hw : WR w0 β o.2.2.2 w) : roundPost P L.blk (RetP w0 β outs) o.1 a w := by
  unfold roundEnd at hv
  split at hv
  · rename_i st pe tml ps as bd df hl
    obtain ⟨L', O, k1, k2, k3, k4⟩ := hw.obj l _ hl
    rw [hL] at k1; cases k1
    cases k3 with
    | loop st pe fn' tml T ps as bd df D hdf ht =>
      have done : ∀ (jump : Option Code) (st' : LoopState), st' = (if jump.isNone then .ready else .done) → some [(Value.bool jump.isNone, o.2.2.2.put l (.loop st' jump tml ps as bd df))] = some outs →
          ∃ v w', (Instr.endRound L.blk jump).run P w = .ok v w' ∧ RetP w0 β outs (.returned v) w' := by
        intro jump st' hst ho
        cases ho
        refine ⟨.bool jump.isNone, { w with heap := w.heap.setIfInBounds L.blk (.loop { state := st', pending := jump, fn := fn', tmps := T, params := ps, assign := as, body := bd, defers := D.blk }) }, ?_, ?_⟩
        · subst hst
          simp only [Instr.endRound, Sem.run_bind, run_getLoop k2, Result.andThen, run_setLoop k2, Sem.run_pure]
        · exact ⟨_, rfl, _, List.mem_singleton.2 rfl, β, Inj.le.refl _, .bool _, hw.put hl hL (.loop st' jump fn' tml T ps as bd df D hdf ht)⟩
      obtain ⟨oe, ot, od, oh⟩ := o
      simp only at hv ⊢
      split at hv
      · exact done none .ready rfl hv
      · exact done (some .ret) .done rfl hv
      · rename_i id
        exact done (some (.exit id)) .done rfl hv
      · cases hv
  · cases hv

theorem aroundS_sound (hE : CodeOK P w0 k E) {l : Nat} {as bd : Code} {outs : List (Value × AH)} (hv : aroundS E l tm as bd h = some outs) {L : Loc} {f : FuncId} {T : Array Value} (hL : β l = some L) (hw : WR w0 β h w) (ht : AR β tm.toArray T) :
    RoundIn Fence.wide n P L.blk f T as bd w (RetP w0 β outs) := by
  unfold aroundS at hv
  split at hv
  · rename_i o1 h1
    refine roundIn_of_wpIn (F := Fence.wide) trivial ?_
    refine wpIn_mono (hE.code _ _ _ _ _ _ h1 β (Fence.wide.inRound L.blk) { tmps := T, defers := [] } w n ⟨L, hL, rfl⟩ ht trivial hw) fun e a1 w1 hq => ?_
    obtain ⟨x, q1, q2, β1, q3, q4, q5, q6⟩ := hq
    obtain ⟨o2, q7, q8⟩ := bindL_mem hv x q1
    unfold roundMid at q7
    obtain ⟨xe, xt, xd, xh⟩ := x
    simp only at q2 q4 q5 q6 q7
    subst q2
    split at q7
    · split at q7
      · rename_i pe tml ps as' bd' df hl
        split at q7
        · rename_i o3 h3
          obtain ⟨L', O, k1, k2, k3, k4⟩ := q6.obj l _ hl
          rw [q3 _ _ hL] at k1; cases k1
          cases k3 with
          | loop st pe fn' tml T' ps' as'' bd'' df D hdf ht' =>
            refine ⟨{ w1 with heap := w1.heap.setIfInBounds L.blk (.loop { state := .busy, pending := pe, fn := fn', tmps := T', params := ps, assign := as', body := bd', defers := D.blk }) }, ?_, ?_⟩
            · simp only [Instr.beginRound, Sem.run_bind, run_getLoop k2, Result.andThen, run_setLoop k2, Sem.run_pure]
            · have hp := q6.put hl (q3 _ _ hL) (.loop .busy pe fn' tml T' ps as' bd' df D hdf ht')
              refine wpIn_mono (hE.code _ _ _ _ _ _ h3 β1 (Fence.wide.inRound L.blk) a1 _ n ⟨L, q3 _ _ hL, rfl⟩ q4 q5 hp) fun e a2 w2 hq => ?_
              obtain ⟨y, r1, r2, β2, r3, r4, r5, r6⟩ := hq
              obtain ⟨o4, r7, r8⟩ := bindL_mem q7 y r1
              have := roundEnd_sound (P := P) (a := a2) r7 (r3 _ _ (q3 _ _ hL)) r6
              rw [r2]
              have sub : ∀ e w, RetP w0 β2 o4 e w → RetP w0 β outs e w := fun e w hh => RetP.sub (q3.trans r3) (fun z hz => q8 z (r8 z hz)) hh
              obtain ⟨ye, yt, yd, yh⟩ := y
              cases ye with
              | normal => obtain ⟨v, w', s1, s2⟩ := this; exact ⟨v, w', s1, sub _ _ s2⟩
              | ret => obtain ⟨v, w', s1, s2⟩ := this; exact ⟨v, w', s1, sub _ _ s2⟩
              | exit id => obtain ⟨v, w', s1, s2⟩ := this; exact ⟨v, w', s1, sub _ _ s2⟩
              | goto t => obtain ⟨v, w', s1, s2⟩ := this; exact ⟨v, w', s1, sub _ _ s2⟩
              | panic c => exact this
              | outgrown => exact this
        · cases q7
      · cases q7
    · cases q7
  · cases hv

theorem aclose_sound {fn : Func} {tmps : Array Value} {R : Ending → World → Prop} : ∀ (ds : List Nat) (Ds : List Deferred) (h h' : AH) (w : World), aclose ds h = some h' → DS β ds Ds → WR w0 β h w →
    (∀ w', WR w0 β h' w' → ∃ v, (results fn tmps).run P w' = .ok v w' ∧ R (.returned v) w') → LeavesInM F n P fn tmps R Ds .returning w := by
  intro ds
  induction ds with
  | nil =>
    intro Ds h h' w hv hd hw hR
    cases Ds with
    | nil => cases hv; exact hR w hw
    | cons D Ds => exact hd.elim
  | cons d ds ih =>
    intro Ds h h' w hv hd hw hR
    cases Ds with
    | nil => exact hd.elim
    | cons D Ds =>
      simp only [aclose] at hv
      split at hv
      · rename_i hg
        obtain ⟨⟨L, hL, rfl⟩, hd⟩ := hd
        obtain ⟨L', O, k1, k2, k3, k4⟩ := hw.obj d _ hg
        rw [hL] at k1; cases k1
        cases k3
        refine ⟨(fun hh => by cases hh), Or.inl ⟨L.blk, { w with heap := w.heap.setIfInBounds L.blk (.deferred none) }, rfl, ?_, ?_⟩⟩
        · simp [Instr.takeDeferred, getObj, setObj, Sem.run, k2, Result.andThen, Sem.run_bind]
        · exact ih Ds _ h' _ hv hd (hw.kill hg hL _) hR
      · cases hv

def resOne (T : Array Value) : ResultVar → Sem Value
  | .tmp t => pure (T.getD t undef)
  | .cell a t => do loadVar t (← asAddr (T.getD a undef))
theorem aresults_sound (hw : WR w0 β h w) {T : Array Value} (ha : AR β tm.toArray T) : ∀ (rs : List ResultVar) (l : List Value), aresults P h tm rs = some l →
    ∃ l' : List Value, (rs.mapM (resOne T)).run P w = Result.ok l' w ∧ AR β l.toArray l'.toArray := by
  intro rs
  induction rs with
  | nil => intro l hv; cases hv; exact ⟨[], by simp, rfl, fun i hi => absurd hi (Nat.not_lt_zero _)⟩
  | cons x r ih =>
    intro l hv
    simp only [aresults] at hv
    split at hv
    · rename_i v l1 h1 h2
      cases hv
      obtain ⟨l2, p1, p2⟩ := ih l1 h2
      have hx : ∃ v', (resOne T x).run P w = .ok v' w ∧ VR β v v' := by
        cases x with
        | tmp t =>
          simp only [aresult, Option.some.injEq] at h1
          subst h1
          have := ha.at t
          rw [toArray_getD] at this
          exact ⟨_, rfl, this⟩
        | cell a t =>
          simp only [aresult] at h1
          have hr := ha.at a
          rw [toArray_getD] at hr
          obtain ⟨v', q1, q2⟩ := aload_sound hw hr h1
          refine ⟨v', ?_, q2⟩
          simp only [Instr.loadAt, Sem.run_bind] at q1
          simp only [resOne, Sem.run_bind]
          have : (asAddr (T.getD a undef)).run P w = (Instr.sureAddr (T.getD a undef)).run P w := by
            cases hq : T.getD a undef with
            | pointer p =>
              cases p with
              | some p => rfl
              | none => rw [hq] at q1; simp [Instr.sureAddr, Result.andThen] at q1
            | _ => rw [hq] at q1; simp [Instr.sureAddr, Result.andThen] at q1
          rw [this]
          exact q1
      obtain ⟨v', q1, q2⟩ := hx
      refine ⟨v' :: l2, ?_, ?_⟩
      · rw [List.mapM_cons]
        simp only [Sem.run_bind, q1, p1, Result.andThen, Sem.run_pure]
      · have := AR.append (x := #[v]) (x' := #[v']) (y := l1.toArray) (y' := l2.toArray) (β := β) ⟨rfl, fun i hi => by
          have : i = 0 := by simp at hi; omega
          subst this
          exact q2⟩ p2
        simpa using this
    · cases hv

theorem packed_sound {l l' : List Value} (hl : AR β l.toArray l'.toArray) : VR β (packed l) (if h : l'.toArray.size = 1 then l'.toArray[0] else .tuple l'.toArray) := by
  have hlen : l.length = l'.length := by simpa using hl.1
  cases l with
  | nil =>
    cases l' with
    | nil => exact .tuple _ _ rfl (fun i hi => absurd hi (Nat.not_lt_zero _))
    | cons _ _ => simp at hlen
  | cons x r =>
    cases l' with
    | nil => simp at hlen
    | cons x' r' =>
      cases r with
      | nil =>
        cases r' with
        | nil => exact hl.2 0 (by simp)
        | cons _ _ => simp at hlen
      | cons y r =>
        cases r' with
        | nil => simp at hlen
        | cons y' r' => exact .tuple _ _ hl.1 hl.2

theorem zipAll_eq {α : Type} {f : α → α → Bool} (hf : ∀ x y, f x y = true → x = y) : ∀ {l m : List α}, zipAll f l m = true → l = m := by
  intro l
  induction l with
  | nil => intro m h; cases m with
    | nil => rfl
    | cons _ _ => cases h
  | cons x r ih => intro m h; cases m with
    | nil => cases h
    | cons y s =>
      simp only [zipAll, Bool.and_eq_true] at h
      rw [hf _ _ h.1, ih h.2]
theorem entEq_eq (e f : Ent) (h : entEq e f = true) : e = f := by
  obtain ⟨k, v, b⟩ := e
  obtain ⟨k', v', b'⟩ := f
  simp only [entEq, Bool.and_eq_true] at h
  rw [veq_eq 8 _ _ h.1.1, veq_eq 8 _ _ h.1.2, Nat.eq_of_beq_eq_true h.2]
theorem aobjEq_eq (x y : AObj) (h : aobjEq x y = true) : x = y := by
  unfold aobjEq at h
  split at h
  · simp only [Bool.and_eq_true, beq_iff_eq] at h
    rw [zipAll_eq (veq_eq 8) h.1.1, Nat.eq_of_beq_eq_true h.1.2, h.2]
  · simp only [Bool.and_eq_true] at h
    rw [zipAll_eq entEq_eq h.1, Nat.eq_of_beq_eq_true h.2]
  · rfl
  · rfl
  · cases h
theorem trieEq_eq : ∀ (x y : Trie AObj), trieEq x y = true → x = y := by
  intro x
  induction x with
  | nil => intro y h; cases y with
    | nil => rfl
    | node _ _ _ => cases h
  | node v l r ihl ihr => intro y h; cases y with
    | nil => cases h
    | node v' l' r' =>
      simp only [trieEq, Bool.and_eq_true] at h
      rw [ihl _ h.1.2, ihr _ h.2, zipAll_eq (fun (p q : Nat × AObj) hpq => by
        obtain ⟨i, a⟩ := p
        obtain ⟨j, b⟩ := q
        simp only [Bool.and_eq_true] at hpq
        rw [Nat.eq_of_beq_eq_true hpq.1, aobjEq_eq _ _ hpq.2]) h.1.1]
theorem glEq_eq (x y : Nat × List Value) (h : glEq x y = true) : x = y := by
  obtain ⟨i, a⟩ := x
  obtain ⟨j, b⟩ := y
  simp only [glEq, Bool.and_eq_true] at h
  rw [Nat.eq_of_beq_eq_true h.1, zipAll_eq (veq_eq 8) h.2]
theorem outEq_eq (x y : Value × AH) (h : outEq x y = true) : x = y := by
  obtain ⟨v, t, n, g⟩ := x
  obtain ⟨v', t', n', g'⟩ := y
  simp only [outEq, Bool.and_eq_true] at h
  rw [zipAll_eq glEq_eq h.1.1.1, Nat.eq_of_beq_eq_true h.1.1.2, veq_eq 8 _ _ h.1.2, trieEq_eq _ _ h.2]
theorem sweep_sound {s : Trie Bool} : ∀ (l : List Nat) (h : AH), WR w0 β h w → WR w0 β (sweep s l h) w := by
  intro l
  induction l with
  | nil => intro h hw; exact hw
  | cons b r ih =>
    intro h hw
    simp only [sweep]
    split
    · exact ih h hw
    · split
      · rename_i hlt; exact ih _ (hw.drop b hlt)
      · exact ih h hw
theorem addOut_mem (l : List (Value × AH)) (x : Value × AH) : x ∈ addOut l x ∧ ∀ y ∈ l, y ∈ addOut l x := by
  induction l with
  | nil => exact ⟨by simp [addOut], fun y hy => by cases hy⟩
  | cons z r ih =>
    simp only [addOut]
    split
    · rename_i h
      rw [outEq_eq _ _ h]
      exact ⟨by simp, fun y hy => hy⟩
    · refine ⟨List.mem_cons_of_mem _ ih.1, fun y hy => ?_⟩
      rcases List.mem_cons.1 hy with rfl | hy
      · simp
      · exact List.mem_cons_of_mem _ (ih.2 y hy)
theorem foldl_addOut_mem : ∀ (l acc : List (Value × AH)), (∀ y ∈ acc, y ∈ l.foldl addOut acc) ∧ ∀ y ∈ l, y ∈ l.foldl addOut acc := by
  intro l
  induction l with
  | nil => intro acc; exact ⟨fun y hy => hy, fun y hy => by cases hy⟩
  | cons x r ih =>
    intro acc
    obtain ⟨h1, h2⟩ := ih (addOut acc x)
    obtain ⟨h3, h4⟩ := addOut_mem acc x
    refine ⟨fun y hy => h1 y (h4 y hy), fun y hy => ?_⟩
    rcases List.mem_cons.1 hy with rfl | hy
    · exact h1 _ h3
    · exact h2 y hy
theorem RetP.merge {N : Nat} {os : List (Value × AH)} {e : Ending} (h : RetP w0 β os e w) : RetP w0 β (merged N os) e w := by
  obtain ⟨v, h1, x, h2, β2, h3, h4, h5⟩ := h
  unfold merged
  split
  · cases h2
  · exact ⟨v, h1, x, h2, β2, h3, h4, h5⟩
  · exact ⟨v, h1, tidy N x, (foldl_addOut_mem _ _).2 _ (List.mem_map.2 ⟨x, h2, rfl⟩), β2, h3, h4, sweep_sound _ _ h5⟩

theorem acallS_sound (hE : CodeOK P w0 k E) {f : FuncId} {args : List Value} {outs : List (Value × AH)} (hv : acallS P E f args h = some outs) {args' : Array Value} (hw : WR w0 β h w) (ha : AR β args.toArray args') :
    CallsIn Fence.wide n P f args' w (RetP w0 β outs) := by
  unfold acallS at hv
  split at hv
  · rename_i fn hfn
    split at hv
    · rename_i c hb
      split at hv
      · rename_i o1 h1
        split at hv
        case h_2 => cases hv
        rename_i outs0 hv0
        cases hv
        refine CallsIn.mono (R := RetP w0 β outs0) ?_ (fun e w' hh => hh.merge)
        have hv := hv0
        generalize outs0 = outs at hv
        refine callsIn_of_wp_marks hfn hb trivial ?_
        have hsz : args.length = args'.size := by simpa using ha.1
        have h2 : AR β (args ++ List.replicate (fn.ntmps - args.length) undef).toArray (args' ++ Array.replicate (fn.ntmps - args'.size) undef) := by
          have e : (args ++ List.replicate (fn.ntmps - args.length) undef).toArray = args.toArray ++ Array.replicate (fn.ntmps - args'.size) undef := by
            apply Array.ext'; simp [hsz]
          rw [e]
          exact AR.append ha ⟨rfl, fun i hi => by
            have : (Array.replicate (fn.ntmps - args'.size) undef).getD i undef = undef := by simp at hi; simp [hi]
            rw [this]; exact VR.undef _⟩
        refine wpIn_mono (hE.code _ _ _ _ _ _ h1 β Fence.wide _ w n rfl h2 trivial hw) fun e a w1 hq => ?_
        obtain ⟨x, q1, q2, β1, q3, q4, q5, q6⟩ := hq
        obtain ⟨o2, q7, q8⟩ := bindL_mem hv x q1
        have key : ∀ o2', aleaveIn P fn x.2.1 x.2.2.1 x.2.2.2 = some o2' → (∀ y ∈ o2', y ∈ outs) → LeavesInM Fence.wide n P fn a.tmps (RetP w0 β outs) a.defers .returning w1 := by
          intro o2' hh hsub
          unfold aleaveIn at hh
          split at hh
          · rename_i h' hc
            split at hh
            · rename_i l hr
              cases hh
              refine aclose_sound _ _ _ h' _ hc q5 q6 fun w' hw' => ?_
              obtain ⟨l', r1, r2⟩ := aresults_sound hw' q4 _ _ hr
              refine ⟨if h : l'.toArray.size = 1 then l'.toArray[0] else .tuple l'.toArray, ?_, ?_⟩
              · have e : results fn a.tmps = (do let vs ← fn.results.mapM (resOne a.tmps); pure (if h : vs.size = 1 then vs[0] else .tuple vs)) := rfl
                rw [e, Array.mapM_eq_mapM_toList]
                simp only [Sem.run_bind, Sem.run_map, r1, Result.andThen, Sem.run_pure]
              · exact ⟨_, rfl, _, hsub _ (List.mem_singleton.2 rfl), β1, q3, packed_sound r2, hw'⟩
            · cases hh
          · cases hh
        unfold aleave at q7
        rw [q2]
        obtain ⟨xe, xt, xd, xh⟩ := x
        cases xe with
        | normal => exact key o2 q7 q8
        | ret => exact key o2 q7 q8
        | _ => cases q7
      · cases hv
    · cases hv
  · cases hv

theorem ev_sound (hN : ∀ (f : FuncId) (fn : Func), P.funcs[f]? = some fn → (fn.name == "runtime.NumGoroutine") = false) (w0 : World) : ∀ k, CodeOK P w0 k (ev P k) := by
  intro k
  induction k with
  | zero =>
    refine ⟨⟨?_, ?_⟩, ?_, ?_⟩
    · intro f args h outs hv; cases hv
    · intro l tm as bd h outs hv; cases hv
    · intro rd c tm ds h outs hv; cases hv
    · intro rd c tm ds h outs hv; cases hv
  | succ k ih =>
    refine ⟨⟨?_, ?_⟩, ?_, ?_⟩
    · intro f args h outs hv β w args' hw ha n
      exact acallS_sound ih hv hw ha
    · intro l tm as bd h outs hv β w L f T hL hw ht n
      exact aroundS_sound ih hv hL hw ht
    · intro rd c tm ds h outs hv β F a w n hF ha hd hw
      exact acodeS_sound hN ih hv hF ha hd hw
    · intro rd c tm ds h outs hv β F a w n hF ha hd hw
      have hv : acodeS P (ev P k) rd (.loop c) tm ds h = some outs := hv
      unfold acodeS at hv
      simp only at hv
      split at hv
      · rename_i o1 h1
        rw [roundsIn_succ]
        exact wpIn_mono (ih.code _ _ _ _ _ _ h1 β F a w n hF ha hd hw) fun e a w hq => loop_sound ih hv hF hq
      · cases hv

/-- Every answer is this value. -/
def allAre (v : Value) : Option (List (Value × AH)) → Bool
  | none => false
  | some l => l.all fun x => veq 8 x.1 v

/-- **A closed call that the evaluator answers with one value, the tables gl known.** -/
theorem calls_of_ev (hN : ∀ (f : FuncId) (fn : Func), P.funcs[f]? = some fn → (fn.name == "runtime.NumGoroutine") = false) (k : Nat) (f : FuncId) (gl : List (Nat × List Value)) {v : Value} (hv : allAre v ((ev P k).call f [] (.start gl)) = true) (hg : ground 8 v = true) (w : World) (hw : GL w gl) :
    Calls P f #[] w fun e w' => e = .returned v ∧ Below w.heap.size w w' := by
  cases hq : (ev P k).call f [] (.start gl) with
  | none => rw [hq] at hv; cases hv
  | some outs =>
    rw [hq] at hv
    have hall := List.all_eq_true.1 hv
    have := (ev_sound hN w k).call f [] (.start gl) outs hq (fun _ => none) w #[] (WR.start hw) ⟨rfl, fun i hi => absurd hi (Nat.not_lt_zero i)⟩ 0
    refine callsIn_wide.1 (this.mono ?_)
    rintro e w' ⟨v', rfl, x, h1, β', h2, h3, h4⟩
    have h5 := veq_eq 8 _ _ (hall x h1)
    rw [h5] at h3
    exact ⟨by rw [h3.ground 8 hg], h4.below⟩
theorem GL.nil (w : World) : GL w [] := fun g c h => by simp [assoc_nil] at h
/-- Tables of plain data. -/
theorem GL.of_ground {w : World} {gl : List (Nat × List Value)} (h : ∀ g c, assoc gl g = some c → c.all (ground 8) = true ∧ ∃ C e fr, w.heap[g]? = some (.cells C e fr) ∧ C.toList = c) : GL w gl := fun g c hc => by
  obtain ⟨h1, C, e, fr, h2, rfl⟩ := h g c hc
  refine ⟨C, e, fr, h2, by simp, fun i hi _ β => ?_⟩
  have := List.all_eq_true.1 h1 (C.toList.getD i undef) (by rw [List.getD_eq_getElem?_getD, List.getElem?_eq_getElem hi]; exact List.getElem_mem hi)
  have e1 : C.toList.getD i undef = C.getD i undef := by rw [← toArray_getD]
  rw [← e1]; exact refl_ground β 8 _ this
end
end
end Go.AE
