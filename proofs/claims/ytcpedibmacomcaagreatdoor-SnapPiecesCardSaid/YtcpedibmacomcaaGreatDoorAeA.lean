/- A part of the proof of SnapPieces. Conditions: those of the card. -/
import Derived.CallsIn
import Derived.RangeFuncLeaves
import Derived.LoopNIn
import Derived.Below
import Derived.OrdersIn
import Derived.KernelRfl
import Derived.Laws.Sem
import Derived.Laws.Entries
import Derived.Laws.Slices
import Derived.Laws.Strings
import Derived.Laws.BytesString
import Derived.Laws.IdiomStrings
import Derived.Laws.Append
import Derived.IntWalk

/- Abstract worlds: a heap of named rows, maps and records; how a concrete world holds it. -/
namespace Go.AE
noncomputable section

/-- A finite map keyed by numbers: by bits, then by a list. -/
inductive Trie (α : Type) where
  | nil
  | node (v : List (Nat × α)) (l r : Trie α)

theorem beq_cond {α : Type} (a b : Nat) (x y : α) : cond (Nat.beq a b) x y = if a = b then x else y := by
  by_cases h : a = b
  · subst h; simp [Nat.beq_refl]
  · have : Nat.beq a b = false := by
      cases hq : Nat.beq a b with
      | false => rfl
      | true => exact absurd (Nat.eq_of_beq_eq_true hq) h
    simp [this, h]
def assocI {α : Type} : List (Nat × α) → Nat → Option α
  | [], _ => none
  | (k, v) :: r, i => if k = i then some v else assocI r i
noncomputable def assoc {α : Type} (l : List (Nat × α)) (i : Nat) : Option α := @List.rec (Nat × α) (fun _ => Option α) none (fun p _ ih => cond (Nat.beq p.1 i) (some p.2) ih) l
def assocSetI {α : Type} : List (Nat × α) → Nat → α → List (Nat × α)
  | [], i, x => [(i, x)]
  | (k, v) :: r, i, x => if k = i then (i, x) :: r else (k, v) :: assocSetI r i x
noncomputable def assocSet {α : Type} (l : List (Nat × α)) (i : Nat) (x : α) : List (Nat × α) := @List.rec (Nat × α) (fun _ => List (Nat × α)) [(i, x)] (fun p r ih => cond (Nat.beq p.1 i) ((i, x) :: r) (p :: ih)) l
theorem assoc_cons {α : Type} (k : Nat) (v : α) (r : List (Nat × α)) (i : Nat) : assoc ((k, v) :: r) i = if k = i then some v else assoc r i := beq_cond _ _ _ _
theorem assoc_nil {α : Type} (i : Nat) : assoc ([] : List (Nat × α)) i = none := rfl
theorem assocSet_cons {α : Type} (k : Nat) (v : α) (r : List (Nat × α)) (i : Nat) (x : α) : assocSet ((k, v) :: r) i x = if k = i then (i, x) :: r else (k, v) :: assocSet r i x := beq_cond _ _ _ _
theorem assocSet_nil {α : Type} (i : Nat) (x : α) : assocSet ([] : List (Nat × α)) i x = [(i, x)] := rfl
theorem assoc_set {α : Type} (l : List (Nat × α)) (i j : Nat) (x : α) : assoc (assocSet l i x) j = if i = j then some x else assoc l j := by
  induction l with
  | nil => simp [assocSet_nil, assoc_nil, assoc_cons]
  | cons p r ih =>
    obtain ⟨k, v⟩ := p
    simp only [assocSet_cons]
    by_cases h : k = i
    · subst h; simp only [if_true, assoc_cons]
      by_cases h2 : k = j <;> simp [h2]
    · simp only [h, if_false, assoc_cons, ih]
      by_cases h2 : k = j
      · subst h2; simp [Ne.symm h]
      · simp [h2]

def evn (i : Nat) : Bool := Nat.beq (Nat.mod i 2) 0
theorem evn_iff {i : Nat} : evn i = true ↔ i % 2 = 0 := by
  show Nat.beq (i % 2) 0 = true ↔ _
  constructor
  · exact Nat.eq_of_beq_eq_true
  · intro h; rw [h]; rfl
def half (i : Nat) : Nat := Nat.div i 2
theorem half_eq (i : Nat) : half i = i / 2 := rfl
def Trie.getI {α : Type} : Nat → Trie α → Nat → Option α
  | _, .nil, _ => none
  | 0, .node v _ _, i => assoc v i
  | d + 1, .node _ l r, i => cond (evn i) (Trie.getI d l (half i)) (Trie.getI d r (half i))
def Trie.setI {α : Type} : Nat → Trie α → Nat → α → Trie α
  | 0, .nil, i, x => .node [(i, x)] .nil .nil
  | 0, .node v l r, i, x => .node (assocSet v i x) l r
  | d + 1, .nil, i, x => cond (evn i) (.node [] (Trie.setI d .nil (half i) x) .nil) (.node [] .nil (Trie.setI d .nil (half i) x))
  | d + 1, .node v l r, i, x => cond (evn i) (.node v (Trie.setI d l (half i) x) r) (.node v l (Trie.setI d r (half i) x))
noncomputable def Trie.get {α : Type} (d : Nat) : Trie α → Nat → Option α :=
  @Nat.rec (fun _ => Trie α → Nat → Option α)
    (fun t i => @Trie.casesOn α (fun _ => Option α) t none (fun v _ _ => assoc v i))
    (fun _ ih t i => @Trie.casesOn α (fun _ => Option α) t none (fun _ l r => cond (evn i) (ih l (half i)) (ih r (half i)))) d
noncomputable def Trie.set {α : Type} (d : Nat) : Trie α → Nat → α → Trie α :=
  @Nat.rec (fun _ => Trie α → Nat → α → Trie α)
    (fun t i x => @Trie.casesOn α (fun _ => Trie α) t (.node [(i, x)] .nil .nil) (fun v l r => .node (assocSet v i x) l r))
    (fun _ ih t i x => @Trie.casesOn α (fun _ => Trie α) t (cond (evn i) (.node [] (ih .nil (half i) x) .nil) (.node [] .nil (ih .nil (half i) x)))
      (fun v l r => cond (evn i) (.node v (ih l (half i) x) r) (.node v l (ih r (half i) x)))) d
section
variable {α : Type} (d : Nat) (v : List (Nat × α)) (l r : Trie α) (i : Nat) (x : α)
theorem Trie.get_z : Trie.get 0 (.node v l r) i = assoc v i := rfl
theorem Trie.get_s : Trie.get (d + 1) (.node v l r) i = cond (evn i) (Trie.get d l (half i)) (Trie.get d r (half i)) := rfl
theorem Trie.set_zn : Trie.set 0 (.nil : Trie α) i x = .node [(i, x)] .nil .nil := rfl
theorem Trie.set_z : Trie.set 0 (.node v l r) i x = .node (assocSet v i x) l r := rfl
theorem Trie.set_sn : Trie.set (d + 1) (.nil : Trie α) i x = cond (evn i) (.node [] (Trie.set d .nil (half i) x) .nil) (.node [] .nil (Trie.set d .nil (half i) x)) := rfl
theorem Trie.set_s : Trie.set (d + 1) (.node v l r) i x = cond (evn i) (.node v (Trie.set d l (half i) x) r) (.node v l (Trie.set d r (half i) x)) := rfl
end

theorem Trie.get_nil {α : Type} (d i : Nat) : Trie.get d (.nil : Trie α) i = none := by cases d <;> rfl
theorem Trie.get_set {α : Type} (d : Nat) : ∀ (t : Trie α) (i j : Nat) (x : α), Trie.get d (Trie.set d t i x) j = if i = j then some x else Trie.get d t j := by
  induction d with
  | zero =>
    intro t i j x
    cases t with
    | nil => simp [Trie.set_zn, Trie.get_z, Trie.get_nil, assoc_cons, assoc_nil]
    | node v l r => simp [Trie.set_z, Trie.get_z, assoc_set]
  | succ d ih =>
    intro t i j x
    have ei : ∀ k, evn k = true ↔ k % 2 = 0 := fun k => evn_iff
    have eq1 : evn i = evn j → half i = half j → i = j := by
      intro h1 h2
      rw [half_eq, half_eq] at h2
      have := ei i
      have := ei j
      cases hi : evn i <;> cases hj : evn j <;> simp_all <;> omega
    cases t with
    | nil =>
      simp only [Trie.set_sn]
      cases hi : evn i <;> cases hj : evn j <;> simp only [cond_true, cond_false, Trie.get_s, hj, ih, Trie.get_nil]
      · by_cases hq : half i = half j
        · have := eq1 (by rw [hi, hj]) hq
          simp [this]
        · have : i ≠ j := fun e => hq (by rw [e])
          simp [hq, this]
      · have : i ≠ j := fun e => by rw [e, hj] at hi; cases hi
        simp [this]
      · have : i ≠ j := fun e => by rw [e, hj] at hi; cases hi
        simp [this]
      · by_cases hq : half i = half j
        · have := eq1 (by rw [hi, hj]) hq
          simp [this]
        · have : i ≠ j := fun e => hq (by rw [e])
          simp [hq, this]
    | node v l r =>
      simp only [Trie.set_s]
      cases hi : evn i <;> cases hj : evn j <;> simp only [cond_true, cond_false, Trie.get_s, hj, ih, Trie.get_nil]
      · by_cases hq : half i = half j
        · have := eq1 (by rw [hi, hj]) hq
          simp [this]
        · have : i ≠ j := fun e => hq (by rw [e])
          simp [hq, this]
      · have : i ≠ j := fun e => by rw [e, hj] at hi; cases hi
        simp [this]
      · have : i ≠ j := fun e => by rw [e, hj] at hi; cases hi
        simp [this]
      · by_cases hq : half i = half j
        · have := eq1 (by rw [hi, hj]) hq
          simp [this]
        · have : i ≠ j := fun e => hq (by rw [e])
          simp [hq, this]

/-! ### lists by place -/
def lgetI {α : Type} (l : List α) (d : α) (i : Nat) : α := l.getD i d
noncomputable def lget {α : Type} (l : List α) (d : α) : Nat → α := @List.rec α (fun _ => Nat → α) (fun _ => d) (fun x _ ih i => @Nat.rec (fun _ => α) x (fun j _ => ih j) i) l
def lsetI {α : Type} (l : List α) (v : α) (i : Nat) : List α := l.set i v
noncomputable def lset {α : Type} (l : List α) (v : α) : Nat → List α := @List.rec α (fun _ => Nat → List α) (fun _ => []) (fun x r ih i => @Nat.rec (fun _ => List α) (v :: r) (fun j _ => x :: ih j) i) l
theorem lget_eq {α : Type} (l : List α) (d : α) (i : Nat) : lget l d i = l.getD i d := by
  induction l generalizing i with
  | nil => rfl
  | cons x r ih => cases i with
    | zero => rfl
    | succ i => show lget r d i = _; rw [ih]; rfl
theorem lset_eq {α : Type} (l : List α) (v : α) (i : Nat) : lset l v i = l.set i v := by
  induction l generalizing i with
  | nil => rfl
  | cons x r ih => cases i with
    | zero => rfl
    | succ i => show x :: lset r v i = _; rw [ih]; rfl

/-- A map's entry. -/
structure Ent where
  key : Value
  val : Value
  born : Nat
/-- What a name stands for. -/
inductive AObj where
  | row (c : List Value) (esz : Nat) (loose : Bool)
  | map (es : List Ent) (clock : Nat)
  | mapIter (m : Option Nat) (since : Nat) (seen : List Nat) (last : Nat)
  | strIter (s : ByteArray) (pos : Nat)
  | loop (state : LoopState) (pending : Option Code) (tmps : List Value) (params : Array Tmp) (assign body : Code) (defers : Nat)
  | deferred
  | gone

/-- The heap: names below 'next'. -/
structure AH where
  t : Trie AObj
  next : Nat
  gl : List (Nat × List Value)
def AH.get (h : AH) (i : Nat) : Option AObj :=
  match Trie.get 8 h.t i with
  | some .gone => none
  | x => x
def AH.put (h : AH) (i : Nat) (o : AObj) : AH := { h with t := Trie.set 8 h.t i o }
def AH.new (h : AH) (o : AObj) : AH := { t := Trie.set 8 h.t h.next o, next := h.next + 1, gl := h.gl }
def AH.empty : AH := ⟨.nil, 0, []⟩
def AH.start (gl : List (Nat × List Value)) : AH := ⟨.nil, 0, gl⟩

def AObj.live : AObj → Option AObj
  | .gone => none
  | x => some x
theorem AH.get_put (h : AH) (i j : Nat) (o : AObj) : (h.put i o).get j = if i = j then o.live else h.get j := by
  simp only [AH.get, AH.put, Trie.get_set]
  by_cases hij : i = j
  · simp only [hij, if_true]; cases o <;> rfl
  · simp only [hij, if_false]
theorem AH.get_new (h : AH) (j : Nat) (o : AObj) : (h.new o).get j = if h.next = j then o.live else h.get j := by
  simp only [AH.get, AH.new, Trie.get_set]
  by_cases hij : h.next = j
  · simp only [hij, if_true]; cases o <;> rfl
  · simp only [hij, if_false]
theorem AH.get_start (gl : List (Nat × List Value)) (j : Nat) : (AH.start gl).get j = none := by simp [AH.get, AH.start, Trie.get_nil]
theorem AH.get_empty (j : Nat) : AH.empty.get j = none := by simp [AH.get, AH.empty, Trie.get_nil]

/-- Where a name lies in the concrete heap: its block, the row's first cell, its cells, the cells of an element, the spare cells behind. -/
structure Loc where
  blk : Nat
  off : Nat
  len : Nat
  esz : Nat
  ext : Nat
abbrev Inj := Nat → Option Loc
def Inj.le (β β' : Inj) : Prop := ∀ b L, β b = some L → β' b = some L
theorem Inj.le.refl (β : Inj) : Inj.le β β := fun _ _ h => h
theorem Inj.le.trans {a b c : Inj} (h : Inj.le a b) (k : Inj.le b c) : Inj.le a c := fun x L hx => k x L (h x L hx)

inductive FR (β : Inj) : Fn → Fn → Prop
  | func (f : FuncId) : FR β (.func f) (.func f)
  | yield (l : Nat) (L : Loc) (h : β l = some L) : FR β (.yield l) (.yield L.blk)

/-- Two values are one, but for where their addresses lie. -/
inductive VR (β : Inj) : Value → Value → Prop
  | bool (b : Bool) : VR β (.bool b) (.bool b)
  | int (k : IntKind) (n : Int) : VR β (.int k n) (.int k n)
  | float (k : FloatKind) (n : Nat) : VR β (.float k n) (.float k n)
  | string (s : ByteArray) : VR β (.string s) (.string s)
  | nilp : VR β (.pointer none) (.pointer none)
  | ptr (b o : Nat) (L : Loc) (h : β b = some L) : VR β (.pointer (some ⟨b, o, none⟩)) (.pointer (some ⟨L.blk, L.off + o, none⟩))
  | glob (g o : Nat) : VR β (.pointer (some ⟨g, o, some 0⟩)) (.pointer (some ⟨g, o, none⟩))
  | nils (l c : Nat) : VR β (.slice none l c) (.slice none l c)
  | sl (b o l c s : Nat) (L : Loc) (h : β b = some L) (hs : s = 0 ∨ (o + c * L.esz = L.len ∧ s * L.esz ≤ L.ext ∧ 0 < L.esz)) :
      VR β (.slice (some ⟨b, o, none⟩) l c) (.slice (some ⟨L.blk, L.off + o, none⟩) l (c + s))
  | slz (a a' : Addr) : VR β (.slice (some a) 0 0) (.slice (some a') 0 0)
  | osl (g o l c : Nat) : VR β (.slice (some ⟨g, o, some 0⟩) l c) (.slice (some ⟨g, o, none⟩) l c)
  | nilm : VR β (.map none) (.map none)
  | map (b : Nat) (L : Loc) (h : β b = some L) : VR β (.map (some b)) (.map (some L.blk))
  | nilf : VR β .nilFunc .nilFunc
  | func (f f' : Fn) (a a' c c' : Array Value) (hf : FR β f f') (ha : a.size = a'.size) (hc : c.size = c'.size)
      (h1 : ∀ i, i < a.size → VR β (a.getD i undef) (a'.getD i undef)) (h2 : ∀ i, i < c.size → VR β (c.getD i undef) (c'.getD i undef)) :
      VR β (.func f a c) (.func f' a' c')
  | nili : VR β .nilIface .nilIface
  | iface (t : TypeId) (v v' : Value) (h : VR β v v') : VR β (.iface t v) (.iface t v')
  | agg (a a' : Array Value) (ha : a.size = a'.size) (h : ∀ i, i < a.size → VR β (a.getD i undef) (a'.getD i undef)) : VR β (.agg a) (.agg a')
  | tuple (a a' : Array Value) (ha : a.size = a'.size) (h : ∀ i, i < a.size → VR β (a.getD i undef) (a'.getD i undef)) : VR β (.tuple a) (.tuple a')

def AR (β : Inj) (a a' : Array Value) : Prop := a.size = a'.size ∧ ∀ i, i < a.size → VR β (a.getD i undef) (a'.getD i undef)

theorem VR.undef (β : Inj) : VR β undef undef := .tuple #[] #[] rfl (fun i h => absurd h (Nat.not_lt_zero i))
theorem AR.at {β : Inj} {a a' : Array Value} (h : AR β a a') (i : Nat) : VR β (a.getD i undef) (a'.getD i undef) := by
  by_cases hi : i < a.size
  · exact h.2 i hi
  · have h1 : a.getD i undef = undef := by simp [Array.getD, hi]
    have h2 : a'.getD i undef = undef := by simp [Array.getD, h.1 ▸ hi]
    rw [h1, h2]; exact VR.undef β

theorem FR.mono {β β' : Inj} (hb : Inj.le β β') {f f' : Fn} (h : FR β f f') : FR β' f f' := by
  cases h with
  | func f => exact .func f
  | yield l L h => exact .yield l L (hb _ _ h)
theorem VR.mono {β β' : Inj} (hb : Inj.le β β') {v v' : Value} (h : VR β v v') : VR β' v v' := by
  induction h with
  | bool b => exact .bool b
  | int k n => exact .int k n
  | float k n => exact .float k n
  | string s => exact .string s
  | nilp => exact .nilp
  | ptr b o L h => exact .ptr b o L (hb _ _ h)
  | glob g o => exact .glob g o
  | nils l c => exact .nils l c
  | sl b o l c s L h hs => exact .sl b o l c s L (hb _ _ h) hs
  | slz a a' => exact .slz a a'
  | osl g o l c => exact .osl g o l c
  | nilm => exact .nilm
  | map b L h => exact .map b L (hb _ _ h)
  | nilf => exact .nilf
  | func f f' a a' c c' hf ha hc h1 h2 ih1 ih2 => exact .func f f' a a' c c' (hf.mono hb) ha hc ih1 ih2
  | nili => exact .nili
  | iface t v v' h ih => exact .iface t v v' ih
  | agg a a' ha h ih => exact .agg a a' ha ih
  | tuple a a' ha h ih => exact .tuple a a' ha ih
theorem AR.mono {β β' : Inj} (hb : Inj.le β β') {a a' : Array Value} (h : AR β a a') : AR β' a a' := ⟨h.1, fun i hi => (h.2 i hi).mono hb⟩

/-- No address lies in it (to a depth). -/
def ground : Nat → Value → Bool
  | _, .bool _ | _, .int _ _ | _, .float _ _ | _, .string _ | _, .nilFunc | _, .nilIface | _, .pointer none | _, .map none | _, .slice none _ _ => true
  | d + 1, .iface _ v => ground d v
  | d + 1, .agg a | d + 1, .tuple a => a.toList.all (ground d)
  | _, .func (.func _) a c => a.size == 0 && c.size == 0
  | _, _ => false

theorem array_ext_getD {a a' : Array Value} (hs : a.size = a'.size) (h : ∀ i, i < a.size → a'.getD i undef = a.getD i undef) : a' = a := by
  apply Array.ext hs.symm
  intro i h1 h2
  have := h i h2
  simpa [Array.getD, h1, h2] using this

theorem VR.ground {β : Inj} {v v' : Value} (h : VR β v v') : ∀ d, ground d v = true → v' = v := by
  induction h with
  | bool | int | float | string | nilp | nils | nilm | nilf | nili => intros; rfl
  | ptr | glob | sl | slz | osl | map => intro d hd; cases d <;> simp [AE.ground] at hd
  | func f f' a a' c c' hf ha hc h1 h2 ih1 ih2 =>
    intro d hd
    cases hf with
    | func f =>
      have : a.size = 0 ∧ c.size = 0 := by cases d <;> simpa [AE.ground] using hd
      obtain ⟨e1, e2⟩ := this
      have : a' = #[] := Array.eq_empty_of_size_eq_zero (ha ▸ e1)
      have : c' = #[] := Array.eq_empty_of_size_eq_zero (hc ▸ e2)
      have : a = #[] := Array.eq_empty_of_size_eq_zero e1
      have : c = #[] := Array.eq_empty_of_size_eq_zero e2
      subst_vars; rfl
    | yield l L h => cases d <;> simp [AE.ground] at hd
  | iface t v v' h ih =>
    intro d hd
    cases d with
    | zero => simp [AE.ground] at hd
    | succ d => rw [ih d (by simpa [AE.ground] using hd)]
  | agg a a' ha h ih =>
    intro d hd
    cases d with
    | zero => simp [AE.ground] at hd
    | succ d =>
      have hall : ∀ i (hi : i < a.size), AE.ground d a[i] = true := by simpa [AE.ground, List.all_eq_true] using hd
      rw [array_ext_getD ha fun i hi => ih i hi d (by simpa [Array.getD, hi] using hall i hi)]
  | tuple a a' ha h ih =>
    intro d hd
    cases d with
    | zero => simp [AE.ground] at hd
    | succ d =>
      have hall : ∀ i (hi : i < a.size), AE.ground d a[i] = true := by simpa [AE.ground, List.all_eq_true] using hd
      rw [array_ext_getD ha fun i hi => ih i hi d (by simpa [Array.getD, hi] using hall i hi)]

/-- The cells of related values are related. -/
theorem AR.cells {β : Inj} {v v' : Value} (h : VR β v v') : AR β v.cells v'.cells := by
  have one : ∀ {x x' : Value}, VR β x x' → AR β #[x] #[x'] := fun hx => ⟨rfl, fun i hi => by
    have : i = 0 := by simp at hi; omega
    subst this; simpa [Array.getD] using hx⟩
  cases h with
  | agg a a' ha h => exact ⟨ha, h⟩
  | bool b => exact one (.bool b)
  | int k n => exact one (.int k n)
  | float k n => exact one (.float k n)
  | string s => exact one (.string s)
  | nilp => exact one .nilp
  | ptr b o L h => exact one (.ptr b o L h)
  | glob g o => exact one (.glob g o)
  | nils l c => exact one (.nils l c)
  | sl b o l c s L h hs => exact one (.sl b o l c s L h hs)
  | slz a a' => exact one (.slz a a')
  | osl g o l c => exact one (.osl g o l c)
  | nilm => exact one .nilm
  | map b L h => exact one (.map b L h)
  | nilf => exact one .nilf
  | func f f' a a' c c' hf ha hc h1 h2 => exact one (.func f f' a a' c c' hf ha hc h1 h2)
  | nili => exact one .nili
  | iface t v v' h => exact one (.iface t v v' h)
  | tuple a a' ha h => exact one (.tuple a a' ha h)

end
end Go.AE

/- How a concrete world holds an abstract heap; what becomes of it when a row is made, written, let go. -/
namespace Go.AE
noncomputable section
open Go.RowKit

def entR (β : Inj) (e : Ent) (E : MapEntry) : Prop := ground 8 e.key = true ∧ E.key = e.key ∧ VR β e.val E.val ∧ E.born = e.born

def nilCode : Option Code → Bool
  | none => true
  | some .ret => true
  | some (.exit _) => true
  | _ => false

inductive OR (β : Inj) (L : Loc) : AObj → Obj → Prop
  | row (c : List Value) (z : Nat) (lo : Bool) (C : Array Value) (e : TypeId) (fr : Nat × Nat) (hl : L.len = c.length) (hz : L.esz = z) (hC : C.size = L.off + L.len + L.ext)
      (hx : lo = false → L.ext = 0) (hfr : fr.2 = fr.1 ∨ C.size ≤ fr.1) (h : ∀ i, i < c.length → VR β (c.getD i undef) (C.getD (L.off + i) undef)) : OR β L (.row c z lo) (.cells C e fr)
  | map (es : List Ent) (ck : Nat) (ES : Array MapEntry) (h : ES.size = es.length) (he : ∀ (i : Nat) (e : Ent) (E : MapEntry), es[i]? = some e → ES[i]? = some E → entR β e E) : OR β L (.map es ck) (.map ES ck)
  | mapIterN (since last : Nat) (seen : List Nat) (h0 : L.off = 0) : OR β L (.mapIter none since seen last) (.mapIter none since seen.toArray last)
  | mapIter (m : Nat) (M : Loc) (hm : β m = some M) (since last : Nat) (seen : List Nat) (h0 : L.off = 0) : OR β L (.mapIter (some m) since seen last) (.mapIter (some M.blk) since seen.toArray last)
  | strIter (s : ByteArray) (pos : Nat) (h0 : L.off = 0) : OR β L (.strIter s pos) (.stringIter s pos)
  | loop (st : LoopState) (pe : Option Code) (fn : FuncId) (tm : List Value) (T : Array Value) (ps : Array Tmp) (as bd : Code) (df : Nat) (D : Loc) (hd : β df = some D) (ht : AR β tm.toArray T) :
      OR β L (.loop st pe tm ps as bd df) (.loop { state := st, pending := pe, fn := fn, tmps := T, params := ps, assign := as, body := bd, defers := D.blk })
  | deferred : OR β L .deferred (.deferred (some []))

theorem entR.mono {β β' : Inj} (hb : Inj.le β β') {e : Ent} {E : MapEntry} (h : entR β e E) : entR β' e E := ⟨h.1, h.2.1, h.2.2.1.mono hb, h.2.2.2⟩
theorem OR.mono {β β' : Inj} (hb : Inj.le β β') {L : Loc} {o : AObj} {O : Obj} (h : OR β L o O) : OR β' L o O := by
  cases h with
  | row c z lo C e fr hl hz hC hx hfr h => exact .row c z lo C e fr hl hz hC hx hfr fun i hi => (h i hi).mono hb
  | map es ck ES h he => exact .map es ck ES h fun i e E h1 h2 => (he i e E h1 h2).mono hb
  | mapIterN since last seen h0 => exact .mapIterN since last seen h0
  | mapIter m M hm since last seen h0 => exact .mapIter m M (hb _ _ hm) since last seen h0
  | strIter s pos h0 => exact .strIter s pos h0
  | loop st pe fn tm T ps as bd df D hd ht => exact .loop st pe fn tm T ps as bd df D (hb _ _ hd) (ht.mono hb)
  | deferred => exact .deferred

theorem OR.live {β : Inj} {L : Loc} {o : AObj} {O : Obj} (h : OR β L o O) : o.live = some o := by cases h <;> rfl

/-- Is the cell one that we know? (The others stand as a pointer that no program makes.) -/
def known (v : Value) : Bool := match v with
  | .pointer (some ⟨_, _, some (_ + 1)⟩) => false
  | _ => true
/-- The package-level tables that are known. -/
def GL (w0 : World) (gl : List (Nat × List Value)) : Prop := ∀ g c, assoc gl g = some c → ∃ C e fr, w0.heap[g]? = some (.cells C e fr) ∧ C.size = c.length ∧ ∀ i, i < c.length → known (c.getD i undef) = true → ∀ β : Inj, VR β (c.getD i undef) (C.getD i undef)
/-- The world w, made out of w0, holds the heap h by way of β. -/
structure WR (w0 : World) (β : Inj) (h : AH) (w : World) : Prop where
  below : Below w0.heap.size w0 w
  obj : ∀ b o, h.get b = some o → ∃ L O, β b = some L ∧ w.heap[L.blk]? = some O ∧ OR β L o O ∧ w0.heap.size ≤ L.blk
  inj : ∀ b1 b2 o1 o2 L1 L2, h.get b1 = some o1 → h.get b2 = some o2 → β b1 = some L1 → β b2 = some L2 → b1 ≠ b2 → L1.blk ≠ L2.blk
  fresh : ∀ b, h.next ≤ b → β b = none
  glob : GL w0 h.gl

theorem WR.empty (w : World) : WR w (fun _ => none) .empty w :=
  ⟨Below.refl _ _, fun b o h => by simp [AH.get_empty] at h, fun b1 _ o1 _ _ _ h => by simp [AH.get_empty] at h, fun _ _ => rfl, fun g c h => by simp [AH.empty, assoc_nil] at h⟩
theorem WR.start {w : World} {gl : List (Nat × List Value)} (hg : GL w gl) : WR w (fun _ => none) (.start gl) w :=
  ⟨Below.refl _ _, fun b o h => by simp [AH.get_start] at h, fun b1 _ o1 _ _ _ h => by simp [AH.get_start] at h, fun _ _ => rfl, hg⟩

theorem WR.drew {w0 w : World} {β : Inj} {h : AH} (hw : WR w0 β h w) : WR w0 β h { w with drawn := w.drawn + 1 } :=
  ⟨⟨hw.below.os, hw.below.tape, hw.below.output, hw.below.size, hw.below.block⟩, hw.obj, hw.inj, hw.fresh, hw.glob⟩

theorem WR.lt {w0 w : World} {β : Inj} {h : AH} (hw : WR w0 β h w) {b : Nat} {o : AObj} (hb : h.get b = some o) : b < h.next := by
  obtain ⟨L, O, h1, _⟩ := hw.obj b o hb
  rcases Nat.lt_or_ge b h.next with h2 | h2
  · exact h2
  · rw [hw.fresh b h2] at h1; cases h1

def Inj.add (β : Inj) (b : Nat) (L : Loc) : Inj := fun i => if i = b then some L else β i
theorem Inj.add_le {β : Inj} {b : Nat} {L : Loc} (h : β b = none) : Inj.le β (β.add b L) := fun i M hi => by
  unfold Inj.add
  by_cases e : i = b
  · subst e; rw [h] at hi; cases hi
  · simp [e, hi]
theorem Inj.add_at {β : Inj} {b : Nat} {L : Loc} : (β.add b L) b = some L := by simp [Inj.add]

theorem below_put {B : Nat} {w0 w : World} (h : Below B w0 w) {k : Nat} (hk : B ≤ k) (O : Obj) : Below B w0 { w with heap := w.heap.setIfInBounds k O } :=
  h.trans ⟨rfl, rfl, rfl, by simp, fun i hi => by
    show (w.heap.setIfInBounds k O)[i]? = w.heap[i]?
    rw [Array.getElem?_setIfInBounds_ne (by omega)]⟩

/-- A new object in a new block. -/
theorem WR.new {w0 w : World} {β : Inj} {h : AH} (hw : WR w0 β h w) {o : AObj} {O : Obj} {L : Loc} (hL : L.blk = w.heap.size)
    (ho : OR (β.add h.next L) L o O) : WR w0 (β.add h.next L) (h.new o) (w.alloc O) ∧ Inj.le β (β.add h.next L) := by
  have hle : Inj.le β (β.add h.next L) := Inj.add_le (hw.fresh _ (Nat.le_refl _))
  have hlive := ho.live
  have old : ∀ b, b ≠ h.next → (β.add h.next L) b = β b := fun b hb => by simp [Inj.add, hb]
  refine ⟨⟨Below.alloc hw.below hw.below.size O, ?_, ?_, ?_, hw.glob⟩, hle⟩
  · intro b x hb
    rw [AH.get_new] at hb
    by_cases e : h.next = b
    · subst e
      simp only [if_true, hlive, Option.some.injEq] at hb
      subst hb
      exact ⟨L, O, Inj.add_at, by show (w.heap.push O)[L.blk]? = some O; rw [hL]; simp, ho, by rw [hL]; exact hw.below.size⟩
    · simp only [e, if_false] at hb
      obtain ⟨M, X, h1, h2, h3, h4⟩ := hw.obj b x hb
      refine ⟨M, X, hle _ _ h1, ?_, h3.mono hle, h4⟩
      rw [Below.heap_alloc _ _ _ (Array.getElem?_eq_some_iff.1 h2).1]; exact h2
  · intro b1 b2 o1 o2 L1 L2 g1 g2 e1 e2 hne
    rw [AH.get_new] at g1 g2
    by_cases q1 : h.next = b1
    · subst q1
      have q2 : h.next ≠ b2 := hne
      rw [Inj.add_at] at e1
      cases e1
      simp only [q2, if_false] at g2
      rw [old _ (Ne.symm q2)] at e2
      obtain ⟨M, X, k1, k2, _, _⟩ := hw.obj b2 o2 g2
      rw [k1] at e2; cases e2
      have := (Array.getElem?_eq_some_iff.1 k2).1
      omega
    · simp only [q1, if_false] at g1
      rw [old _ (Ne.symm q1)] at e1
      by_cases q2 : h.next = b2
      · subst q2
        rw [Inj.add_at] at e2
        cases e2
        obtain ⟨M, X, k1, k2, _, _⟩ := hw.obj b1 o1 g1
        rw [k1] at e1; cases e1
        have := (Array.getElem?_eq_some_iff.1 k2).1
        omega
      · simp only [q2, if_false] at g2
        rw [old _ (Ne.symm q2)] at e2
        exact hw.inj b1 b2 o1 o2 L1 L2 g1 g2 e1 e2 hne
  · intro b hb
    have : h.next + 1 ≤ b := hb
    rw [old _ (by omega)]
    exact hw.fresh b (by omega)

/-- An object is turned where it lies. -/
theorem WR.put {w0 w : World} {β : Inj} {h : AH} (hw : WR w0 β h w) {b : Nat} {o o' : AObj} {O' : Obj} {L : Loc} (hb : h.get b = some o) (hL : β b = some L)
    (ho : OR β L o' O') : WR w0 β (h.put b o') { w with heap := w.heap.setIfInBounds L.blk O' } := by
  obtain ⟨L', O, k1, k2, k3, k4⟩ := hw.obj b o hb
  rw [hL] at k1; cases k1
  have hlt := (Array.getElem?_eq_some_iff.1 k2).1
  refine ⟨below_put hw.below k4 O', ?_, ?_, hw.fresh, hw.glob⟩
  · intro i x hi
    rw [AH.get_put] at hi
    by_cases e : b = i
    · subst e
      simp only [if_true, ho.live, Option.some.injEq] at hi
      subst hi
      exact ⟨L, O', hL, by show (w.heap.setIfInBounds L.blk O')[L.blk]? = _; simp [Array.getElem?_setIfInBounds, hlt], ho, k4⟩
    · simp only [e, if_false] at hi
      obtain ⟨M, X, h1, h2, h3, h4⟩ := hw.obj i x hi
      refine ⟨M, X, h1, ?_, h3, h4⟩
      have := hw.inj b i o x L M hb hi hL h1 e
      show (w.heap.setIfInBounds L.blk O')[M.blk]? = _
      rw [Array.getElem?_setIfInBounds_ne this]; exact h2
  · intro b1 b2 o1 o2 L1 L2 g1 g2 e1 e2 hne
    have there : ∀ i x, (h.put b o').get i = some x → ∃ y, h.get i = some y := fun i x hx => by
      rw [AH.get_put] at hx
      by_cases e : b = i
      · subst e; exact ⟨o, hb⟩
      · simp only [e, if_false] at hx; exact ⟨x, hx⟩
    obtain ⟨y1, f1⟩ := there b1 o1 g1
    obtain ⟨y2, f2⟩ := there b2 o2 g2
    exact hw.inj b1 b2 y1 y2 L1 L2 f1 f2 e1 e2 hne

/-- A name is let go. -/
theorem WR.drop {w0 w : World} {β : Inj} {h : AH} (hw : WR w0 β h w) (b : Nat) : b < h.next → WR w0 β (h.put b .gone) w := fun hlt => by
  have there : ∀ i x, (h.put b .gone).get i = some x → h.get i = some x := fun i x hx => by
    rw [AH.get_put] at hx
    by_cases e : b = i
    · subst e; simp [AObj.live] at hx
    · simpa [e] using hx
  exact ⟨hw.below, fun i x hx => hw.obj i x (there i x hx), fun b1 b2 o1 o2 L1 L2 g1 g2 => hw.inj b1 b2 o1 o2 L1 L2 (there _ _ g1) (there _ _ g2), hw.fresh, hw.glob⟩

/-- A row that lives on under a new name, in the same block, or in another one: the elder name is let go; the new one stands in its block. -/
theorem WR.reuse {w0 w : World} {β : Inj} {h : AH} (hw : WR w0 β h w) {b : Nat} {o o' : AObj} {O' : Obj} {L L' : Loc} (hb : h.get b = some o) (hL : β b = some L) (hblk : L'.blk = L.blk)
    (ho : OR (β.add h.next L') L' o' O') :
    WR w0 (β.add h.next L') ((h.put b .gone).new o') { w with heap := w.heap.setIfInBounds L.blk O' } ∧ Inj.le β (β.add h.next L') := by
  have hle : Inj.le β (β.add h.next L') := Inj.add_le (hw.fresh _ (Nat.le_refl _))
  have old : ∀ i, i ≠ h.next → (β.add h.next L') i = β i := fun i hi => by simp [Inj.add, hi]
  obtain ⟨M, O, k1, k2, k3, k4⟩ := hw.obj b o hb
  rw [hL] at k1; cases k1
  have hlt := (Array.getElem?_eq_some_iff.1 k2).1
  have there : ∀ i x, i ≠ h.next → ((h.put b .gone).new o').get i = some x → h.get i = some x ∧ i ≠ b := fun i x hi hx => by
    rw [AH.get_new] at hx
    have : (h.put b .gone).next = h.next := rfl
    rw [this, if_neg (Ne.symm hi), AH.get_put] at hx
    by_cases e : b = i
    · subst e; simp [AObj.live] at hx
    · exact ⟨by simpa [e] using hx, Ne.symm e⟩
  refine ⟨⟨below_put hw.below k4 O', ?_, ?_, ?_, hw.glob⟩, hle⟩
  · intro i x hx
    by_cases e : i = h.next
    · subst e
      rw [AH.get_new] at hx
      have : (h.put b .gone).next = h.next := rfl
      rw [this, if_pos rfl, ho.live] at hx
      cases hx
      exact ⟨L', O', Inj.add_at, by show (w.heap.setIfInBounds L.blk O')[L'.blk]? = _; rw [hblk]; simp [Array.getElem?_setIfInBounds, hlt], ho, by omega⟩
    · obtain ⟨hx, hne⟩ := there i x e hx
      obtain ⟨N, X, h1, h2, h3, h4⟩ := hw.obj i x hx
      refine ⟨N, X, hle _ _ h1, ?_, h3.mono hle, h4⟩
      have := hw.inj b i o x L N hb hx hL h1 (Ne.symm hne)
      show (w.heap.setIfInBounds L.blk O')[N.blk]? = _
      rw [Array.getElem?_setIfInBounds_ne this]; exact h2
  · intro b1 b2 o1 o2 L1 L2 g1 g2 e1 e2 hne
    by_cases q1 : b1 = h.next
    · subst q1
      rw [Inj.add_at] at e1; cases e1
      have q2 : b2 ≠ h.next := Ne.symm hne
      obtain ⟨f2, n2⟩ := there b2 o2 q2 g2
      rw [old _ q2] at e2
      rw [hblk]
      exact hw.inj b b2 o o2 L L2 hb f2 hL e2 (Ne.symm n2)
    · obtain ⟨f1, n1⟩ := there b1 o1 q1 g1
      rw [old _ q1] at e1
      by_cases q2 : b2 = h.next
      · subst q2
        rw [Inj.add_at] at e2; cases e2
        rw [hblk]
        exact hw.inj b1 b o1 o L1 L f1 hb e1 hL n1
      · obtain ⟨f2, n2⟩ := there b2 o2 q2 g2
        rw [old _ q2] at e2
        exact hw.inj b1 b2 o1 o2 L1 L2 f1 f2 e1 e2 hne
  · intro i hi
    have : h.next + 1 ≤ i := hi
    rw [old _ (by omega)]
    exact hw.fresh i (by omega)

end
end Go.AE

/- Reading and writing cells of a block; computations that ask no memory. -/
namespace Go.AE
noncomputable section
open Go.RowKit

/-- What a computation comes to that asks the program alone. -/
def look {α : Type} (P : Program) : Sem α → Option α
  | .pure a => some a
  | .program k => look P (k P)
  | .mark _ _ => none
  | _ => none
theorem look_run {α : Type} {P : Program} (s : Sem α) {x : α} (h : look P s = some x) (w : World) : s.run P w = .ok x w := by
  induction s with
  | pure a => simp [look] at h; subst h; rfl
  | program k ih => exact ih P h
  | _ => simp [look] at h

theorem run_bind' {α β : Type} {P : Program} {s : Sem α} {f : α → Sem β} {w w1 : World} {x : α} (h : s.run P w = .ok x w1) : (s >>= f).run P w = (f x).run P w1 := by
  rw [Sem.run_bind, h]; rfl

section
variable {P : Program} {w : World}
theorem cell_of {b : Nat} {C : Array Value} {e : TypeId} {fr : Nat × Nat} (h : w.heap[b]? = some (.cells C e fr)) (o : Nat) (ho : o < C.size) : w.cell? ⟨b, o, none⟩ = some (C.getD o undef) := by
  simp [World.cell?, h, Array.getD, ho]
theorem frozen_of {b : Nat} {C : Array Value} {e : TypeId} {fr : Nat × Nat} (h : w.heap[b]? = some (.cells C e fr)) (hfr : fr.2 ≤ fr.1 ∨ C.size ≤ fr.1) (o : Nat) (ho : o < C.size) : w.frozen? ⟨b, o, none⟩ = false := by
  obtain ⟨lo, hi⟩ := fr
  simp only [World.frozen?, h]
  simp only at hfr
  rcases hfr with hfr | hfr
  · by_cases h1 : lo ≤ o <;> simp [h1]; omega
  · have : ¬ lo ≤ o := by omega
    simp [this]
theorem add_none (b o i : Nat) : (⟨b, o, none⟩ : Addr).add i = ⟨b, o + i, none⟩ := by
  unfold Addr.add; split <;> simp_all

theorem run_loadFrom {b : Nat} {C : Array Value} {e : TypeId} {fr : Nat × Nat} (h : w.heap[b]? = some (.cells C e fr)) (o : Nat) :
    ∀ (n i : Nat) (acc : Array Value), o + i + n ≤ C.size → (loadCellsFrom ⟨b, o, none⟩ i n acc).run P w = .ok (acc ++ C.extract (o + i) (o + i + n)) w := by
  intro n
  induction n with
  | zero =>
    intro i acc _
    have : C.extract (o + i) (o + i + 0) = #[] := by apply Array.eq_empty_of_size_eq_zero; simp; omega
    rw [this]; simp [loadCellsFrom]
  | succ n ih =>
    intro i acc hn
    simp only [loadCellsFrom]
    have hl : (load ((⟨b, o, none⟩ : Addr).add i)).run P w = .ok (C.getD (o + i) undef) w := by
      rw [add_none, run_load, cell_of h (o + i) (by omega)]
    rw [run_bind' hl, ih (i + 1) _ (by omega)]
    congr 1
    apply Array.ext
    · simp; omega
    · intro j h1 h2
      simp only [Array.getElem_append, Array.size_push]
      by_cases hj : j < acc.size
      · simp [hj, Nat.lt_succ_of_lt hj, Array.getElem_push]
      · by_cases hj2 : j = acc.size
        · subst hj2; simp [Array.getElem_push, Array.getD, show o + i < C.size by omega]
        · have h3 : ¬ j < acc.size + 1 := by omega
          simp only [hj, h3, dif_neg, not_false_eq_true, Array.getElem_extract]
          congr 1; omega
theorem run_loadCells {b : Nat} {C : Array Value} {e : TypeId} {fr : Nat × Nat} (h : w.heap[b]? = some (.cells C e fr)) (o n : Nat) (hn : o + n ≤ C.size) :
    (loadCells ⟨b, o, none⟩ n).run P w = .ok (C.extract o (o + n)) w := by
  unfold loadCells
  rw [run_loadFrom h o n 0 #[] (by omega)]
  simp

/-- Cells written over, one behind the other. -/
def splice (C : Array Value) (o : Nat) : List Value → Array Value
  | [] => C
  | v :: r => splice (C.setIfInBounds o v) (o + 1) r
theorem splice_size (l : List Value) : ∀ (C : Array Value) (o : Nat), (splice C o l).size = C.size := by
  induction l with
  | nil => intros; rfl
  | cons v r ih => intro C o; simp [splice, ih]
theorem splice_getD (l : List Value) : ∀ (C : Array Value) (o : Nat), o + l.length ≤ C.size → ∀ i, (splice C o l).getD i undef = if o ≤ i ∧ i < o + l.length then l.getD (i - o) undef else C.getD i undef := by
  induction l with
  | nil => intro C o _ i; simp [splice]; omega
  | cons v r ih =>
    intro C o ho i
    simp only [List.length_cons] at ho
    simp only [splice]
    rw [ih _ _ (by simp; omega)]
    simp only [List.length_cons]
    by_cases h1 : o + 1 ≤ i ∧ i < o + 1 + r.length
    · rw [if_pos h1, if_pos (by omega)]
      obtain ⟨k, hk⟩ : ∃ k, i - o = k + 1 := ⟨i - o - 1, by omega⟩
      rw [hk, show i - (o + 1) = k by omega]; simp
    · rw [if_neg h1]
      by_cases h2 : i = o
      · subst h2
        rw [if_pos (by omega)]
        have : i < C.size := by omega
        simp [Array.getD, this]
      · rw [if_neg (by omega)]
        rw [Array.getD_eq_getD_getElem?, Array.getD_eq_getD_getElem?, Array.getElem?_setIfInBounds_ne (Ne.symm h2)]

theorem run_storeCells (l : List Value) : ∀ (i : Nat) (w : World) (b o : Nat) (C : Array Value) (e : TypeId) (fr : Nat × Nat), w.heap[b]? = some (.cells C e fr) → (fr.2 ≤ fr.1 ∨ C.size ≤ fr.1) →
    o + i + l.length ≤ C.size → (∀ v ∈ l, v.oneCell' = true) →
    (storeCells ⟨b, o, none⟩ l i).run P w = .ok () { w with heap := w.heap.setIfInBounds b (.cells (splice C (o + i) l) e fr) } := by
  induction l with
  | nil =>
    intro i w b o C e fr h _ _ _
    obtain ⟨hb, he⟩ := Array.getElem?_eq_some_iff.1 h
    simp only [storeCells, splice]
    show Result.ok () w = _
    congr 1
    cases w with
    | mk heap tape drawn os output =>
      simp only [World.mk.injEq, and_true]
      simp only at h hb he
      apply Array.ext (by simp)
      intro j h1 h2
      by_cases hj : b = j
      · subst hj; simp [he]
      · exact (Array.getElem_setIfInBounds_ne (by simpa using h2) hj).symm
  | cons v r ih =>
    intro i w b o C e fr h hfr hn hall
    simp only [List.length_cons] at hn
    obtain ⟨hb, he⟩ := Array.getElem?_eq_some_iff.1 h
    have hs : (store ((⟨b, o, none⟩ : Addr).add i) v).run P w = .ok () (w.setCell ⟨b, o + i, none⟩ v) := by
      rw [add_none]
      have hv := hall v (by simp)
      have hc := cell_of h (o + i) (by omega)
      have hf := frozen_of h hfr (o + i) (by omega)
      rw [run_store P w _ v .plain hv, hc]; simp [hf]
    simp only [storeCells]
    rw [run_bind' hs]
    have hset : w.setCell ⟨b, o + i, none⟩ v = { w with heap := w.heap.setIfInBounds b (.cells (C.setIfInBounds (o + i) v) e fr) } := by
      simp only [World.setCell]
      congr 1
      apply Array.ext (by simp)
      intro j h1 h2
      by_cases hj : b = j
      · subst hj; simp [Array.getElem_modify, he]
      · rw [Array.getElem_modify, if_neg hj, Array.getElem_setIfInBounds_ne (by simpa using h2) hj]
    rw [hset, ih (i + 1) _ b o (C.setIfInBounds (o + i) v) e fr (by simp [hb]) (by simpa using hfr) (by simp; omega) (fun x hx => hall x (by simp [hx]))]
    simp only [splice, Array.setIfInBounds_setIfInBounds, Nat.add_assoc]
end
end
end Go.AE

/- Operations that ask no memory. -/
namespace Go.AE
noncomputable section
open Go.RowKit

section
variable {P : Program} {w : World} {β : Inj}

theorem run_typeInfo {t : TypeId} {i : TypeInfo} (h : P.info? t = some i) (w : World) : (typeInfo t).run P w = .ok i w := by
  simp [typeInfo, h]
theorem run_sizeOf {t : TypeId} {i : TypeInfo} (h : P.info? t = some i) (w : World) : (sizeOf t).run P w = .ok i.size w := by
  simp [sizeOf, run_typeInfo h, Result.andThen]
theorem run_zero {t : TypeId} {i : TypeInfo} {z : Value} (h : P.info? t = some i) (hz : i.zero = some z) (w : World) : (zeroValue t).run P w = .ok z w := by
  simp [zeroValue, run_typeInfo h, Result.andThen, hz]

def isAggD : TypeDesc → Bool
  | .struct _ | .array _ _ => true
  | _ => false
theorem run_isAgg {t : TypeId} {d : TypeDesc} (h : P.underlying t = some d) (w : World) : (isAgg t).run P w = .ok (isAggD d) w := by
  cases d <;> simp [isAgg, run_underlying h, Result.andThen, isAggD]

/-! ### values -/
theorem refl_ground (β : Inj) : ∀ (d : Nat) (v : Value), ground d v = true → VR β v v := by
  intro d
  induction d with
  | zero =>
    intro v h
    cases v with
    | bool b => exact .bool b
    | int k n => exact .int k n
    | float k n => exact .float k n
    | string s => exact .string s
    | nilFunc => exact .nilf
    | nilIface => exact .nili
    | pointer a => cases a with
      | none => exact .nilp
      | some a => simp [ground] at h
    | map r => cases r with
      | none => exact .nilm
      | some r => simp [ground] at h
    | slice a l c => cases a with
      | none => exact .nils l c
      | some a => simp [ground] at h
    | func f a c =>
      cases f <;> simp [ground] at h
      obtain ⟨rfl, rfl⟩ := h
      exact .func _ _ _ _ _ _ (.func _) rfl rfl (fun i hi => absurd hi (Nat.not_lt_zero i)) (fun i hi => absurd hi (Nat.not_lt_zero i))
    | _ => simp [ground] at h
  | succ d ih =>
    intro v h
    cases v with
    | bool b => exact .bool b
    | int k n => exact .int k n
    | float k n => exact .float k n
    | string s => exact .string s
    | nilFunc => exact .nilf
    | nilIface => exact .nili
    | pointer a => cases a with
      | none => exact .nilp
      | some a => simp [ground] at h
    | map r => cases r with
      | none => exact .nilm
      | some r => simp [ground] at h
    | slice a l c => cases a with
      | none => exact .nils l c
      | some a => simp [ground] at h
    | func f a c =>
      cases f <;> simp [ground] at h
      obtain ⟨rfl, rfl⟩ := h
      exact .func _ _ _ _ _ _ (.func _) rfl rfl (fun i hi => absurd hi (Nat.not_lt_zero i)) (fun i hi => absurd hi (Nat.not_lt_zero i))
    | iface t x => exact .iface t x x (ih x (by simpa [ground] using h))
    | agg a =>
      have hall : ∀ i (hi : i < a.size), ground d a[i] = true := by simpa [ground, List.all_eq_true] using h
      exact .agg a a rfl fun i hi => ih _ (by simpa [Array.getD, hi] using hall i hi)
    | tuple a =>
      have hall : ∀ i (hi : i < a.size), ground d a[i] = true := by simpa [ground, List.all_eq_true] using h
      exact .tuple a a rfl fun i hi => ih _ (by simpa [Array.getD, hi] using hall i hi)
    | _ => simp [ground] at h

def aeval (tm : List Value) : Operand → Option Value
  | .tmp t => some (lget tm undef t)
  | .const v => if ground 8 v then some v else none
  | .global g => some (.pointer (some ⟨g, 0, some 0⟩))
  | .func f => some (.func (.func f) #[] #[])
theorem toArray_getD (l : List Value) (i : Nat) : l.toArray.getD i undef = l.getD i undef := by
  simp [Array.getD_eq_getD_getElem?, List.getD_eq_getElem?_getD]
theorem aeval_sound {tm : List Value} {a : Act} (h : AR β tm.toArray a.tmps) {x : Operand} {v : Value} (hx : aeval tm x = some v) : VR β v (a.eval x) := by
  cases x with
  | tmp t =>
    simp only [aeval, lget_eq, Option.some.injEq] at hx
    subst hx
    have := h.at t
    rw [toArray_getD] at this
    exact this
  | const c =>
    simp only [aeval] at hx
    split at hx
    · cases hx; exact refl_ground β 8 _ (by assumption)
    · cases hx
  | global g => cases hx; exact .glob g 0
  | func f =>
    cases hx
    exact .func _ _ _ _ _ _ (.func _) rfl rfl (fun i hi => absurd hi (Nat.not_lt_zero i)) (fun i hi => absurd hi (Nat.not_lt_zero i))

theorem AR.extract {a a' : Array Value} (h : AR β a a') (o n : Nat) : AR β (a.extract o n) (a'.extract o n) := by
  refine ⟨by simp [h.1], fun i hi => ?_⟩
  have h1 : i < (a'.extract o n).size := by simpa [← h.1] using hi
  have e1 : (a.extract o n).getD i undef = a.getD (o + i) undef := by
    have : o + i < a.size := by simp at hi; omega
    simp only [Array.getD, hi, this, dif_pos, Array.getInternal_eq_getElem, Array.getElem_extract]
  have e2 : (a'.extract o n).getD i undef = a'.getD (o + i) undef := by
    have : o + i < a'.size := by simp at h1; omega
    simp only [Array.getD, h1, this, dif_pos, Array.getInternal_eq_getElem, Array.getElem_extract]
  rw [e1, e2]
  exact h.at _
theorem AR.get? {a a' : Array Value} (h : AR β a a') {i : Nat} {v : Value} (hv : a[i]? = some v) : ∃ v', a'[i]? = some v' ∧ VR β v v' := by
  obtain ⟨hi, hv⟩ := Array.getElem?_eq_some_iff.1 hv
  have hi' : i < a'.size := h.1 ▸ hi
  refine ⟨a'[i], by simp [hi'], ?_⟩
  have := h.2 i hi
  simpa [Array.getD, hi, hi', hv] using this

/-! ### a part of cells -/
def apart (P : Program) (t : TypeId) (cs : Array Value) (off : Nat) : Option Value :=
  match P.underlying t with
  | none => none
  | some d => if isAggD d then (match P.info? t with | some i => some (.agg (cs.extract off (off + i.size))) | none => none) else cs[off]?
theorem apart_sound {t : TypeId} {cs cs' : Array Value} {off : Nat} {v : Value} (h : AR β cs cs') (hv : apart P t cs off = some v) :
    ∃ v', (∀ w : World, (part t cs' off).run P w = .ok v' w) ∧ VR β v v' := by
  unfold apart at hv
  split at hv
  · cases hv
  · rename_i d hd
    split at hv
    · rename_i ha
      split at hv
      · rename_i i hi
        cases hv
        have hx := h.extract off (off + i.size)
        exact ⟨_, fun w => by simp [part, run_isAgg hd, ha, run_sizeOf hi, Result.andThen], .agg _ _ hx.1 hx.2⟩
      · cases hv
    · rename_i ha
      obtain ⟨v', h1, h2⟩ := h.get? hv
      exact ⟨v', fun w => by simp [part, run_isAgg hd, ha, Result.andThen, h1], h2⟩

def afield (P : Program) (t : TypeId) (v : Value) (f : Nat) : Option Value :=
  match P.underlying t, v with
  | some (.struct fields), .agg cs => (match fields[f]? with | some fd => apart P fd.type cs fd.offset | none => none)
  | _, _ => none
theorem afield_sound {t : TypeId} {x x' v : Value} {f : Nat} (h : VR β x x') (hv : afield P t x f = some v) :
    ∃ v', (∀ w : World, (Instr.field t x' f).run P w = .ok v' w) ∧ VR β v v' := by
  unfold afield at hv
  split at hv
  · rename_i fields cs hd
    split at hv
    · rename_i fd hf
      cases h with
      | agg a a' ha h =>
        obtain ⟨v', h1, h2⟩ := apart_sound ⟨ha, h⟩ hv
        exact ⟨v', fun w => by simp [Instr.field, run_underlying hd, Result.andThen, hf, asAgg, h1], h2⟩
    · cases hv
  · cases hv

def aextract (v : Value) (i : Nat) : Option Value :=
  match v with
  | .tuple vs => vs[i]?
  | _ => none
theorem aextract_sound {x x' v : Value} {i : Nat} (h : VR β x x') (hv : aextract x i = some v) :
    ∃ v', (∀ w : World, (Instr.extract x' i).run P w = .ok v' w) ∧ VR β v v' := by
  unfold aextract at hv
  split at hv
  · cases h with
    | tuple a a' ha h =>
      obtain ⟨v', h1, h2⟩ := AR.get? ⟨ha, h⟩ hv
      exact ⟨v', fun w => by simp [Instr.extract, h1], h2⟩
  · cases hv

def aindex (P : Program) (t : TypeId) (x i : Value) : Option Value :=
  match P.underlying t, x, i with
  | some (.array len e), .agg cs, .int _ n => if 0 ≤ n ∧ n < len then (match P.info? e with | some j => apart P e cs (n.toNat * j.size) | none => none) else none
  | some .string, .string s, .int _ n => if 0 ≤ n then (match s.data[n.toNat]? with | some b => some (.int .u8 b.toNat) | none => none) else none
  | _, _, _ => none
theorem aindex_sound {t : TypeId} {x x' i i' v : Value} (h : VR β x x') (hi : VR β i i') (hv : aindex P t x i = some v) :
    ∃ v', (∀ w : World, (Instr.index t x' i').run P w = .ok v' w) ∧ VR β v v' := by
  unfold aindex at hv
  split at hv
  · rename_i len e cs k n hd
    split at hv
    · rename_i hn
      split at hv
      · rename_i j hj
        cases h with
        | agg a a' ha h =>
          cases hi
          obtain ⟨v', h1, h2⟩ := apart_sound ⟨ha, h⟩ hv
          exact ⟨v', fun w => by simp [Instr.index, asIntOf, run_underlying hd, Result.andThen, hn, run_sizeOf hj, h1], h2⟩
      · cases hv
    · cases hv
  · rename_i s k n hd
    split at hv
    · rename_i hn
      split at hv
      · rename_i b hb
        cases hv
        cases h
        cases hi
        have hb' : s[n.toNat]? = some b := by
          obtain ⟨h1, h2⟩ := Array.getElem?_eq_some_iff.1 hb
          have h3 : n.toNat < s.size := h1
          rw [getElem?_pos s n.toNat h3]
          exact congrArg some h2
        exact ⟨_, fun w => by simp [Instr.index, asIntOf, run_underlying hd, Result.andThen, hn, hb'], .int _ _⟩
      · cases hv
    · cases hv
  · cases hv

/-! ### addresses -/
def afieldAddr (P : Program) (t : TypeId) (v : Value) (f : Nat) : Option Value :=
  match P.underlying t, v with
  | some (.struct fields), .pointer (some ⟨b, o, none⟩) =>
    (match fields[f]? with
     | some fd => (match P.info? fd.type with | some i => if i.size = 0 then none else some (.pointer (some ⟨b, o + fd.offset, none⟩)) | none => none)
     | none => none)
  | _, _ => none
theorem afieldAddr_sound {t : TypeId} {x x' v : Value} {f : Nat} (h : VR β x x') (hv : afieldAddr P t x f = some v) :
    ∃ v', (∀ w : World, (Instr.fieldAt t x' f).run P w = .ok v' w) ∧ VR β v v' := by
  unfold afieldAddr at hv
  split at hv
  · rename_i fields b o hd
    split at hv
    · rename_i fd hf
      split at hv
      · rename_i i hi
        split at hv
        · cases hv
        · rename_i hs
          cases hv
          cases h with
          | ptr b o L h =>
            refine ⟨.pointer (some ⟨L.blk, L.off + o + fd.offset, none⟩), fun w => by simp [Instr.fieldAt, run_underlying hd, Result.andThen, hf, Instr.sureAddr, fieldPlace, run_sizeOf hi, hs, add_none], ?_⟩
            rw [Nat.add_assoc]
            exact .ptr _ _ _ h
      · cases hv
    · cases hv
  · cases hv

def aindexAddr (P : Program) (t : TypeId) (x i : Value) : Option Value :=
  match P.underlying t, x, i with
  | some (.slice e), .slice (some ⟨b, o, none⟩) len _, .int _ n =>
    if 0 ≤ n ∧ n < len then (match P.info? e with | some j => some (.pointer (some ⟨b, o + n.toNat * j.size, none⟩)) | none => none) else none
  | some (.array len e), .pointer (some ⟨b, o, none⟩), .int _ n =>
    if 0 ≤ n ∧ n < len then (match P.info? e with | some j => some (.pointer (some ⟨b, o + n.toNat * j.size, none⟩)) | none => none) else none
  | some (.array len e), .pointer (some ⟨g, o, some 0⟩), .int _ n =>
    if 0 ≤ n ∧ n < len then (match P.info? e with | some j => some (.pointer (some ⟨g, o + n.toNat * j.size, some 0⟩)) | none => none) else none
  | _, _, _ => none
theorem aindexAddr_sound {t : TypeId} {x x' i i' v : Value} (h : VR β x x') (hi : VR β i i') (hv : aindexAddr P t x i = some v) :
    ∃ v', (∀ w : World, (Instr.indexAt t x' i').run P w = .ok v' w) ∧ VR β v v' := by
  unfold aindexAddr at hv
  split at hv
  · rename_i e b o len c k n hd
    split at hv
    · rename_i hn
      split at hv
      · rename_i j hj
        cases hv
        cases hi
        cases h with
        | sl b o l c s L h hs =>
          refine ⟨.pointer (some ⟨L.blk, L.off + o + n.toNat * j.size, none⟩), fun w => by simp [Instr.indexAt, asIntOf, run_underlying hd, Result.andThen, hn, run_sizeOf hj, add_none], ?_⟩
          rw [Nat.add_assoc]
          exact .ptr _ _ _ h
        | slz a a' => exact absurd hn.2 (by have := hn.1; omega)
      · cases hv
    · cases hv
  · rename_i len e b o k n hd
    split at hv
    · rename_i hn
      split at hv
      · rename_i j hj
        cases hv
        cases hi
        cases h with
        | ptr b o L h =>
          refine ⟨.pointer (some ⟨L.blk, L.off + o + n.toNat * j.size, none⟩), fun w => by simp [Instr.indexAt, asIntOf, run_underlying hd, Result.andThen, hn, run_sizeOf hj, add_none, Instr.sureAddr], ?_⟩
          rw [Nat.add_assoc]
          exact .ptr _ _ _ h
      · cases hv
    · cases hv
  · rename_i len e b o k n hd
    split at hv
    · rename_i hn
      split at hv
      · rename_i j hj
        cases hv
        cases hi
        cases h with
        | glob b o =>
          exact ⟨.pointer (some ⟨b, o + n.toNat * j.size, none⟩), fun w => by simp [Instr.indexAt, asIntOf, run_underlying hd, Result.andThen, hn, run_sizeOf hj, add_none, Instr.sureAddr], .glob _ _⟩
      · cases hv
    · cases hv
  · cases hv
end
end
end Go.AE

/- Operations on rows: load, store, new rows; slices; comparisons. -/
namespace Go.AE
noncomputable section
open Go.RowKit

section
variable {P : Program} {w0 w : World} {β : Inj} {h : AH}

/-- The computation comes to a value that is the abstract one, in a world that holds the abstract heap. -/
def VOK (P : Program) (w0 : World) (β : Inj) (s : Sem Value) (w : World) (v : Value) (h : AH) : Prop :=
  ∃ v' w' β', s.run P w = .ok v' w' ∧ Inj.le β β' ∧ VR β' v v' ∧ WR w0 β' h w'
def UOK (P : Program) (w0 : World) (β : Inj) (s : Sem Unit) (w : World) (h : AH) : Prop :=
  ∃ w' β', s.run P w = .ok () w' ∧ Inj.le β β' ∧ WR w0 β' h w'
theorem VOK.same {s : Sem Value} {v : Value} (hw : WR w0 β h w) (hs : ∃ v', s.run P w = .ok v' w ∧ VR β v v') : VOK P w0 β s w v h := by
  obtain ⟨v', h1, h2⟩ := hs
  exact ⟨v', w, β, h1, Inj.le.refl _, h2, hw⟩

/-- What is known of a row. -/
theorem WR.row {b : Nat} {c : List Value} {z : Nat} {lo : Bool} (hw : WR w0 β h w) (hb : h.get b = some (.row c z lo)) :
    ∃ (L : Loc) (C : Array Value) (e : TypeId) (fr : Nat × Nat), β b = some L ∧ w.heap[L.blk]? = some (.cells C e fr) ∧ L.len = c.length ∧ L.esz = z ∧ C.size = L.off + L.len + L.ext ∧
      (lo = false → L.ext = 0) ∧ (fr.2 = fr.1 ∨ C.size ≤ fr.1) ∧ (∀ i, i < c.length → VR β (c.getD i undef) (C.getD (L.off + i) undef)) ∧ w0.heap.size ≤ L.blk := by
  obtain ⟨L, O, h1, h2, h3, h4⟩ := hw.obj b _ hb
  cases h3 with
  | row c z lo C e fr hl hz hC hx hfr h => exact ⟨L, C, e, fr, h1, h2, hl, hz, hC, hx, hfr, h, h4⟩

theorem getD_extract (a : Array Value) (o n i : Nat) (hi : i < n) (hn : o + n ≤ a.size) : (a.extract o (o + n)).getD i undef = a.getD (o + i) undef := by
  have h1 : i < (a.extract o (o + n)).size := by simp; omega
  have h2 : o + i < a.size := by omega
  simp only [Array.getD, h1, h2, dif_pos, Array.getInternal_eq_getElem, Array.getElem_extract]
theorem getD_takeDrop (c : List Value) (o n i : Nat) (hi : i < n) : (((c.drop o).take n).toArray).getD i undef = c.getD (o + i) undef := by
  rw [toArray_getD]
  simp [List.getD_eq_getElem?_getD, List.getElem?_take, hi, List.getElem?_drop]

/-! ### load -/
def aload (P : Program) (h : AH) (t : TypeId) (v : Value) : Option Value :=
  match v with
  | .pointer (some ⟨b, o, none⟩) =>
    (match h.get b with
     | some (.row c _ _) =>
       (match P.underlying t with
        | none => none
        | some d => if isAggD d then (match P.info? t with | some i => if o + i.size ≤ c.length then some (.agg ((c.drop o).take i.size).toArray) else none | none => none)
                    else c[o]?)
     | _ => none)
  | .pointer (some ⟨g, o, some 0⟩) =>
    (match assoc h.gl g, P.underlying t with
     | some c, some d => if isAggD d then none else (match c[o]? with | some v => if known v then some v else none | none => none)
     | _, _ => none)
  | _ => none
theorem aload_sound {t : TypeId} {x x' v : Value} (hw : WR w0 β h w) (hx : VR β x x') (hv : aload P h t x = some v) : ∃ v', (Instr.loadAt t x').run P w = .ok v' w ∧ VR β v v' := by
  unfold aload at hv
  split at hv
  · rename_i b o
    split at hv
    · rename_i c z lo hb
      obtain ⟨L, C, e, fr, h1, h2, hl, hz, hC, hx', hfr, hc, _⟩ := hw.row hb
      cases hx with
      | ptr b o M hM =>
        rw [h1] at hM; cases hM
        split at hv
        · cases hv
        · rename_i d hd
          split at hv
          · rename_i ha
            split at hv
            · rename_i i hi
              split at hv
              · rename_i hle
                cases hv
                have hb2 : L.off + o + i.size ≤ C.size := by omega
                refine ⟨.agg (C.extract (L.off + o) (L.off + o + i.size)), ?_, ?_⟩
                · simp [Instr.loadAt, Instr.sureAddr, Result.andThen, loadVar, run_isAgg hd, ha, run_sizeOf hi, run_loadCells h2 _ _ hb2]
                · refine .agg _ _ (by simp; omega) fun k hk => ?_
                  have hk' : k < i.size := by simp at hk; omega
                  rw [getD_takeDrop _ _ _ _ hk', getD_extract _ _ _ _ hk' hb2, Nat.add_assoc]
                  exact hc _ (by omega)
              · cases hv
            · cases hv
          · rename_i ha
            obtain ⟨ho, hv⟩ := List.getElem?_eq_some_iff.1 hv
            refine ⟨C.getD (L.off + o) undef, ?_, ?_⟩
            · simp [Instr.loadAt, Instr.sureAddr, Result.andThen, loadVar, run_isAgg hd, ha, cell_of h2 (L.off + o) (by omega)]
            · have := hc o ho
              rwa [List.getD_eq_getElem?_getD, List.getElem?_eq_getElem ho, Option.getD_some, hv] at this
    · cases hv
  · rename_i g o
    split at hv
    · rename_i c d hg hd
      split at hv
      · cases hv
      · rename_i ha
        cases hx with
        | glob g o =>
          obtain ⟨C, e, fr, k2, k3, k5⟩ := hw.glob g c hg
          have hlt := (Array.getElem?_eq_some_iff.1 k2).1
          have k4 : w.heap[g]? = some (.cells C e fr) := by rw [hw.below.block g hlt]; exact k2
          split at hv
          · rename_i u hu
            split at hv
            · rename_i hkn
              cases hv
              have hv := hu
              obtain ⟨ho, hv⟩ := List.getElem?_eq_some_iff.1 hv
              have ho' : o < C.size := by rw [k3]; exact ho
              refine ⟨C.getD o undef, ?_, ?_⟩
              · simp [Instr.loadAt, Instr.sureAddr, Result.andThen, loadVar, run_isAgg hd, ha, cell_of k4 o ho']
              · have e1 : c.getD o undef = v := by rw [List.getD_eq_getElem?_getD, List.getElem?_eq_getElem ho, Option.getD_some, hv]
                have := k5 o ho (by rw [e1]; exact hkn) β
                rwa [e1] at this
            · cases hv
          · cases hv
    · cases hv
  · cases hv

/-! ### store -/
def lsplice (c : List Value) (o : Nat) (l : List Value) : List Value := c.take o ++ l ++ c.drop (o + l.length)
theorem lsplice_length {c : List Value} {o : Nat} {l : List Value} (hn : o + l.length ≤ c.length) : (lsplice c o l).length = c.length := by
  simp [lsplice]; omega
theorem lsplice_getD {c : List Value} {o : Nat} {l : List Value} (hn : o + l.length ≤ c.length) (i : Nat) : (lsplice c o l).getD i undef = if o ≤ i ∧ i < o + l.length then l.getD (i - o) undef else c.getD i undef := by
  simp only [lsplice, List.getD_eq_getElem?_getD]
  by_cases h1 : i < o
  · rw [if_neg (by omega), List.append_assoc, List.getElem?_append_left (by simp; omega), List.getElem?_take, if_pos h1]
  · by_cases h2 : i < o + l.length
    · rw [if_pos (by omega), List.append_assoc, List.getElem?_append_right (by simp; omega), List.getElem?_append_left (by simp; omega)]
      congr 2; simp; omega
    · rw [if_neg (by omega), List.getElem?_append_right (by simp; omega), List.getElem?_drop]
      congr 2; simp; omega

def oneCells (l : List Value) : Bool := l.all Value.oneCell'
theorem VR.oneCell {v v' : Value} (hv : VR β v v') : v'.oneCell' = v.oneCell' := by cases hv <;> rfl
theorem AR.oneCells {a a' : Array Value} (hr : AR β a a') (ha : oneCells a.toList = true) : ∀ v ∈ a'.toList, v.oneCell' = true := by
  intro v hv
  obtain ⟨i, hi, rfl⟩ := List.mem_iff_getElem.1 hv
  have hi' : i < a'.size := by simpa using hi
  have h2 : i < a.size := hr.1 ▸ hi'
  have h3 := hr.2 i h2
  have e1 : a.getD i undef = a[i] := by simp [Array.getD, h2]
  have e2 : a'.getD i undef = a'[i] := by simp [Array.getD, hi']
  rw [e1, e2] at h3
  have h4 := h3.oneCell
  have h5 : a[i].oneCell' = true := by
    have := (List.all_eq_true.1 ha) a[i] (by simp)
    exact this
  simpa [h5] using h4

def astore (P : Program) (h : AH) (t : TypeId) (v x : Value) : Option AH :=
  match v with
  | .pointer (some ⟨b, o, none⟩) =>
    (match h.get b, P.info? t with
     | some (.row c z lo), some i =>
       if x.cells.size = i.size ∧ o + i.size ≤ c.length ∧ oneCells x.cells.toList then some (h.put b (.row (lsplice c o x.cells.toList) z lo)) else none
     | _, _ => none)
  | _ => none

theorem store_row {b o : Nat} {c l : List Value} {z : Nat} {lo : Bool} {a' : Array Value} (hw : WR w0 β h w) (hb : h.get b = some (.row c z lo)) {L : Loc} (hL : β b = some L)
    (hr : AR β l.toArray a') (hn : o + l.length ≤ c.length) (h1 : oneCells l = true) :
    ∃ w', (storeCells ⟨L.blk, L.off + o, none⟩ a'.toList).run P w = .ok () w' ∧ WR w0 β (h.put b (.row (lsplice c o l) z lo)) w' := by
  obtain ⟨M, C, e, fr, k1, k2, hl, hz, hC, hx', hfr, hc, _⟩ := hw.row hb
  rw [hL] at k1; cases k1
  have hsz : a'.toList.length = l.length := by have := hr.1; simp at this ⊢; omega
  have hrun := run_storeCells (P := P) a'.toList 0 w L.blk (L.off + o) C e fr k2 (hfr.imp Nat.le_of_eq id) (by omega) (hr.oneCells (by simpa using h1))
  refine ⟨_, hrun, hw.put hb hL (.row _ z lo _ e fr (by rw [lsplice_length hn]; exact hl) hz (by rw [splice_size]; exact hC) hx' (by rw [splice_size]; exact hfr) fun i hi => ?_)⟩
  rw [lsplice_length hn] at hi
  rw [lsplice_getD hn, splice_getD _ _ _ (by omega), hsz]
  by_cases hin : o ≤ i ∧ i < o + l.length
  · rw [if_pos hin, if_pos (by omega)]
    have := hr.2 (i - o) (by simp; omega)
    rw [toArray_getD] at this
    rw [show L.off + i - (L.off + o + 0) = i - o by omega, ← toArray_getD a'.toList]
    simpa using this
  · rw [if_neg hin, if_neg (by omega)]
    exact hc i hi

theorem astore_sound {t : TypeId} {x x' v v' : Value} {h' : AH} (hw : WR w0 β h w) (hp : VR β v v') (hx : VR β x x') (hv : astore P h t v x = some h') : UOK P w0 β (Instr.storeAt t v' x') w h' := by
  unfold astore at hv
  split at hv
  · rename_i b o
    split at hv
    · rename_i c z lo i hb hi
      split at hv
      · rename_i hcond
        obtain ⟨c1, c2, c3⟩ := hcond
        cases hv
        cases hp with
        | ptr b o L hL =>
          have hr := AR.cells hx
          obtain ⟨w', hrun, hw'⟩ := store_row (P := P) (o := o) (l := x.cells.toList) (a' := x'.cells) hw hb hL (by simpa using hr) (by simp; omega) c3
          refine ⟨w', β, ?_, Inj.le.refl _, hw'⟩
          have hs : x'.cells.size = i.size := by rw [← hr.1]; exact c1
          simp [Instr.storeAt, Instr.sureAddr, Result.andThen, storeVar, run_sizeOf hi, hs, hrun]
      · cases hv
    · cases hv
  · cases hv

/-! ### new rows -/
theorem new_row {c : List Value} {C : Array Value} {e : TypeId} {z : Nat} (hw : WR w0 β h w) (hr : AR β c.toArray C) :
    ∃ β', Inj.le β β' ∧ β' h.next = some ⟨w.heap.size, 0, c.length, z, 0⟩ ∧ WR w0 β' (h.new (.row c z false)) (w.alloc (.cells C e)) := by
  have hle : Inj.le β (β.add h.next ⟨w.heap.size, 0, c.length, z, 0⟩) := Inj.add_le (hw.fresh _ (Nat.le_refl _))
  have ho : OR (β.add h.next ⟨w.heap.size, 0, c.length, z, 0⟩) ⟨w.heap.size, 0, c.length, z, 0⟩ (.row c z false) (.cells C e (0, 0)) := by
    refine .row c z false C e (0, 0) rfl rfl ?_ (fun _ => rfl) (.inl rfl) fun i hi => ?_
    · have := hr.1; simp at this; simp; omega
    · have := (hr.2 i (by simpa using hi)).mono hle
      rw [toArray_getD] at this
      simpa using this
  obtain ⟨h1, h2⟩ := hw.new rfl ho
  exact ⟨_, h2, Inj.add_at, h1⟩

def abox (P : Program) (h : AH) (t : TypeId) (v : Value) : Option (Value × AH) :=
  if oneCells v.cells.toList then some (.pointer (some ⟨h.next, 0, none⟩), h.new (.row v.cells.toList v.cells.size false)) else none
theorem abox_sound {t : TypeId} {x x' v : Value} {h' : AH} (hw : WR w0 β h w) (hx : VR β x x') (hv : abox P h t x = some (v, h')) : VOK P w0 β (Instr.box t x') w v h' := by
  unfold abox at hv
  split at hv
  · cases hv
    have hr := AR.cells hx
    obtain ⟨β', h1, h2, h3⟩ := new_row (e := t) (z := x.cells.size) (c := x.cells.toList) (C := x'.cells) hw (by simpa using hr)
    refine ⟨.pointer (some ⟨w.heap.size, 0, none⟩), w.alloc (.cells x'.cells t), β', ?_, h1, VR.ptr _ _ _ h2, h3⟩
    simp [Instr.box, newVar, newRow, Result.andThen]
  · cases hv

def aalloc (P : Program) (h : AH) (t : TypeId) : Option (Value × AH) :=
  match P.info? t with
  | some i => (match i.zero with | some z => if ground 8 z && oneCells z.cells.toList then some (.pointer (some ⟨h.next, 0, none⟩), h.new (.row z.cells.toList z.cells.size false)) else none | none => none)
  | none => none
theorem aalloc_sound {t : TypeId} {v : Value} {h' : AH} (hw : WR w0 β h w) (hv : aalloc P h t = some (v, h')) : VOK P w0 β (Instr.alloc t true (.tuple #[])) w v h' := by
  unfold aalloc at hv
  split at hv
  · rename_i i hi
    split at hv
    · rename_i z hz
      split at hv
      · rename_i hg
        cases hv
        have hg' : ground 8 z = true := by simp at hg; exact hg.1
        have hr := AR.cells (refl_ground β 8 z hg')
        obtain ⟨β', h1, h2, h3⟩ := new_row (e := t) (z := z.cells.size) (c := z.cells.toList) (C := z.cells) hw (by simpa using hr)
        refine ⟨.pointer (some ⟨w.heap.size, 0, none⟩), w.alloc (.cells z.cells t), β', ?_, h1, VR.ptr _ _ _ h2, h3⟩
        simp [Instr.alloc, run_zero hi hz, newVar, newRow, Result.andThen]
      · cases hv
    · cases hv
  · cases hv

/-! ### slices of slices and strings -/
def abound (v : Option Value) (most dflt : Nat) : Option Nat :=
  match v with
  | none => some dflt
  | some (.int _ n) => if 0 ≤ n ∧ n ≤ most then some n.toNat else none
  | _ => none
def optInt : Option Value → Bool
  | none => true
  | some (.int _ _) => true
  | _ => false
/-- The three bounds. -/
def abounds (len cap : Nat) (lo hi mx : Option Value) : Option (Nat × Nat × Nat) :=
  match mx.isSome && hi.isNone with
  | true => none
  | false =>
    match abound mx cap cap with
    | none => none
    | some m => (match abound hi m len with
      | none => none
      | some hh => (match abound lo hh 0 with | none => none | some l => some (l, hh, m)))

def OVR (β : Inj) : Option Value → Option Value → Prop
  | none, none => True
  | some v, some v' => VR β v v'
  | _, _ => False

theorem run_bound {v : Value} {most dflt k : Nat} {code : BoundsCode} (hb : abound (some v) most dflt = some k) (most' : Nat) (hm : most ≤ most') : (Instr.sliceBound v most' code).run P w = .ok k w ∧ k ≤ most := by
  unfold abound at hb
  split at hb
  · rename_i heq; cases heq
  · rename_i n heq
    cases heq
    split at hb
    · rename_i hn
      cases hb
      refine ⟨?_, by omega⟩
      rw [run_sliceBound _ _ _ _ _ hn.1 (by omega)]
    · cases hb
  · cases hb

theorem abounds_run {isS : Bool} {len cap s : Nat} {lo hi mx : Option Value} {l hh m : Nat} (hb : abounds len cap lo hi mx = some (l, hh, m)) (hlen : hi = none → len ≤ cap) :
    (Instr.sliceBounds isS len (cap + s) lo hi mx).run P w = .ok (l, hh, if mx = none then cap + s else m) w ∧ l ≤ hh ∧ (mx = none → m = cap) ∧ hh ≤ m ∧ m ≤ cap := by
  unfold abounds at hb
  split at hb
  · cases hb
  · rename_i hc
    split at hb
    · cases hb
    · rename_i m' hm
      split at hb
      · cases hb
      · rename_i h' hh'
        split at hb
        · cases hb
        · rename_i l' hl'
          cases hb
          cases mx with
          | none =>
            simp only [abound, Option.some.injEq] at hm
            subst hm
            cases hi with
            | none =>
              simp only [abound, Option.some.injEq] at hh'
              subst hh'
              cases lo with
              | none =>
                simp only [abound, Option.some.injEq] at hl'
                subst hl'
                exact ⟨by simp [Instr.sliceBounds, Result.andThen], Nat.zero_le _, fun _ => rfl, hlen rfl, Nat.le_refl _⟩
              | some vl =>
                have r1 := fun code => run_bound (P := P) (w := w) (code := code) hl' len (Nat.le_refl _)
                exact ⟨by simp [Instr.sliceBounds, Result.andThen, (r1 _).1], (r1 .sliceB).2, fun _ => rfl, hlen rfl, Nat.le_refl _⟩
            | some vh =>
              have r0 := fun code => run_bound (P := P) (w := w) (code := code) hh' (cap + s) (by omega)
              cases lo with
              | none =>
                simp only [abound, Option.some.injEq] at hl'
                subst hl'
                exact ⟨by simp [Instr.sliceBounds, Result.andThen, (r0 _).1], Nat.zero_le _, fun _ => rfl, (r0 .sliceB).2, Nat.le_refl _⟩
              | some vl =>
                have r1 := fun code => run_bound (P := P) (w := w) (code := code) hl' hh (Nat.le_refl _)
                exact ⟨by simp [Instr.sliceBounds, Result.andThen, (r0 _).1, (r1 _).1], (r1 .sliceB).2, fun _ => rfl, (r0 .sliceB).2, Nat.le_refl _⟩
          | some vm =>
            have rm := fun code => run_bound (P := P) (w := w) (code := code) hm (cap + s) (by omega)
            cases hi with
            | none => simp at hc
            | some vh =>
              have r0 := fun code => run_bound (P := P) (w := w) (code := code) hh' m (Nat.le_refl _)
              cases lo with
              | none =>
                simp only [abound, Option.some.injEq] at hl'
                subst hl'
                exact ⟨by simp [Instr.sliceBounds, Result.andThen, (rm _).1, (r0 _).1], Nat.zero_le _, (fun h => by cases h), (r0 .sliceB).2, (rm .sliceB).2⟩
              | some vl =>
                have r1 := fun code => run_bound (P := P) (w := w) (code := code) hl' hh (Nat.le_refl _)
                exact ⟨by simp [Instr.sliceBounds, Result.andThen, (rm _).1, (r0 _).1, (r1 _).1], (r1 .sliceB).2, (fun h => by cases h), (r0 .sliceB).2, (rm .sliceB).2⟩

def aslice (P : Program) (h : AH) (t : TypeId) (x : Value) (lo hi mx : Option Value) : Option Value :=
  if optInt lo && optInt hi && optInt mx then
    match P.underlying t, x with
    | some .string, .string s =>
      if mx.isSome then none else (match abounds s.size s.size lo hi none with | some (l, hh, _) => some (.string (s.extract l hh)) | none => none)
    | some (.slice e), .slice (some ⟨b, o, none⟩) len cap =>
      if len ≤ cap then
      (match abounds len cap lo hi mx, P.info? e with
       | some (l, hh, m), some j =>
         (match h.get b with
          | some (.row _ z loose) =>
            if loose = false ∨ (z = j.size) then
              (if mx = none then some (.slice (some ⟨b, o + l * j.size, none⟩) (hh - l) (cap - l))
               else if m = l then some (.slice (some ⟨b, o, none⟩) (hh - l) 0) else some (.slice (some ⟨b, o + l * j.size, none⟩) (hh - l) (m - l)))
            else none
          | _ => none)
       | _, _ => none)
      else none
    | some (.slice e), .slice none 0 0 =>
      (match abounds 0 0 lo hi mx, P.info? e with | some (l, hh, m), some _ => some (.slice none 0 0) | _, _ => none)
    | some (.array n e), .pointer (some ⟨b, o, none⟩) =>
      (match abounds n n lo hi none, P.info? e with
       | some (l, hh, m), some j => if mx.isSome then none else if m = l then some (.slice (some ⟨b, o, none⟩) (hh - l) 0) else some (.slice (some ⟨b, o + l * j.size, none⟩) (hh - l) (m - l))
       | _, _ => none)
    | _, _ => none
  else none

theorem ovr_int {lo lo' : Option Value} (hr : OVR β lo lo') (hi : optInt lo = true) : lo = lo' := by
  cases lo with
  | none => cases lo' with
    | none => rfl
    | some _ => cases hr
  | some v => cases lo' with
    | none => cases hr
    | some v' =>
      cases v <;> simp [optInt] at hi
      cases hr; rfl

theorem aslice_sound {t : TypeId} {x x' v : Value} {lo lo' hi hi' mx mx' : Option Value} (hw : WR w0 β h w) (hx : VR β x x') (hlo : OVR β lo lo') (hhi : OVR β hi hi') (hmx : OVR β mx mx')
    (hv : aslice P h t x lo hi mx = some v) : ∃ v', (Instr.sliceAt t x' lo' hi' mx').run P w = .ok v' w ∧ VR β v v' := by
  unfold aslice at hv
  split at hv
  · rename_i hints
    simp only [Bool.and_eq_true] at hints
    obtain rfl := ovr_int hlo hints.1.1
    obtain rfl := ovr_int hhi hints.1.2
    obtain rfl := ovr_int hmx hints.2
    split at hv
    · rename_i s hd
      split at hv
      · cases hv
      · rename_i hmn
        have hmn' : mx = none := by cases mx <;> simp_all
        subst hmn'
        split at hv
        · rename_i l hh m hb
          cases hv
          cases hx
          obtain ⟨r1, _⟩ := abounds_run (P := P) (w := w) (isS := false) (s := 0) hb (fun _ => Nat.le_refl _)
          exact ⟨.string (s.extract l hh), by simp [Instr.sliceAt, Instr.slice, run_underlying hd, Result.andThen] at r1 ⊢; simp [r1], .string _⟩
        · cases hv
    · rename_i e b o len cap hd
      split at hv
      · rename_i hlc
        split at hv
        · rename_i l hh m j hb hj
          split at hv
          · rename_i c z loose hrow
            split at hv
            · rename_i hz
              obtain ⟨L, C, e', fr, k1, k2, hl, hez, hC, hxt, _, _, _⟩ := hw.row hrow
              cases hx with
              | slz a a' =>
                -- no element, no room
                obtain ⟨r1, r2, r3, r4, r5⟩ := abounds_run (P := P) (w := w) (isS := true) (s := 0) hb (fun _ => hlc)
                have e1 : m = 0 := by omega
                have e2 : hh = 0 := by omega
                have e3 : l = 0 := by omega
                subst e1 e2 e3
                have hm0 : (if mx = none then 0 + 0 else 0) = 0 := by split <;> rfl
                rw [hm0] at r1
                refine ⟨.slice (some a') 0 0, by simp [Instr.sliceAt, Instr.slice, run_underlying hd, Result.andThen, run_sizeOf hj] at r1 ⊢; simp [r1], ?_⟩
                by_cases hmx0 : mx = none
                · simp only [hmx0, if_true, Option.some.injEq] at hv; subst hv; exact .slz _ _
                · simp only [hmx0, if_false, if_true, Option.some.injEq] at hv; subst hv; exact .slz _ _
              | sl b o l' c' s M hM hs =>
                rw [k1] at hM; cases hM
                obtain ⟨r1, r2, r3, r4, r5⟩ := abounds_run (P := P) (w := w) (isS := true) (s := s) hb (fun _ => hlc)
                by_cases hmx0 : mx = none
                · subst hmx0
                  simp only [if_true, Option.some.injEq] at hv
                  subst hv
                  have hm := r3 rfl
                  subst hm
                  simp only [if_true] at r1
                  by_cases hfull : m + s = l
                  · -- nothing is left, and no spare room
                    have e1 : s = 0 := by omega
                    have e2 : l = m := by omega
                    subst e1 e2
                    refine ⟨.slice (some ⟨L.blk, L.off + o, none⟩) (hh - l) 0, ?_, ?_⟩
                    · simp [Instr.sliceAt, Instr.slice, run_underlying hd, Result.andThen, run_sizeOf hj] at r1 ⊢; simp [r1]
                    · have : hh - l = 0 := by omega
                      rw [this, Nat.sub_self]; exact .slz _ _
                  · refine ⟨.slice (some ⟨L.blk, L.off + (o + l * j.size), none⟩) (hh - l) (m - l + s), ?_, ?_⟩
                    · simp [Instr.sliceAt, Instr.slice, run_underlying hd, Result.andThen, run_sizeOf hj] at r1 ⊢
                      simp [r1, hfull, add_none, Nat.add_assoc]; omega
                    · refine .sl _ _ _ _ _ _ k1 ?_
                      rcases hs with hs | ⟨h1, h2, h3⟩
                      · exact .inl hs
                      · by_cases hs0 : s = 0
                        · exact .inl hs0
                        · refine .inr ⟨?_, h2, h3⟩
                          have hj' : z = j.size := by
                            rcases hz with hz | hz
                            · have := hxt hz
                              have : 0 < s * L.esz := Nat.mul_pos (by omega) h3
                              omega
                            · exact hz
                          rw [hez, hj'] at h1 ⊢
                          have : l * j.size + (m - l) * j.size = m * j.size := by rw [← Nat.add_mul]; congr 1; omega
                          omega
                · simp only [hmx0, if_false] at hv r1
                  split at hv
                  · rename_i hml
                    cases hv
                    subst hml
                    refine ⟨.slice (some ⟨L.blk, L.off + o, none⟩) (hh - m) 0, ?_, ?_⟩
                    · simp [Instr.sliceAt, Instr.slice, run_underlying hd, Result.andThen, run_sizeOf hj] at r1 ⊢; simp [r1]
                    · have := VR.sl (β := β) b o (hh - m) 0 0 L k1 (.inl rfl)
                      simpa using this
                  · rename_i hml
                    cases hv
                    refine ⟨.slice (some ⟨L.blk, L.off + (o + l * j.size), none⟩) (hh - l) (m - l), ?_, ?_⟩
                    · simp [Instr.sliceAt, Instr.slice, run_underlying hd, Result.andThen, run_sizeOf hj] at r1 ⊢
                      simp [r1, hml, add_none, Nat.add_assoc]
                    · have := VR.sl (β := β) b (o + l * j.size) (hh - l) (m - l) 0 L k1 (.inl rfl)
                      simpa using this
            · cases hv
          · cases hv
        · cases hv
      · cases hv
    · rename_i e hd
      split at hv
      · rename_i l hh m i hb hi
        cases hv
        cases hx
        obtain ⟨r1, r2, r3, r4, r5⟩ := abounds_run (P := P) (w := w) (isS := true) (s := 0) hb (fun _ => Nat.le_refl _)
        have e1 : m = 0 := by omega
        have e2 : hh = 0 := by omega
        have e3 : l = 0 := by omega
        subst e1 e2 e3
        have hm0 : (if mx = none then 0 + 0 else 0) = 0 := by split <;> rfl
        rw [hm0] at r1
        exact ⟨.slice none 0 0, by simp [Instr.sliceAt, Instr.slice, run_underlying hd, Result.andThen, run_sizeOf hi] at r1 ⊢; simp [r1], .nils _ _⟩
      · cases hv
    · rename_i n e b o hd
      split at hv
      · rename_i l hh m j hb hj
        split at hv
        · cases hv
        · rename_i hmn
          have hmn' : mx = none := by cases mx <;> simp_all
          subst hmn'
          cases hx with
          | ptr b o L hL =>
            obtain ⟨r1, r2, r3, r4, r5⟩ := abounds_run (P := P) (w := w) (isS := false) (s := 0) hb (fun _ => Nat.le_refl _)
            have hm := r3 rfl
            subst hm
            split at hv
            · rename_i hml
              cases hv
              subst hml
              refine ⟨.slice (some ⟨L.blk, L.off + o, none⟩) (hh - m) 0, ?_, ?_⟩
              · simp [Instr.sliceAt, Instr.sureAddr, run_underlying hd, Result.andThen, run_sizeOf hj] at r1 ⊢; simp [r1]
              · have := VR.sl (β := β) b o (hh - m) 0 0 L hL (.inl rfl)
                simpa using this
            · rename_i hml
              cases hv
              refine ⟨.slice (some ⟨L.blk, L.off + (o + l * j.size), none⟩) (hh - l) (m - l), ?_, ?_⟩
              · simp [Instr.sliceAt, Instr.sureAddr, run_underlying hd, Result.andThen, run_sizeOf hj] at r1 ⊢
                simp [r1, hml, add_none, Nat.add_assoc]
              · have := VR.sl (β := β) b (o + l * j.size) (hh - l) (m - l) 0 L hL (.inl rfl)
                simpa using this
      · cases hv
    · cases hv
  · cases hv
end
end
end Go.AE

/- Comparisons, arithmetic, conversions, values built of parts, new slices and maps. -/
namespace Go.AE
noncomputable section
open Go.RowKit

section
variable {P : Program} {w0 w : World} {β : Inj} {h : AH}

/-! ### operators -/
def astrop (op : BinOp) (a b : ByteArray) : Option Value :=
  match op with
  | .add => if a.data.size + b.data.size ≤ 1000000 then some (.string (a ++ b)) else none
  | .eql => some (.bool (a.data.toList == b.data.toList))
  | .neq => some (.bool (!(a.data.toList == b.data.toList)))
  | .lss => some (.bool (Op.bytesLess a.data.toList b.data.toList))
  | .leq => some (.bool (Op.bytesLess a.data.toList b.data.toList || (a.data.toList == b.data.toList)))
  | .gtr => some (.bool (!(Op.bytesLess a.data.toList b.data.toList || (a.data.toList == b.data.toList))))
  | .geq => some (.bool (!(Op.bytesLess a.data.toList b.data.toList)))
  | _ => none
theorem astrop_sound {op : BinOp} {a b : ByteArray} {v : Value} (hv : astrop op a b = some v) : (Op.stringOp op a b).run P w = .ok v w := by
  unfold astrop at hv
  cases op <;> simp only [Option.some.injEq, reduceCtorEq] at hv <;> first
    | (subst hv; simp [Op.stringOp, ByteArray.toList_eq])
    | skip
  split at hv
  · rename_i hs
    cases hv
    have : ¬ (((a.size + b.size : Nat) : Int) > IntKind.i64.max) := by
      have h1 : a.size + b.size ≤ 1000000 := hs
      have : IntKind.i64.max = 9223372036854775807 := by decide
      omega
    simp only [Op.stringOp]
    rw [if_neg this]
    rfl
  · cases hv

/-- Are the two, of which the one is nil and the other not, equal? No. -/
def anil (d : Option TypeDesc) (x y : Value) : Bool :=
  match d, x, y with
  | some (.pointer _), .pointer none, .pointer (some _) | some (.pointer _), .pointer (some _), .pointer none => true
  | some (.slice _), .slice none _ _, .slice (some _) _ _ | some (.slice _), .slice (some _) _ _, .slice none _ _ => true
  | some (.map _ _), .map none, .map (some _) | some (.map _ _), .map (some _), .map none => true
  | some (.func _ _ _), .nilFunc, .func _ _ _ | some (.func _ _ _), .func _ _ _, .nilFunc => true
  | _, _, _ => false
theorem anil_rel {d : Option TypeDesc} {x x' y y' : Value} (hx : VR β x x') (hy : VR β y y') (hn : anil d x y = true) : anil d x' y' = true := by
  unfold anil at hn
  split at hn <;> first
    | (cases hx <;> cases hy <;> rfl)
    | cases hn
theorem anil_run' (d : Nat) {t : TypeId} {x y : Value} (hn : anil (P.underlying t) x y = true) : (Op.equalIn (d + 1) t x y).run P w = .ok false w := by
  unfold anil at hn
  split at hn <;> first
    | cases hn; done
    | (rename_i hd; simp [Op.equalIn, run_underlying hd, Result.andThen])
theorem anil_run {t : TypeId} {x y : Value} (hn : anil (P.underlying t) x y = true) : (Op.equal t x y).run P w = .ok false w := anil_run' 9999 hn

def abin (P : Program) (op : BinOp) (t : TypeId) (xo yo : Operand) (x y : Value) : Option Value :=
  match x, y with
  | .string a, .string b => astrop op a b
  | x, y =>
    if ground 8 x && ground 8 y then
      (match look P (do eqGuard op t xo yo x y; binOp op t x y) with
       | some v => if ground 8 v then some v else none
       | none => none)
    else match op with
    | .eql => if anil (P.underlying t) x y then some (.bool false) else none
    | .neq => if anil (P.underlying t) x y then some (.bool true) else none
    | _ => none
theorem eqGuard_nil {op : BinOp} {t : TypeId} {xo yo : Operand} {x y : Value} (hn : anil (P.underlying t) x y = true) : (eqGuard op t xo yo x y).run P w = .ok () w := by
  unfold anil at hn
  split at hn <;> first
    | cases hn; done
    | (cases op <;> simp [eqGuard])
theorem binOp_eq {op : BinOp} (ho : op = .eql ∨ op = .neq) {t : TypeId} {x y : Value} (hn : anil (P.underlying t) x y = true) :
    (binOp op t x y).run P w = .ok (.bool (match op with | .eql => false | _ => true)) w := by
  have hr := anil_run (w := w) hn
  unfold anil at hn
  rcases ho with rfl | rfl <;>
  (split at hn <;> first
    | cases hn; done
    | (simp [binOp, hr, Result.andThen]))
theorem abin_sound {op : BinOp} {t : TypeId} {xo yo : Operand} {x x' y y' v : Value} (hx : VR β x x') (hy : VR β y y') (hv : abin P op t xo yo x y = some v) :
    ∃ v', (∀ w : World, (do eqGuard op t xo yo x' y'; binOp op t x' y').run P w = .ok v' w) ∧ VR β v v' := by
  unfold abin at hv
  split at hv
  · rename_i a b
    cases hx; cases hy
    refine ⟨v, ?_, ?_⟩
    · intro w
      have h1 : (eqGuard op t xo yo (.string a) (.string b)).run P w = .ok () w := by cases op <;> simp [eqGuard]
      rw [Sem.run_bind, h1]
      show (binOp op t (.string a) (.string b)).run P w = _
      have h2 : binOp op t (.string a) (.string b) = Op.stringOp op a b := by cases op <;> rfl
      rw [h2]
      exact astrop_sound hv
    · unfold astrop at hv
      cases op <;> simp only [Option.some.injEq, reduceCtorEq] at hv <;> first
        | (subst hv; exact .bool _)
        | (split at hv <;> cases hv; exact .string _)
  · split at hv
    · rename_i hg
      simp only [Bool.and_eq_true] at hg
      rw [hx.ground 8 hg.1, hy.ground 8 hg.2]
      split at hv
      · rename_i u hl
        split at hv
        · rename_i hgu
          cases hv
          exact ⟨_, fun w => look_run _ hl w, refl_ground β 8 _ hgu⟩
        · cases hv
      · cases hv
    · split at hv
      · split at hv
        · rename_i hn
          cases hv
          have hn' := anil_rel hx hy hn
          refine ⟨.bool false, ?_, .bool _⟩
          intro w
          rw [Sem.run_bind, eqGuard_nil hn']
          exact binOp_eq (.inl rfl) hn'
        · cases hv
      · split at hv
        · rename_i hn
          cases hv
          have hn' := anil_rel hx hy hn
          refine ⟨.bool true, ?_, .bool _⟩
          intro w
          rw [Sem.run_bind, eqGuard_nil hn']
          exact binOp_eq (.inr rfl) hn'
        · cases hv
      · cases hv

/-- A computation over values without addresses. -/
def aground (P : Program) (xs : List Value) (s : Sem Value) : Option Value :=
  if xs.all (ground 8) then (match look P s with | some v => if ground 8 v then some v else none | none => none) else none
theorem aground_sound {xs : List Value} {s : Sem Value} {v : Value} (hv : aground P xs s = some v) : xs.all (ground 8) = true ∧ (∀ w : World, s.run P w = .ok v w) ∧ VR β v v := by
  unfold aground at hv
  split at hv
  · rename_i hg
    split at hv
    · rename_i u hl
      split at hv
      · rename_i hgu
        cases hv
        exact ⟨hg, fun w => look_run _ hl w, refl_ground β 8 _ hgu⟩
      · cases hv
    · cases hv
  · cases hv

/-! ### strings and bytes -/
def byteVals (s : ByteArray) : List Value := s.data.toList.map fun b => .int .u8 b.toNat
def aconv (P : Program) (h : AH) (src dst : TypeId) (x : Value) : Option (Value × AH) :=
  match P.underlying src, P.underlying dst, x with
  | some .string, some (.slice e), .string s =>
    (match P.underlying e with
     | some (.int .u8) => if s.data.size ≤ 1000000 then some (.slice (some ⟨h.next, 0, none⟩) s.data.size s.data.size, h.new (.row (byteVals s) 1 true)) else none
     | _ => none)
  | some (.slice e), some .string, .slice (some ⟨b, o, none⟩) len _ =>
    (match P.underlying e, h.get b with
     | some (.int .u8), some (.row c _ _) =>
       if o + len ≤ c.length then
         (match ((c.drop o).take len).mapM (fun v => match v with | .int .u8 n => some n | _ => none) with
          | some ns => some (.string (ns.foldl (fun r n => r.push (UInt8.ofNat n.toNat)) ByteArray.empty), h)
          | none => none)
       else none
     | _, _ => none)
  | some (.slice _), some (.slice e), .slice (some ⟨b, o, none⟩) l c =>
    (match P.underlying e, h.get b with
     | some (.int .u8), some (.row cs z lo) => if src = dst ∧ 0 < c then some (.slice (some ⟨b, o, none⟩) l c, h.put b (.row cs z lo)) else none
     | _, _ => none)
  | _, _, x => (match aground P [x] (convert src dst x) with | some v => some (v, h) | none => none)

theorem mapM_rel {l : List Value} {ns : List Int} (hm : l.mapM (fun v => match v with | .int .u8 n => some n | _ => none) = some ns) : l = ns.map (Value.int .u8) := by
  induction l generalizing ns with
  | nil => simp at hm; subst hm; rfl
  | cons v r ih =>
    simp only [List.mapM_cons, Option.bind_eq_bind, Option.bind_eq_some_iff] at hm
    obtain ⟨n, h1, ns', h2, h3⟩ := hm
    split at h1
    · cases h1; cases h3
      rw [ih h2]; rfl
    · cases h1

theorem loose_new {c : List Value} {C : Array Value} {e : TypeId} {fr : Nat × Nat} {z x : Nat} (hw : WR w0 β h w) (hC : C.size = c.length + x) (hfr : fr.2 = fr.1 ∨ C.size ≤ fr.1)
    (hr : ∀ i, i < c.length → VR β (c.getD i undef) (C.getD i undef)) :
    ∃ β', Inj.le β β' ∧ β' h.next = some ⟨w.heap.size, 0, c.length, z, x⟩ ∧ WR w0 β' (h.new (.row c z true)) (w.alloc (.cells C e fr)) := by
  have hle : Inj.le β (β.add h.next ⟨w.heap.size, 0, c.length, z, x⟩) := Inj.add_le (hw.fresh _ (Nat.le_refl _))
  have ho : OR (β.add h.next ⟨w.heap.size, 0, c.length, z, x⟩) ⟨w.heap.size, 0, c.length, z, x⟩ (.row c z true) (.cells C e fr) := by
    refine .row c z true C e fr rfl rfl (by simp [hC]) (fun hh => by cases hh) hfr fun i hi => ?_
    have := (hr i hi).mono hle
    simpa using this
  obtain ⟨h1, h2⟩ := hw.new rfl ho
  exact ⟨_, h2, Inj.add_at, h1⟩

theorem aconv_sound {src dst : TypeId} {x x' v : Value} {h' : AH} (hw : WR w0 β h w) (hx : VR β x x') (hv : aconv P h src dst x = some (v, h')) : VOK P w0 β (convert src dst x') w v h' := by
  unfold aconv at hv
  split at hv
  · rename_i e s hs hd
    cases hx
    split at hv
    · rename_i he
      split at hv
      · rename_i hsz
        cases hv
        have hcap : s.size ≤ grownCap w s.size 0 e := by unfold grownCap; show s.size ≤ s.size + _; omega
        have hCs : (bytesRow s (grownCap w s.size 0 e)).size = s.data.size + (grownCap w s.size 0 e - s.size) := by
          simp only [bytesRow, Array.size_append, Array.size_map, Array.size_replicate]
        have hbl : (byteVals s).length = s.data.size := by simp [byteVals]
        have hW : WR w0 β h w.drew := hw.drew
        obtain ⟨β', h1, h2, h3⟩ := loose_new (e := e) (z := 1) (x := grownCap w s.size 0 e - s.size) (c := byteVals s) (C := bytesRow s (grownCap w s.size 0 e))
          (fr := ((bytesRow s (grownCap w s.size 0 e)).size, (bytesRow s (grownCap w s.size 0 e)).size + 1)) hW (by rw [hCs, hbl]) (.inr (Nat.le_refl _)) (fun i hi => by
            rw [hbl] at hi
            have e1 : (byteVals s).getD i undef = .int .u8 (s.data[i]).toNat := by
              have h0 : s.data[i]? = some s.data[i] := Array.getElem?_eq_getElem hi
              simp [byteVals, List.getD_eq_getElem?_getD, h0]
            have e2 : (bytesRow s (grownCap w s.size 0 e)).getD i undef = .int .u8 (s.data[i]).toNat := by
              have h0 : s.data[i]? = some s.data[i] := Array.getElem?_eq_getElem hi
              rw [Array.getD_eq_getD_getElem?, bytesRow, Array.getElem?_append_left (by simpa using hi), Array.getElem?_map, h0]
              rfl
            rw [e1, e2]
            exact .int _ _)
        refine ⟨_, _, β', run_bytes_of_string w src dst e s hs hd he, h1, ?_, h3⟩
        have := VR.sl (β := β') h.next 0 s.data.size s.data.size (grownCap w s.size 0 e - s.size) _ h2 (.inr ⟨by simp [hbl], by simp, by simp⟩)
        have hz : s.data.size = s.size := rfl
        rw [hz] at this ⊢
        rw [show s.size + (grownCap w s.size 0 e - s.size) = grownCap w s.size 0 e by omega] at this
        simpa using this
      · cases hv
    · cases hv
  · rename_i e b o len cap hs hd
    split at hv
    · rename_i c z lo he hb
      split at hv
      · rename_i hn
        split at hv
        · rename_i ns hm
          cases hv
          obtain ⟨L, C, e', fr, k1, k2, hl, hz, hC, _, _, hc, _⟩ := hw.row hb
          have hns := mapM_rel hm
          have hlen : ns.length = len := by
            have := congrArg List.length hns
            simp at this; omega
          have ground_int : ∀ k, k < len → ∀ v', VR β ((c.drop o).take len |>.getD k undef) v' → v' = Value.int .u8 (ns.getD k 0) := fun k hk v' hv' => by
            rw [hns] at hv'
            have : (ns.map (Value.int .u8)).getD k undef = .int .u8 (ns.getD k 0) := by
              simp [List.getD_eq_getElem?_getD, show k < ns.length by omega]
            rw [this] at hv'
            cases hv'; rfl
          cases hx with
          | slz a a' =>
            have h0 : ns = [] := List.eq_nil_of_length_eq_zero hlen
            subst h0
            refine ⟨.string ByteArray.empty, w, β, ?_, Inj.le.refl _, .string _, hw⟩
            simp only [convert, Sem.run_bind, run_underlying hs, run_underlying hd, run_underlying he, Result.andThen]
            exact run_bytesToString w a' 0 0 [] (by simp [loadCells, loadCellsFrom])
          | sl b o len c' s M hM hs' =>
            rw [k1] at hM; cases hM
            refine ⟨_, w, β, ?_, Inj.le.refl _, .string _, hw⟩
            simp only [convert, Sem.run_bind, run_underlying hs, run_underlying hd, run_underlying he, Result.andThen]
            refine run_bytesToString w _ len _ ns ?_
            rw [run_loadCells k2 _ _ (by omega)]
            congr 1
            apply Array.ext
            · simp; omega
            · intro k h1 h2
              have hk : k < len := by simp at h2; omega
              have hvr := hc (o + k) (by omega)
              have e1 : ((c.drop o).take len).getD k undef = c.getD (o + k) undef := by
                simp [List.getD_eq_getElem?_getD, List.getElem?_take, hk, List.getElem?_drop]
              rw [← e1] at hvr
              have := ground_int k hk _ hvr
              have e2 : (C.extract (L.off + o) (L.off + o + len))[k] = (C.extract (L.off + o) (L.off + o + len)).getD k undef := by simp only [Array.getD, h1, dif_pos, Array.getInternal_eq_getElem]
              rw [e2, getD_extract _ _ _ _ hk (by omega), Nat.add_assoc, this]
              simp [List.getD_eq_getElem?_getD, show k < ns.length by omega]
        · cases hv
      · cases hv
    · cases hv
  · rename_i e0 e b o l c hs hd
    split at hv
    · rename_i cs z lo he hb
      split at hv
      · rename_i hcond
        obtain ⟨hsd, hc0⟩ := hcond
        subst hsd
        cases hv
        obtain ⟨L, C, e', fr, k1, k2, hl, hz, hC, hx0, hfr, hc, _⟩ := hw.row hb
        cases hx with
        | slz a a' => omega
        | sl b o len c' s M hM hs' =>
          rw [k1] at hM; cases hM
          have hput : WR w0 β (h.put b (.row cs z lo)) (w.freeze ⟨L.blk, C.size, none⟩ 1) := by
            have e1 : w.freeze ⟨L.blk, C.size, none⟩ 1 = { w with heap := w.heap.setIfInBounds L.blk (.cells C e' (if fr.1 == fr.2 then (C.size, C.size + 1) else (min fr.1 C.size, max fr.2 (C.size + 1)))) } := by
              obtain ⟨hlt, hel⟩ := Array.getElem?_eq_some_iff.1 k2
              have : w.heap.modify L.blk (fun | .cells c elem (lo, hi) => .cells c elem (if lo == hi then (C.size, C.size + 1) else (min lo C.size, max hi (C.size + 1))) | o => o) = w.heap.setIfInBounds L.blk (.cells C e' (if fr.1 == fr.2 then (C.size, C.size + 1) else (min fr.1 C.size, max fr.2 (C.size + 1)))) := by
                apply Array.ext (by simp)
                intro i h1 h2
                rw [Array.getElem_modify]
                by_cases hi : L.blk = i
                · subst hi
                  simp [hel]
                · rw [if_neg hi, Array.getElem_setIfInBounds_ne (by simpa using h1) hi]
              simp only [World.freeze]
              rw [if_neg (by decide)]
              rw [← this]
              rfl
            rw [e1]
            refine hw.put hb k1 (.row cs z lo C e' _ hl hz hC hx0 ?_ hc)
            right
            split
            · exact Nat.le_refl _
            · rename_i hne
              rcases hfr with hq | hq
              · rw [hq] at hne; simp at hne
              · show C.size ≤ min fr.1 C.size
                omega
          refine ⟨_, _, β, ?_, Inj.le.refl _, .sl b o l c s L k1 hs', hput⟩
          have hsh : w.shape? L.blk = some (e', C.size) := by simp [World.shape?, k2]
          have hd' : P.underlying src = some (.slice e) := hd
          rw [hs] at hd'
          cases hd'
          simp [convert, run_underlying hs, run_underlying he, Result.andThen, markStringish, hsh]
      · cases hv
    · cases hv
  · split at hv
    · rename_i u hg
      cases hv
      obtain ⟨g1, g2, g3⟩ := aground_sound (β := β) hg
      rw [hx.ground 8 (by simpa using g1)]
      exact ⟨v, w, β, g2 w, Inj.le.refl _, g3, hw⟩
    · cases hv
end
end
end Go.AE

/- Values built of parts; new slices; append, copy, len. -/
namespace Go.AE
noncomputable section
open Go.RowKit

section
variable {P : Program} {w0 w : World} {β : Inj} {h : AH}

/-! ### filling -/
def PR (β : Inj) (p p' : Nat × Value) : Prop := p.1 = p'.1 ∧ VR β p.2 p'.2
inductive PRs (β : Inj) : List (Nat × Value) → List (Nat × Value) → Prop
  | nil : PRs β [] []
  | cons {p p' : Nat × Value} {l l' : List (Nat × Value)} (h : PR β p p') (t : PRs β l l') : PRs β (p :: l) (p' :: l')

theorem AR.set {a a' : Array Value} (hr : AR β a a') (i : Nat) {v v' : Value} (hv : VR β v v') : AR β (a.setIfInBounds i v) (a'.setIfInBounds i v') := by
  refine ⟨by simp [hr.1], fun k hk => ?_⟩
  simp only [Array.size_setIfInBounds] at hk
  rw [Array.getD_eq_getD_getElem?, Array.getD_eq_getD_getElem?, Array.getElem?_setIfInBounds, Array.getElem?_setIfInBounds]
  by_cases e : i = k
  · subst e
    have h2 : i < a'.size := hr.1 ▸ hk
    simp [hk, h2, hv]
  · simp only [e, if_false]
    rw [← Array.getD_eq_getD_getElem?, ← Array.getD_eq_getD_getElem?]
    exact hr.2 k hk

theorem foldl_set (off : Nat) : ∀ (l l' : List (Value × Nat)) (a a' : Array Value), l.length = l'.length → (∀ i (h1 : i < l.length) (h2 : i < l'.length), l[i].2 = l'[i].2 ∧ VR β l[i].1 l'[i].1) → AR β a a' →
    AR β (l.foldl (fun cs (p : Value × Nat) => cs.setIfInBounds (off + p.2) p.1) a) (l'.foldl (fun cs (p : Value × Nat) => cs.setIfInBounds (off + p.2) p.1) a') := by
  intro l
  induction l with
  | nil =>
    intro l' a a' hl _ hr
    cases l' with
    | nil => exact hr
    | cons _ _ => simp at hl
  | cons p r ih =>
    intro l' a a' hl hp hr
    cases l' with
    | nil => simp at hl
    | cons p' r' =>
      have h0 := hp 0 (by simp) (by simp)
      simp only [List.getElem_cons_zero] at h0
      simp only [List.foldl_cons]
      rw [← h0.1]
      exact ih r' _ _ (by simpa using hl) (fun i h1 h2 => hp (i + 1) (by simpa using h1) (by simpa using h2)) (hr.set _ h0.2)

theorem fill_rel (place : Nat → Option (Nat × Nat)) : ∀ (l l' : List (Nat × Value)) (a a' r : Array Value), PRs β l l' → AR β a a' → Instr.fill place a l = some r →
    ∃ r', Instr.fill place a' l' = some r' ∧ AR β r r' := by
  intro l
  induction l with
  | nil =>
    intro l' a a' r hl hr hf
    cases hl
    simp only [Instr.fill, Option.some.injEq] at hf ⊢
    subst hf
    exact ⟨a', rfl, hr⟩
  | cons p t ih =>
    intro l' a a' r hl hr hf
    cases hl with
    | cons hp ht =>
      rename_i p' t'
      obtain ⟨i, v⟩ := p
      obtain ⟨i', v'⟩ := p'
      obtain ⟨e1, e2⟩ := hp
      simp only at e1 e2
      subst e1
      have hc := AR.cells e2
      simp only [Instr.fill] at hf ⊢
      cases hpl : place i with
      | none => simp [hpl] at hf
      | some q =>
        obtain ⟨off, size⟩ := q
        simp only [hpl] at hf ⊢
        rw [← hc.1, ← hr.1]
        split at hf
        · cases hf
        · rename_i hcond
          rw [if_neg hcond]
          refine ih t' _ _ r ht ?_ hf
          have hl := foldl_set (β := β) off v.cells.toList.zipIdx v'.cells.toList.zipIdx a a' (by simp [hc.1]) (fun k h1 h2 => by
            simp only [List.getElem_zipIdx, Nat.zero_add, true_and]
            have hk : k < v.cells.size := by simpa using h1
            have hk' : k < v'.cells.size := by simpa using h2
            have := hc.2 k hk
            simpa [Array.getD, hk, hk'] using this) hr
          rw [← Array.foldl_toList, ← Array.foldl_toList, Array.toList_zipIdx, Array.toList_zipIdx]
          exact hl

def aparts (tm : List Value) : List (Nat × Operand) → Option (List (Nat × Value))
  | [] => some []
  | (i, x) :: r => match aeval tm x, aparts tm r with
    | some v, some l => some ((i, v) :: l)
    | _, _ => none
theorem aparts_sound {tm : List Value} {a : Act} (ha : AR β tm.toArray a.tmps) : ∀ (l : List (Nat × Operand)) (r : List (Nat × Value)), aparts tm l = some r → PRs β r (l.map fun (i, x) => (i, a.eval x)) := by
  intro l
  induction l with
  | nil => intro r hr; simp only [aparts, Option.some.injEq] at hr; subst hr; exact .nil
  | cons p t ih =>
    intro r hr
    obtain ⟨i, x⟩ := p
    simp only [aparts] at hr
    split at hr
    · rename_i v l hv hl
      cases hr
      exact .cons ⟨rfl, aeval_sound ha hv⟩ (ih l hl)
    · cases hr

/-- The places of a struct's fields. -/
def aplaces (P : Program) : List Field → Option (List (Nat × Nat))
  | [] => some []
  | f :: r => match P.info? f.type, aplaces P r with
    | some i, some l => some ((f.offset, i.size) :: l)
    | _, _ => none
theorem aplaces_run (fs : List Field) : ∀ (l : List (Nat × Nat)), aplaces P fs = some l → (fs.mapM (m := Sem) fun f => do pure (f.offset, ← sizeOf f.type)).run P w = .ok l w := by
  induction fs with
  | nil => intro l hl; simp only [aplaces, Option.some.injEq] at hl; subst hl; simp
  | cons f r ih =>
    intro l hl
    simp only [aplaces] at hl
    split at hl
    · rename_i i l' hi hl'
      cases hl
      have := ih l' hl'
      simp only [List.mapM_cons, Sem.run_bind, run_sizeOf hi, Result.andThen, this, Sem.run_pure, bind_assoc, pure_bind] at this ⊢
    · cases hl

def abuild (P : Program) (t : TypeId) (parts : List (Nat × Value)) : Option Value :=
  match P.underlying t, P.info? t with
  | some (.struct fields), some i =>
    (match i.zero, aplaces P fields.toList with
     | some z, some places => if ground 8 z then (match Instr.fill (places.toArray[·]?) z.cells parts with | some cs => some (.agg cs) | none => none) else none
     | _, _ => none)
  | some (.array _ e), some i =>
    (match i.zero, P.info? e with
     | some z, some j => if ground 8 z then (match Instr.fill (fun k => some (k * j.size, j.size)) z.cells parts with | some cs => some (.agg cs) | none => none) else none
     | _, _ => none)
  | _, _ => none
theorem abuild_sound {t : TypeId} {parts : List (Nat × Value)} {parts' : Array (Nat × Value)} {v : Value} (hp : PRs β parts parts'.toList) (hv : abuild P t parts = some v) :
    ∃ v', (∀ w : World, (Instr.build t parts').run P w = .ok v' w) ∧ VR β v v' := by
  unfold abuild at hv
  split at hv
  · rename_i fields i hd hi
    split at hv
    · rename_i z places hz hpl
      split at hv
      · rename_i hg
        split at hv
        · rename_i cs hf
          cases hv
          obtain ⟨r', h1, h2⟩ := fill_rel _ _ _ _ _ _ hp (AR.cells (refl_ground β 8 z hg)) hf
          refine ⟨.agg r', fun w => ?_, .agg _ _ h2.1 h2.2⟩
          have hm : (fields.mapM (m := Sem) fun f => do pure (f.offset, ← sizeOf f.type)).run P w = .ok places.toArray w := by
            rw [Array.mapM_eq_mapM_toList]
            simp only [Sem.run_map, aplaces_run fields.toList places hpl, Result.andThen]
          simp only [Instr.build, Sem.run_bind, run_zero hi hz, run_underlying hd, Result.andThen]
          simp only [Sem.run_bind, hm, Result.andThen, h1]
          rfl
        · cases hv
      · cases hv
    · cases hv
  · rename_i n e i hd hi
    split at hv
    · rename_i z j hz hj
      split at hv
      · rename_i hg
        split at hv
        · rename_i cs hf
          cases hv
          obtain ⟨r', h1, h2⟩ := fill_rel _ _ _ _ _ _ hp (AR.cells (refl_ground β 8 z hg)) hf
          refine ⟨.agg r', fun w => ?_, .agg _ _ h2.1 h2.2⟩
          simp only [Instr.build, Sem.run_bind, run_zero hi hz, run_underlying hd, Result.andThen]
          simp only [Sem.run_bind, run_sizeOf hj, Result.andThen, h1]
          rfl
        · cases hv
      · cases hv
    · cases hv
  · cases hv
end
end
end Go.AE

/- New slices; append, copy, len. -/
namespace Go.AE
noncomputable section
open Go.RowKit

section
variable {P : Program} {w0 w : World} {β : Inj} {h : AH}

/-- The cells of so many zero values. -/
def azeros (z : List Value) : Nat → List Value
  | 0 => []
  | n + 1 => z ++ azeros z n
theorem azeros_length (z : List Value) (n : Nat) : (azeros z n).length = n * z.length := by
  induction n with
  | zero => simp [azeros]
  | succ n ih => simp [azeros, ih, Nat.succ_mul]; omega
theorem azeros_get (z : List Value) (n : Nat) : ∀ i, i < n * z.length → (azeros z n)[i]? = z[i % z.length]? := by
  induction n with
  | zero => intro i hi; simp at hi
  | succ n ih =>
    intro i hi
    rw [Nat.succ_mul] at hi
    simp only [azeros]
    by_cases h1 : i < z.length
    · rw [List.getElem?_append_left h1, Nat.mod_eq_of_lt h1]
    · rw [List.getElem?_append_right (by omega), ih _ (by omega)]
      congr 1
      rw [← Nat.mod_eq_sub_mod (by omega)]
theorem zeros_rel {z : Value} (n : Nat) (hg : ground 8 z = true) : AR β (azeros z.cells.toList n).toArray ((Array.range (n * z.cells.size)).map (fun i => z.cells[i % z.cells.size]!)) := by
  have hc := AR.cells (refl_ground β 8 z hg)
  refine ⟨by simp [azeros_length], fun i hi => ?_⟩
  have hi' : i < n * z.cells.size := by simpa [azeros_length] using hi
  have hp : 0 < z.cells.size := by rcases Nat.eq_zero_or_pos z.cells.size with h0 | h0; · rw [h0] at hi'; omega
                                   · exact h0
  have hm : i % z.cells.size < z.cells.size := Nat.mod_lt _ hp
  have e1 : (azeros z.cells.toList n).toArray.getD i undef = z.cells.getD (i % z.cells.size) undef := by
    rw [toArray_getD, List.getD_eq_getElem?_getD, azeros_get _ _ _ (by simpa using hi'), Array.getD_eq_getD_getElem?]
    simp
  have e2 : ((Array.range (n * z.cells.size)).map (fun i => z.cells[i % z.cells.size]!)).getD i undef = z.cells.getD (i % z.cells.size) undef := by
    rw [Array.getD_eq_getD_getElem?, Array.getElem?_map, Array.getElem?_range]
    simp [hi', Array.getD, hm]
  rw [e1, e2]
  exact hc.2 _ hm

def amakeSlice (P : Program) (h : AH) (t : TypeId) (l c : Value) : Option (Value × AH) :=
  match P.underlying t, l, c with
  | some (.slice e), .int _ n, .int _ m =>
    (match P.info? e with
     | some i => (match i.zero with
       | some z =>
         if 0 ≤ n ∧ n ≤ m ∧ m ≤ 1000000 ∧ i.bytes ≤ 1000000 ∧ ground 8 z = true ∧ z.cells.size = i.size ∧ oneCells z.cells.toList = true then
           some (.slice (some ⟨h.next, 0, none⟩) n.toNat m.toNat, h.new (.row (azeros z.cells.toList m.toNat) i.size false))
         else none
       | none => none)
     | none => none)
  | _, _, _ => none
theorem amakeSlice_sound {t : TypeId} {l l' c c' v : Value} {h' : AH} (hw : WR w0 β h w) (hl : VR β l l') (hc : VR β c c') (hv : amakeSlice P h t l c = some (v, h')) : VOK P w0 β (Instr.makeSlice t l' c') w v h' := by
  unfold amakeSlice at hv
  split at hv
  · rename_i e k n k' m hd
    cases hl; cases hc
    split at hv
    · rename_i i hi
      split at hv
      · rename_i z hz
        split at hv
        · rename_i hcond
          obtain ⟨c1, c2, c3, c4, c5, c6, c7⟩ := hcond
          cases hv
          have hr := zeros_rel (β := β) (z := z) m.toNat c5
          rw [c6] at hr
          obtain ⟨β', h1, h2, h3⟩ := new_row (e := e) (z := i.size) hw hr
          refine ⟨.slice (some ⟨w.heap.size, 0, none⟩) n.toNat m.toNat, _, β', ?_, h1, ?_, h3⟩
          · have w1 : IntKind.i64.wrap n = n := IntWalk.i64_in n (by omega)
            have w2 : IntKind.i64.wrap m = m := IntWalk.i64_in m (by omega)
            have hb : (i.bytes : Int) * m ≤ 281474976710656 := by
              have h1 : (i.bytes : Int) * m ≤ 1000000 * 1000000 := Int.mul_le_mul (by omega) (by omega) (by omega) (by omega)
              omega
            have t1 : ¬ (m < 0 ∨ (281474976710656 : Int) < (i.bytes : Int) * m) := by omega
            have t2 : ¬ (n < 0) := by omega
            have t3 : ¬ (m < n) := by omega
            have hzero : (if m.toNat * i.size = 0 then (pure #[] : Sem (Array Value)) else do pure (← zeroValue e).cells).run P w = .ok (if m.toNat * i.size = 0 then #[] else z.cells) w := by
              split
              · rfl
              · simp [run_zero hi hz, Result.andThen]
            simp only [Instr.makeSlice, Sem.run_bind, run_underlying hd, Result.andThen, asInt, asIntOf, Sem.run_pure, run_typeInfo hi, w1, w2]
            rw [if_neg (by simp; omega)]
            by_cases h0 : m.toNat * i.size = 0
            · simp [run_askRoom, Result.andThen, run_sizeOf hi, newRow, h0]
              have hr0 : Array.range 0 = #[] := rfl
              rw [hr0]; simp
            · simp [run_askRoom, Result.andThen, run_sizeOf hi, newRow, h0, run_zero hi hz, c6]
          · have := VR.sl (β := β') h.next 0 n.toNat m.toNat 0 _ h2 (.inl rfl)
            simpa using this
        · cases hv
      · cases hv
    · cases hv
  · cases hv

def abuildSlice (P : Program) (h : AH) (t : TypeId) (len : Nat) (parts : List (Nat × Value)) : Option (Value × AH) :=
  match P.underlying t with
  | some (.slice e) =>
    (match P.info? e with
     | some i => if len = 0 then (match parts with
         | [] => some (.slice (some ⟨h.next, 0, none⟩) 0 0, h.new (.row [] i.size false))
         | _ => none) else (match i.zero with
       | some z =>
         if len * i.size ≤ 16777216 ∧ 0 < len * i.size ∧ ground 8 z = true ∧ z.cells.size = i.size then
           (match Instr.fill (fun k => some (k * i.size, i.size)) (azeros z.cells.toList len).toArray parts with
            | some cs => if oneCells cs.toList then some (.slice (some ⟨h.next, 0, none⟩) len len, h.new (.row cs.toList i.size false)) else none
            | none => none)
         else none
       | none => none)
     | none => none)
  | _ => none
theorem abuildSlice_sound {t : TypeId} {len : Nat} {parts : List (Nat × Value)} {parts' : Array (Nat × Value)} {v : Value} {h' : AH} (hw : WR w0 β h w) (hp : PRs β parts parts'.toList)
    (hv : abuildSlice P h t len parts = some (v, h')) : VOK P w0 β (Instr.buildSlice t len parts') w v h' := by
  unfold abuildSlice at hv
  split at hv
  · rename_i e hd
    split at hv
    · rename_i i hi
      split at hv
      · rename_i hl0
        subst hl0
        split at hv
        · cases hv
          have hp0 : parts'.toList = [] := by
            cases hq : parts'.toList with
            | nil => rfl
            | cons _ _ => rw [hq] at hp; cases hp
          obtain ⟨β', k1, k2, k3⟩ := new_row (c := []) (C := #[]) (e := e) (z := i.size) hw ⟨rfl, fun i hi => absurd hi (Nat.not_lt_zero _)⟩
          refine ⟨.slice (some ⟨w.heap.size, 0, none⟩) 0 0, _, β', ?_, k1, .slz _ _, k3⟩
          have hr0 : Array.range 0 = #[] := rfl
          simp [Instr.buildSlice, run_underlying hd, Result.andThen, run_sizeOf hi, hp0, Instr.fill, newRow, hr0]
        · cases hv
      split at hv
      · rename_i z hz
        split at hv
        · rename_i hcond
          obtain ⟨c1, c2, c3, c4⟩ := hcond
          split at hv
          · rename_i cs hf
            split at hv
            · rename_i hone
              cases hv
              have hr := zeros_rel (β := β) (z := z) len c3
              rw [c4] at hr
              obtain ⟨r', h1, h2⟩ := fill_rel _ _ _ _ _ _ hp hr hf
              obtain ⟨β', k1, k2, k3⟩ := new_row (c := cs.toList) (C := r') (e := e) (z := i.size) hw (by simpa using h2)
              refine ⟨.slice (some ⟨w.heap.size, 0, none⟩) len len, _, β', ?_, k1, ?_, k3⟩
              · have t1 : ¬ (len * i.size > 2 ^ 24) := by omega
                have t2 : ¬ (len * i.size = 0) := by omega
                have h1' : Instr.fill (fun k => some (k * i.size, i.size)) ((Array.range (len * i.size)).map fun x => z.cells[x % z.cells.size]!) parts'.toList = some r' := by rw [c4]; exact h1
                simp only [Instr.buildSlice, Sem.run_bind, run_underlying hd, Result.andThen, run_sizeOf hi]
                rw [if_neg t1, if_neg t2]
                simp only [Sem.run_bind, run_zero hi hz, Result.andThen, Sem.run_pure, h1', newRow, run_newObj]
                rfl
              · have := VR.sl (β := β') h.next 0 len len 0 _ k2 (.inl rfl)
                simpa using this
            · cases hv
          · cases hv
        · cases hv
      · cases hv
    · cases hv
  · cases hv

/-! ### len -/
def alen (P : Program) (h : AH) (t : TypeId) (x : Value) : Option Value :=
  match P.underlying t, x with
  | some .string, .string s => some (goInt s.data.size)
  | some (.slice _), .slice _ n _ => some (goInt n)
  | some (.array n _), _ => some (goInt n)
  | some (.map _ _), .map none => some (goInt 0)
  | some (.map _ _), .map (some r) => (match h.get r with | some (.map es _) => some (goInt es.length) | _ => none)
  | _, _ => none
theorem alen_sound {t ty : TypeId} {x x' v : Value} (hw : WR w0 β h w) (hx : VR β x x') (hv : alen P h t x = some v) : ∃ v', (Builtin.len_ #[t] ty #[x']).run P w = .ok v' w ∧ VR β v v' := by
  unfold alen at hv
  split at hv
  · rename_i s hd
    cases hv; cases hx
    exact ⟨goInt s.size, by simp [Builtin.len_, run_underlying hd, Result.andThen], .int _ _⟩
  · rename_i n _ hd
    cases hv
    cases hx <;> exact ⟨goInt _, by simp [Builtin.len_, run_underlying hd, Result.andThen], .int _ _⟩
  · rename_i n _ hd
    cases hv
    exact ⟨goInt n, by simp [Builtin.len_, run_underlying hd, Result.andThen], .int _ _⟩
  · rename_i hd
    cases hv; cases hx
    exact ⟨goInt 0, by simp [Builtin.len_, run_underlying hd, Result.andThen], .int _ _⟩
  · rename_i r hd
    split at hv
    · rename_i es ck hb
      cases hv
      obtain ⟨L, O, h1, h2, h3, _⟩ := hw.obj r _ hb
      cases hx with
      | map b M hM =>
        rw [h1] at hM; cases hM
        cases h3 with
        | map es ck ES hs he =>
          refine ⟨goInt ES.size, by simp [Builtin.len_, run_underlying hd, Result.andThen, getObj, Sem.run, h2], ?_⟩
          rw [hs]; exact .int _ _
    · cases hv
  · cases hv
end
end
end Go.AE
