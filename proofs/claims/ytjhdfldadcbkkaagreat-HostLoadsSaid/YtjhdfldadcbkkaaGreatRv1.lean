/- A part of the evaluator of the model's code, or of its tables: what is proved is said in the claim's last text. -/
import Derived.WalkKit
namespace Go.Rv

/-! ## Shadow values, objects, heaps -/

inductive SV where
  | int (k : IntKind) (n : Int)
  | bool (b : Bool)
  | str (s : ByteArray)
  | nilp
  | ptr (id i j x : Nat)
  | nils
  | slice (id i j len : Nat) (cap : Option Nat)
  | nilm
  | map (id : Nat)
  | nilf
  | func (fn : Fn) (first captured : List SV)
  | nili
  | iface (t : TypeId) (v : SV)
  | vec (k : IntKind) (n : Nat) (f : Nat → Int)
  | agg (l : List SV)
  | tuple (l : List SV)
  | any (v : Value)

instance : Inhabited SV := ⟨.tuple []⟩

def SV.scal : SV → Bool
  | .vec .. | .agg _ | .tuple _ => false
  | _ => true

/-- how many cells a segment has -/
def SV.len : SV → Nat
  | .vec _ n _ => n
  | _ => 1

def segLen : List SV → Nat
  | [] => 0
  | v :: l => v.len + segLen l

def segCell : List SV → Nat → Option SV
  | [], _ => none
  | .vec k n f :: l, c => if c < n then some (.int k (f c)) else segCell l (c - n)
  | v :: l, c => match c with
    | 0 => some v
    | c + 1 => segCell l c

/-- where a shadow id lies: block, first cell, cells of a row, cells in all -/
structure Ent where
  b : Nat
  d : Nat
  w : Nat
  top : Nat

abbrev Inj := Nat → Option Ent

def Inj.le (ρ ρ' : Inj) : Prop := ∀ id e, ρ id = some e → ρ' id = some e

inductive VRel (ρ : Inj) : SV → Value → Prop where
  | int (k n) : VRel ρ (.int k n) (.int k n)
  | bool (b) : VRel ρ (.bool b) (.bool b)
  | str (s) : VRel ρ (.str s) (.string s)
  | nilp : VRel ρ .nilp (.pointer none)
  | ptr {id i j x e o} : ρ id = some e → o = e.d + i * e.w + j + x → VRel ρ (.ptr id i j x) (.pointer (some ⟨e.b, o, none⟩))
  | nils : VRel ρ .nils (.slice none 0 0)
  | slice {id i j len cap e o cap'} : ρ id = some e → (cap' ≠ 0 → o = e.d + i * e.w + j) → (∀ c, cap = some c → cap' = c) → len ≤ cap' →
      (cap = none → j = 0 ∧ e.d + (i + cap') * e.w ≤ e.top) → VRel ρ (.slice id i j len cap) (.slice (some ⟨e.b, o, none⟩) len cap')
  | nilm : VRel ρ .nilm (.map none)
  | map {id e} : ρ id = some e → VRel ρ (.map id) (.map (some e.b))
  | nilf : VRel ρ .nilf .nilFunc
  | func {fn first captured fs cs} : fs.size = first.length → (∀ i v, first[i]? = some v → VRel ρ v (fs.getD i undef)) →
      cs.size = captured.length → (∀ i v, captured[i]? = some v → VRel ρ v (cs.getD i undef)) → VRel ρ (.func fn first captured) (.func fn fs cs)
  | nili : VRel ρ .nili .nilIface
  | iface {t v v'} : VRel ρ v v' → VRel ρ (.iface t v) (.iface t v')
  | agg {l cs} : cs.size = segLen l → (∀ c v, segCell l c = some v → SV.scal v = true) →
      (∀ c v, segCell l c = some v → VRel ρ v (cs.getD c undef)) → VRel ρ (.agg l) (.agg cs)
  | tuple {l vs} : vs.size = l.length → (∀ i v, l[i]? = some v → VRel ρ v (vs.getD i undef)) → VRel ρ (.tuple l) (.tuple vs)
  | any {v} : v.oneCell' = true → VRel ρ (.any v) v

theorem VRel.mono {ρ ρ' : Inj} (h : ρ.le ρ') {v v'} (r : VRel ρ v v') : VRel ρ' v v' := by
  induction r with
  | int k n => exact .int k n
  | bool b => exact .bool b
  | str s => exact .str s
  | nilp => exact .nilp
  | ptr he ho => exact .ptr (h _ _ he) ho
  | nils => exact .nils
  | slice he ho hc hl ht => exact .slice (h _ _ he) ho hc hl ht
  | nilm => exact .nilm
  | map he => exact .map (h _ _ he)
  | nilf => exact .nilf
  | func h1 _ h3 _ i2 i4 => exact .func h1 i2 h3 i4
  | nili => exact .nili
  | iface _ ih => exact .iface ih
  | agg h1 h2 _ ih => exact .agg h1 h2 ih
  | tuple h1 _ ih => exact .tuple h1 ih
  | any h1 => exact .any h1

theorem VRel.one {ρ : Inj} {v v'} (r : VRel ρ v v') (h : v.scal = true) : v'.oneCell' = true := by
  cases r <;> first | assumption | rfl | (simp [SV.scal] at h)

inductive SObj where
  | dead
  | cells (l : List SV) (e : TypeId)
  | ints (k : IntKind) (n : Nat) (f : Nat → Int) (e : TypeId) (ro : Bool)
  | tab (w n : Nat) (get : Nat → List SV) (e : TypeId) (ro : Bool)
  | map (kvs : List (SV × SV))
  | iter (m : Option Nat) (since : Nat) (seen : List Nat) (last : Nat)

abbrev SH := List SObj

def SObj.width : SObj → Nat
  | .tab w .. => w
  | _ => 1

def SObj.ro : SObj → Bool
  | .ints _ _ _ _ r | .tab _ _ _ _ r => r
  | _ => false

def SObj.elem : SObj → TypeId
  | .cells _ e | .ints _ _ _ e _ | .tab _ _ _ e _ => e
  | _ => 0

def SObj.cell : SObj → Nat → Nat → Option SV
  | .cells l _, i, j => if i = 0 then segCell l j else none
  | .ints k n f _ _, i, j => if j = 0 ∧ i < n then some (.int k (f i)) else none
  | .tab w n get _ _, i, j => if i < n ∧ j < w then segCell (get i) j else none
  | _, _, _ => none

inductive EntRel (ρ : Inj) : List (SV × SV) → List MapEntry → Prop where
  | nil : EntRel ρ [] []
  | cons {k v e l es} : VRel ρ k e.key → VRel ρ v e.val → EntRel ρ l es → EntRel ρ ((k, v) :: l) (e :: es)

theorem EntRel.mono {ρ ρ' : Inj} (h : ρ.le ρ') {l es} (r : EntRel ρ l es) : EntRel ρ' l es := by
  induction r with
  | nil => exact .nil
  | cons h1 h2 _ ih => exact .cons (h1.mono h) (h2.mono h) ih

/-- over which map an iterator goes -/
def itRel (ρ : Inj) : Option Nat → Option Nat → Prop
  | none, m' => m' = none
  | some id, m' => ∃ em, ρ id = some em ∧ m' = some em.b

theorem itRel.mono {ρ ρ' : Inj} (h : ρ.le ρ') {m m'} (r : itRel ρ m m') : itRel ρ' m m' := by
  cases m with
  | none => exact r
  | some id => exact let ⟨em, a, b⟩ := r; ⟨em, h _ _ a, b⟩

/-- an object lies in the heap as it should -/
def OSat (ρ : Inj) (o : SObj) (e : Ent) (heap : Array Obj) : Prop :=
  match o with
  | .dead => True
  | .map kvs => ∃ es clock, heap[e.b]? = some (.map es clock) ∧ EntRel ρ kvs es.toList ∧
      (∀ x ∈ es.toList, x.born < clock) ∧ es.toList.Pairwise (fun a b => a.born < b.born)
  | .iter m since seen last => e.d = 0 ∧ ∃ m', heap[e.b]? = some (.mapIter m' since seen.toArray last) ∧ itRel ρ m m'
  | o => e.w = o.width ∧ ∃ c t fr, heap[e.b]? = some (.cells c t fr) ∧ e.top ≤ c.size ∧
      (o.ro = false → t = o.elem ∧ fr = (0, 0) ∧ e.top = c.size) ∧
      ∀ i j v, o.cell i j = some v → v.scal = true ∧ ∃ v', c[e.d + i * e.w + j]? = some v' ∧ VRel ρ v v'

def SObj.isArr : SObj → Bool
  | .map _ | .iter .. => false
  | _ => true

def SObj.live : SObj → Bool
  | .dead => false
  | _ => true

structure Rep (ρ : Inj) (sh : SH) (heap : Array Obj) : Prop where
  obj : ∀ id o, sh[id]? = some o → o.live = true → ∃ e, ρ id = some e ∧ OSat ρ o e heap
  inj : ∀ i j o p e f, sh[i]? = some o → sh[j]? = some p → o.live = true → p.live = true → ρ i = some e → ρ j = some f →
    i ≠ j → e.b = f.b → o.ro = true ∧ p.ro = true
  fresh : ∀ id, sh.length ≤ id → ρ id = none

/-- blocks that a shadow heap may write -/
def Owns (ρ : Inj) (sh : SH) (b : Nat) : Prop := ∃ id o e, sh[id]? = some o ∧ o.live = true ∧ o.ro = false ∧ ρ id = some e ∧ e.b = b

structure Step (ρ : Inj) (sh : SH) (w : World) (ρ' : Inj) (sh' : SH) (w' : World) : Prop where
  le : ρ.le ρ'
  len : sh.length ≤ sh'.length
  keep : ∀ id, id < sh.length → ρ' id = ρ id
  ro : ∀ (id : Nat) (o : SObj), sh'[id]? = some o → o.live = true → o.ro = true → sh[id]? = some o
  size : w.heap.size ≤ w'.heap.size
  tape : w'.tape = w.tape
  os : w'.os = w.os
  out : w'.output = w.output
  same : ∀ b, b < w.heap.size → ¬ Owns ρ sh b → w'.heap[b]? = w.heap[b]?
  owns : ∀ b, b < w.heap.size → Owns ρ' sh' b → Owns ρ sh b

theorem Inj.le_refl (ρ : Inj) : ρ.le ρ := fun _ _ h => h
theorem Inj.le_trans {a b c : Inj} (h : a.le b) (k : b.le c) : a.le c := fun _ _ x => k _ _ (h _ _ x)

theorem Step.refl (ρ : Inj) (sh : SH) (w : World) : Step ρ sh w ρ sh w :=
  ⟨Inj.le_refl ρ, Nat.le_refl _, fun _ _ => rfl, fun _ _ h _ _ => h, Nat.le_refl _, rfl, rfl, rfl, fun _ _ _ => rfl, fun _ _ h => h⟩

theorem Step.trans {ρ ρ1 ρ2 : Inj} {sh sh1 sh2 : SH} {w w1 w2 : World} (h : Step ρ sh w ρ1 sh1 w1) (k : Step ρ1 sh1 w1 ρ2 sh2 w2) :
    Step ρ sh w ρ2 sh2 w2 where
  le := Inj.le_trans h.le k.le
  len := Nat.le_trans h.len k.len
  keep id hid := (k.keep id (Nat.lt_of_lt_of_le hid h.len)).trans (h.keep id hid)
  ro id o ho hl hr := h.ro id o (k.ro id o ho hl hr) hl hr
  size := Nat.le_trans h.size k.size
  tape := k.tape.trans h.tape
  os := k.os.trans h.os
  out := k.out.trans h.out
  same b hb hn := (k.same b (Nat.lt_of_lt_of_le hb h.size) (fun ho => hn (h.owns b hb ho))).trans (h.same b hb hn)
  owns b hb ho := h.owns b hb (k.owns b (Nat.lt_of_lt_of_le hb h.size) ho)

/-- the draws of a world do not matter -/
theorem Step.drew {ρ : Inj} {sh : SH} {w : World} (n : Nat) : Step ρ sh w ρ sh { w with drawn := n } :=
  ⟨Inj.le_refl ρ, Nat.le_refl _, fun _ _ => rfl, fun _ _ h _ _ => h, Nat.le_refl _, rfl, rfl, rfl, fun _ _ _ => rfl, fun _ _ h => h⟩

/-! ## temporaries -/

abbrev Ts := List (Nat × SV)

def look : Ts → Nat → Option SV
  | [], _ => none
  | (t, v) :: l, u => if t = u then some v else look l u

def TRel (ρ : Inj) (ts : Ts) (tmps : Array Value) : Prop := ∀ t v, look ts t = some v → ∃ v', tmps[t]? = some v' ∧ VRel ρ v v'

theorem TRel.mono {ρ ρ' : Inj} (h : ρ.le ρ') {ts tmps} (r : TRel ρ ts tmps) : TRel ρ' ts tmps :=
  fun t v hv => let ⟨v', a, b⟩ := r t v hv; ⟨v', a, b.mono h⟩

theorem TRel.set {ρ : Inj} {ts tmps v v' d} (r : TRel ρ ts tmps) (hv : VRel ρ v v') (hd : d < tmps.size) :
    TRel ρ ((d, v) :: ts) (tmps.setIfInBounds d v') := by
  intro t u hu
  simp only [look] at hu
  split at hu
  · rename_i h; subst h; cases hu
    exact ⟨v', by simp [hd], hv⟩
  · rename_i h
    obtain ⟨u', h1, h2⟩ := r t u hu
    exact ⟨u', by rw [Array.getElem?_setIfInBounds_ne h]; exact h1, h2⟩

def evS (ts : Ts) : Operand → Option SV
  | .tmp t => look ts t
  | .const v => match v with
    | .int k n => some (.int k n)
    | .bool b => some (.bool b)
    | .string s => some (.str s)
    | .pointer none => some .nilp
    | .slice none 0 0 => some .nils
    | .map none => some .nilm
    | .nilFunc => some .nilf
    | .nilIface => some .nili
    | .tuple ⟨[]⟩ => some (.tuple [])
    | _ => none
  | .func f => some (.func (.func f) [] [])
  | .global _ => none

theorem evS_rel {ρ : Inj} {ts : Ts} {a : Act} (r : TRel ρ ts a.tmps) {o : Operand} {v : SV} (h : evS ts o = some v) : VRel ρ v (a.eval o) := by
  cases o with
  | tmp t =>
    obtain ⟨v', h1, h2⟩ := r t v h
    simpa [Act.eval, Array.getD_eq_getD_getElem?, h1] using h2
  | const c =>
    simp only [evS] at h
    split at h <;> first | (cases h; simp only [Act.eval]; constructor; done) | (cases h; exact .tuple rfl (by simp)) | (simp at h)
  | func f => cases h; exact .func rfl (by simp) rfl (by simp)
  | global g => simp [evS] at h

end Go.Rv
