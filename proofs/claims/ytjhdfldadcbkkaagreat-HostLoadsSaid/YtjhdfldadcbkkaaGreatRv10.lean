/- A part of the evaluator of the model's code, or of its tables: what is proved is said in the claim's last text. -/
import Derived.Test.YtjhdfldadcbkkaaGreatRv9
namespace Go.Rv

/-! ## rows of slices -/

/-- rows of a slice: numbers, or lists of segments -/
inductive Rows where
  | ints (k : IntKind) (f : Nat → Int)
  | tab (g : Nat → List SV)

def shiftF (f : Nat → Int) (i : Nat) : Nat → Int := fun y => f (i + y)
def shiftR (f : Nat → List SV) (i : Nat) : Nat → List SV := fun y => f (i + y)
def catF (n : Nat) (f g : Nat → Int) : Nat → Int := fun y => if y < n then f y else g (y - n)
def catR (n : Nat) (f g : Nat → List SV) : Nat → List SV := fun y => if y < n then f y else g (y - n)
def splF (i n : Nat) (g f : Nat → Int) : Nat → Int := fun y => if i ≤ y ∧ y < i + n then g (y - i) else f y
def splR (i n : Nat) (g f : Nat → List SV) : Nat → List SV := fun y => if i ≤ y ∧ y < i + n then g (y - i) else f y

/-- the cells of rows are these values -/
def RowsAt (ρ : Inj) (r : Rows) (s n : Nat) (vs : Nat → Option Value) : Prop :=
  match r with
  | .ints k f => s = 1 ∧ ∀ y, y < n → vs y = some (.int k (f y))
  | .tab g => ∀ y, y < n → segLen (g y) = s ∧ ∀ c v, segCell (g y) c = some v → v.scal = true ∧ ∃ v', vs (y * s + c) = some v' ∧ VRel ρ v v'

/-- all rows are as long as they should be -/
def fullR (s : Nat) : Nat → (Nat → List SV) → Bool
  | 0, _ => true
  | n + 1, g => fullR s n g && (segLen (g n) == s)

theorem fullR_spec {s : Nat} {g : Nat → List SV} : ∀ {n : Nat}, fullR s n g = true → ∀ y, y < n → segLen (g y) = s
  | 0, _, y, hy => by omega
  | n + 1, h, y, hy => by
    simp only [fullR, Bool.and_eq_true, beq_iff_eq] at h
    rcases Nat.lt_or_ge y n with h1 | h1
    · exact fullR_spec h.1 y h1
    · obtain rfl : y = n := by omega
      exact h.2

/-- the rows of a slice, if its object has them -/
def rowsOf (sh : SH) (s : Nat) (x : SV) (K : Nat → Rows → Prop) : Prop :=
  match x with
  | .nils => K 0 (.tab (fun _ => []))
  | .slice id i j len _ => match sh[id]? with
    | some (.ints k n f _ _) => match j with
      | 0 => if s = 1 then ifB (decide (i + len ≤ n)) (K len (.ints k (shiftF f i))) False else False
      | _ + 1 => False
    | some (.tab w n g _ _) => match j with
      | 0 => if s = w then ifB (decide (i + len ≤ n)) (ifB (fullR s len (shiftR g i)) (K len (.tab (shiftR g i))) False) False else False
      | _ + 1 => False
    | some (.cells l _) => match i with
      | 0 => if s = 1 then segSub l j len (fun l' => match l' with
          | [.vec k m f] => if m = len then K len (.ints k f) else False
          | _ => False) else False
      | _ + 1 => False
    | _ => False
  | _ => False

theorem rowsOf_spec {sh s x K ρ} {heap : Array Obj} {x'} (h : rowsOf sh s x K) (hρ : Rep ρ sh heap) (hx : VRel ρ x x') (w : World) (hw : w.heap = heap) :
    ∃ n r, K n r ∧ ((n = 0 ∧ x' = .slice none 0 0 ∧ ∀ vs, RowsAt ρ r s 0 vs) ∨ ∃ b off cap', x' = .slice (some ⟨b, off, none⟩) n cap' ∧
      RowsAt ρ r s n (fun y => w.cell? ⟨b, off + y, none⟩)) := by
  subst hw
  unfold rowsOf at h
  split at h
  · cases hx; exact ⟨0, _, h, .inl ⟨rfl, rfl, fun vs y hy => by omega⟩⟩
  · rename_i id i j len cap
    cases hx with
    | slice he ho hc hl ht =>
    rename_i e off cap'
    split at h
    · rename_i k n f t ro hsh
      split at h
      · split at h
        · rename_i hs
          subst hs
          obtain ⟨hb, h⟩ := ifB_yes h
          have hb := of_decide_eq_true hb
          refine ⟨len, _, h, .inr ⟨e.b, off, cap', rfl, rfl, fun y hy => ?_⟩⟩
          obtain ⟨e', v', he', hw, hsc, hr, cc, t', fr, hcell, hcc⟩ := hρ.cell hsh (i := i + y) (j := 0) (v := .int k (f (i + y))) (by simp [SObj.cell]; omega)
          rw [he] at he'; cases he'
          cases hr
          refine cell_of_heap hcell ?_
          show cc[off + y]? = some (Value.int k (f (i + y)))
          rw [← hcc]; congr 1
          have := ho (by omega)
          rw [this, hw]; simp [SObj.width]; omega
        · exact h.elim
      · exact h.elim
    · rename_i wd n g t ro hsh
      split at h
      · split at h
        · rename_i hs
          subst hs
          obtain ⟨hb, h⟩ := ifB_yes h
          obtain ⟨hfull, h⟩ := ifB_yes h
          have hb := of_decide_eq_true hb
          have hfull := fullR_spec hfull
          refine ⟨len, _, h, .inr ⟨e.b, off, cap', rfl, fun y hy => ⟨hfull y hy, fun c v hv => ?_⟩⟩⟩
          have hcs : c < s := by have := segCell_lt _ _ _ hv; rw [hfull y hy] at this; exact this
          obtain ⟨e', v', he', hw, hsc, hr, cc, t', fr, hcell, hcc⟩ := hρ.cell hsh (i := i + y) (j := c) (v := v) (by simp only [SObj.cell, if_pos (show i + y < n ∧ c < s by omega)]; exact hv)
          rw [he] at he'; cases he'
          refine ⟨hsc, v', cell_of_heap hcell ?_, hr⟩
          rw [← hcc]; congr 1
          have := ho (by omega)
          rw [this, hw]; simp only [SObj.width, Nat.add_mul]; omega
        · exact h.elim
      · exact h.elim
    · rename_i l t hsh
      split at h
      · split at h
        · rename_i hs
          subst hs
          obtain ⟨l', h1, h2, h3, h4⟩ := segSub_spec h
          split at h1
          · rename_i k m f
            split at h1
            · rename_i hm
              subst hm
              refine ⟨m, _, h1, .inr ⟨e.b, off, cap', rfl, rfl, fun y hy => ?_⟩⟩
              have h5 := h4 y hy
              simp only [segCell, if_pos hy] at h5
              obtain ⟨e', v', he', hw, hsc, hr, cc, t', fr, hcell, hcc⟩ := hρ.cell hsh (i := 0) (j := j + y) (v := .int k (f y)) (by simp [SObj.cell, ← h5])
              rw [he] at he'; cases he'
              cases hr
              refine cell_of_heap hcell ?_
              rw [← hcc]; congr 1
              have := ho (by omega)
              rw [this, hw]; simp [SObj.width]; omega
            · exact h1.elim
          · exact h1.elim
        · exact h.elim
      · exact h.elim
    · exact h.elim
  · exact h.elim

/-- the type of rows -/
def rowsT (P : Program) (e : TypeId) : Rows → Bool
  | .ints k _ => match P.underlying e with
    | some (.int k') => k == k'
    | _ => false
  | .tab _ => match P.underlying e with
    | some (.int _) => false
    | _ => true

/-- an object of rows -/
def objOf (s n : Nat) (e : TypeId) : Rows → SObj
  | .ints k f => .ints k n f e false
  | .tab g => .tab s n g e false

theorem objOf_ro (s n : Nat) (e : TypeId) (r : Rows) : (objOf s n e r).ro = false := by cases r <;> rfl

/-- rows that lie in a block, as an object -/
theorem osat_rows {ρ : Inj} {r : Rows} {s n : Nat} {e : TypeId} {heap : Array Obj} {b d top : Nat} {c : Array Value} (hb : heap[b]? = some (.cells c e (0, 0))) (hs : 1 ≤ s)
    (htop : top = c.size) (h : RowsAt ρ r s n (fun y => c[d + y]?)) : OSat ρ (objOf s n e r) ⟨b, d, s, top⟩ heap := by
  cases r with
  | ints k f =>
    obtain ⟨rfl, h⟩ := h
    refine ⟨rfl, c, e, (0, 0), hb, by simp only; omega, fun _ => ⟨rfl, rfl, htop⟩, fun i j v hv => ?_⟩
    simp only [objOf, SObj.cell] at hv
    split at hv
    · rename_i hij
      cases hv
      refine ⟨rfl, .int k (f i), ?_, .int _ _⟩
      have := h i hij.2
      simp only at this ⊢
      rw [← this]; congr 1; omega
    · cases hv
  | tab g =>
    refine ⟨rfl, c, e, (0, 0), hb, by simp only; omega, fun _ => ⟨rfl, rfl, htop⟩, fun i j v hv => ?_⟩
    simp only [objOf, SObj.cell] at hv
    split at hv
    · rename_i hij
      obtain ⟨h1, v', h2, h3⟩ := (h i hij.1).2 j v hv
      refine ⟨h1, v', ?_, h3⟩
      simp only at h2 ⊢
      rw [← h2]; congr 1; omega
    · cases hv

/-- a new slice -/
theorem new_rows {ρ sh} {w : World} (hρ : Rep ρ sh w.heap) (r : Rows) (s n cap : Nat) (e : TypeId) (c : Array Value) (oc : Option Nat) (hs : 1 ≤ s) (hn : n ≤ cap) (hc : c.size = cap * s)
    (hoc : oc = none ∨ oc = some cap) (m : Nat) (hm : m ≤ n) (hr : RowsAt ρ r s n (fun y => c[y]?)) :
    ∃ ρ', VRel ρ' (.slice sh.length 0 0 m oc) (.slice (some ⟨w.heap.size, 0, none⟩) m cap) ∧ Rep ρ' (sh ++ [objOf s n e r]) (w.alloc (.cells c e)).heap ∧
      Step ρ sh w ρ' (sh ++ [objOf s n e r]) (w.alloc (.cells c e)) := by
  have hr' : ∀ ρ' : Inj, ρ.le ρ' → RowsAt ρ' r s n (fun y => c[0 + y]?) := by
    intro ρ' hle
    cases r with
    | ints k f => simpa [RowsAt] using hr
    | tab g =>
      intro y hy
      refine ⟨(hr y hy).1, fun c' v hv => ?_⟩
      obtain ⟨h1, v', h2, h3⟩ := (hr y hy).2 c' v hv
      exact ⟨h1, v', by simpa using h2, h3.mono hle⟩
  obtain ⟨h1, h2⟩ := hρ.alloc (objOf s n e r) (objOf_ro s n e r) (.cells c e) ⟨w.heap.size, 0, s, c.size⟩ rfl (fun ρ' hle => osat_rows (by simp) hs rfl (hr' ρ' hle))
  refine ⟨_, .slice Inj.add_self (by simp) ?_ (by omega) (fun _ => ⟨rfl, ?_⟩), h1, h2⟩
  · intro c' hc'
    rcases hoc with h | h
    · rw [h] at hc'; cases hc'
    · rw [h] at hc'; cases hc'; rfl
  · simp only [Nat.zero_add]; rw [hc]; exact Nat.le_refl _

/-! ## make -/

def rowZ (P : Program) (e : TypeId) : Option Rows :=
  match P.underlying e with
  | some (.int k) => match zeroS P e with
    | some [.int k' z] => if k' = k ∧ z = 0 then some (.ints k (fun _ => 0)) else none
    | _ => none
  | some _ => match zeroS P e with
    | some l => some (.tab (fun _ => l))
    | none => none
  | none => none

theorem rowZ_spec {P e s r} (h : rowZ P e = some r) (hs : sizeT P e = some s) (hs1 : 1 ≤ s) : ∃ z, (∀ w, (zeroValue e).run P w = .ok z w) ∧
    (z.cells.size = s → ∀ (ρ : Inj) (n : Nat) (c : Array Value), (∀ y j, y < n → j < s → c[y * s + j]? = z.cells[j]?) → RowsAt ρ r s n (fun y => c[y]?)) := by
  unfold rowZ at h
  split at h
  · rename_i k hu
    split at h
    · rename_i k' z0 hz
      split at h
      · rename_i hk
        obtain ⟨rfl, rfl⟩ := hk
        cases h
        obtain ⟨z, h1, h2, h3⟩ := zeroS_spec hz
        refine ⟨z, h1, fun hzs ρ n c hc => ?_⟩
        simp only [segLen, SV.len] at h2
        have hs' : s = 1 := by omega
        subst hs'
        refine ⟨rfl, fun y hy => ?_⟩
        obtain ⟨_, v', g1, g2⟩ := h3 ρ 0 _ rfl
        cases g2
        have := hc y 0 hy (by omega)
        simpa [g1] using this
      · cases h
    · cases h
  · rename_i d hn hu
    split at h
    · rename_i l hz
      cases h
      obtain ⟨z, h1, h2, h3⟩ := zeroS_spec hz
      refine ⟨z, h1, fun hzs ρ n c hc y hy => ⟨by show segLen l = s; omega, fun j v hv => ?_⟩⟩
      have hj : j < segLen l := segCell_lt _ _ _ hv
      obtain ⟨g1, v', g2, g3⟩ := h3 ρ j v hv
      exact ⟨g1, v', by simpa [g2] using hc y j hy (by omega), g3⟩
    · cases h
  · cases h

def bytesT (P : Program) (t : TypeId) : Option Nat := (P.info? t).map (·.bytes)

theorem run_bytes {P t n} (h : bytesT P t = some n) (w : World) : ∃ i, (typeInfo t).run P w = .ok i w ∧ i.bytes = n := by
  unfold bytesT at h
  cases hi : P.info? t with
  | none => simp [hi] at h
  | some i => simp [hi] at h; exact ⟨i, by simp [typeInfo, hi], h⟩

def makeOk (l c : Int) (b : Nat) : Bool := decide (0 ≤ l ∧ l ≤ c ∧ c * b ≤ 281474976710656)

def zeroLen (P : Program) (e : TypeId) (s : Nat) : Bool := match P.info? e with
  | some i => match i.zero with
    | some z => z.cells.size == s
    | none => false
  | none => false

def makeSliceS (P : Program) (t : TypeId) (l c : SV) (sh : SH) (K : SV → SH → Prop) : Prop :=
  match l, c, P.underlying t with
  | .int _ l, .int _ c, some (.slice e) => match sizeT P e, bytesT P e, rowZ P e with
    | some (s + 1), some (b + 1), some r => if zeroLen P e (s + 1) = true then
        ifB (makeOk l c (b + 1)) (K (.slice sh.length 0 0 l.toNat (some c.toNat)) (sh ++ [objOf (s + 1) c.toNat e r])) False else False
    | _, _, _ => False
  | _, _, _ => False

theorem wrap64_small {n : Int} (h0 : 0 ≤ n) (h : n ≤ 281474976710656) : IntKind.i64.wrap n = n := IntWalk.i64_in _ (by omega)

theorem makeSlice_sound {P t l c sh K ρ} {w : World} {l' c'} (h : makeSliceS P t l c sh K) (hρ : Rep ρ sh w.heap) (hl : VRel ρ l l') (hc : VRel ρ c c') :
    Res P (Instr.makeSlice t l' c') ρ sh w K := by
  unfold makeSliceS at h
  split at h
  · rename_i k1 l0 k2 c0 e hu
    cases hl; cases hc
    split at h
    · rename_i s b r hs hb hz
      split at h
      · rename_i hzl
        obtain ⟨hok, h⟩ := ifB_yes h
        have hok : 0 ≤ l0 ∧ l0 ≤ c0 ∧ c0 * ((b + 1 : Nat) : Int) ≤ 281474976710656 := of_decide_eq_true hok
        obtain ⟨ho1, ho2, ho3⟩ := hok
        have hc48 : c0 ≤ 281474976710656 := by
          have : c0 * 1 ≤ c0 * ((b + 1 : Nat) : Int) := Int.mul_le_mul_of_nonneg_left (by omega) (by omega)
          omega
        obtain ⟨z, hz1, hz2⟩ := rowZ_spec hz hs (by omega)
        obtain ⟨inf, hi1, hi2⟩ := run_bytes hb w
        have hzs : z.cells.size = s + 1 := by
          unfold zeroLen at hzl
          split at hzl
          · rename_i i hi
            split at hzl
            · rename_i z' hz'
              have : z = z' := by have := hz1 w; simp [zeroValue, typeInfo, hi, hz'] at this; exact this.symm
              subst this
              simpa using hzl
            · cases hzl
          · cases hzl
        have hsz : (((Array.range (c0.toNat * (s + 1))).map (z.cells[· % z.cells.size]!))).size = c0.toNat * (s + 1) := by simp
        obtain ⟨ρ', r1, r2, r3⟩ := new_rows hρ r (s + 1) c0.toNat c0.toNat e ((Array.range (c0.toNat * (s + 1))).map (z.cells[· % z.cells.size]!)) (some c0.toNat) (by omega) (Nat.le_refl _) hsz (.inr rfl) l0.toNat (by omega)
          (hz2 hzs ρ _ _ (by
            intro y j hy hj
            have hlt : y * (s + 1) + j < c0.toNat * (s + 1) := by
              have : (y + 1) * (s + 1) ≤ c0.toNat * (s + 1) := Nat.mul_le_mul_right _ hy
              rw [Nat.add_mul] at this; omega
            have hmod : (y * (s + 1) + j) % (s + 1) = j := by rw [Nat.add_comm, Nat.add_mul_mod_self_right, Nat.mod_eq_of_lt hj]
            have hj' : j < z.cells.size := by omega
            simp only [Array.getElem?_map]
            rw [show (Array.range (c0.toNat * (s + 1)))[y * (s + 1) + j]? = some (y * (s + 1) + j) by simp [hlt]]
            simp only [Option.map_some, hzs, hmod]
            rw [getElem!_pos z.cells j hj', Array.getElem?_eq_getElem hj']))
        refine ⟨_, _, _, ρ', _, ?_, h, r1, r2, r3⟩
        have hw1 := wrap64_small ho1 (by omega : l0 ≤ 281474976710656)
        have hw2 := wrap64_small (by omega : 0 ≤ c0) hc48
        have hm : (b : Int) + 1 = ((b + 1 : Nat) : Int) := by omega
        have hbc : ¬ ((b + 1 : Nat) : Int) * c0 > 2 ^ 48 := by rw [Int.mul_comm]; omega
        have hcond : (decide (c0 < 0) || decide ((inf.bytes : Int) * c0 > 2 ^ 48) || decide (l0 < 0) || decide (l0 > c0)) = false := by
          have hi2' : (inf.bytes : Int) = ((b + 1 : Nat) : Int) := by rw [hi2]
          rw [hi2']; simp only [Bool.or_eq_false_iff, decide_eq_false_iff_not]; omega
        simp only [Instr.makeSlice, Sem.run_bind, run_underlying hu, Result.andThen_ok, asInt, asIntOf, Sem.run_pure, hi1, hw1, hw2, hcond, Bool.false_eq_true, if_false, run_askRoom, run_size hs]
        split
        · rename_i h0
          have e0 : ∀ g : Nat → Value, (Array.range (c0.toNat * s.succ)).map g = #[] := by intro g; rw [h0]; simp
          simp only [e0, Sem.run_bind, Sem.run_pure, Result.andThen_ok, newRow, run_newObj]
          rfl
        · simp only [Sem.run_bind, hz1, Result.andThen_ok, Sem.run_pure, newRow, run_newObj]
          rfl
      · exact h.elim
    · exact h.elim
  · exact h.elim

/-! ## composite slices -/

def incrP : Nat → List (Nat × SV) → Bool
  | _, [] => true
  | n, (i, _) :: l => decide (n ≤ i) && incrP (i + 1) l

def lookI : List (Nat × SV) → Nat → Int
  | [], _ => 0
  | (i, v) :: l, x => if x = i then (match v with | .int _ n => n | _ => 0) else lookI l x

def lookR (z : List SV) : List (Nat × SV) → Nat → List SV
  | [], _ => z
  | (i, v) :: l, x => if x = i then (segsOf v).getD [] else lookR z l x

def partsOk (s len : Nat) : List (Nat × SV) → Bool
  | [] => true
  | (i, v) :: l => decide (i < len) && (match segsOf v with
    | some u => segLen u == s
    | none => false) && partsOk s len l

def partsInt (k : IntKind) : List (Nat × SV) → Bool
  | [] => true
  | (_, .int k' _) :: l => k == k' && partsInt k l
  | _ => false

def buildSliceS (P : Program) (t : TypeId) (len : Nat) (ps : List (Nat × SV)) (sh : SH) (K : SV → SH → Prop) : Prop :=
  match P.underlying t with
  | some (.slice e) => match sizeT P e, rowZ P e with
    | some (s + 1), some r => if (zeroLen P e (s + 1) && partsOk (s + 1) len ps && incrP 0 ps && decide (len * (s + 1) ≤ 16777216)) = true then (match r with
      | .ints k _ => if partsInt k ps = true then K (.slice sh.length 0 0 len (some len)) (sh ++ [.ints k len (lookI ps) e false]) else False
      | .tab z => K (.slice sh.length 0 0 len (some len)) (sh ++ [.tab (s + 1) len (lookR (z 0) ps) e false])) else False
    | _, _ => False
  | _ => False

def firstP : List (Nat × Value) → Nat → Option Value
  | [], _ => none
  | (i, v) :: l, x => if x = i then some v else firstP l x

theorem firstP_none : ∀ (ps : List (Nat × SV)) (ps' : List (Nat × Value)) (ρ : Inj) (n x : Nat), PRel ρ ps ps' → incrP n ps = true → x < n → firstP ps' x = none
  | [], _, _, _, _, .nil, _, _ => rfl
  | (i, v) :: l, _, ρ, n, x, .cons hv hp, h, hx => by
    simp only [incrP, Bool.and_eq_true, decide_eq_true_eq] at h
    simp only [firstP]
    rw [if_neg (by omega)]
    exact firstP_none l _ ρ (i + 1) x hp h.2 (by omega)

theorem fill_rows {ρ : Inj} (s len : Nat) : ∀ (ps : List (Nat × SV)) (ps' : List (Nat × Value)) (n : Nat) (cs : Array Value), PRel ρ ps ps' → cs.size = len * s → partsOk s len ps = true → incrP n ps = true →
    ∃ cs', Instr.fill (fun i => some (i * s, s)) cs ps' = some cs' ∧ cs'.size = len * s ∧ ∀ i c, i < len → c < s →
      cs'[i * s + c]? = match firstP ps' i with | some v => v.cells[c]? | none => cs[i * s + c]?
  | [], _, n, cs, .nil, hcs, _, _ => ⟨cs, rfl, hcs, fun i c _ _ => rfl⟩
  | (i0, v) :: ps, _, n, cs, .cons (v' := v') (l' := l') hv hp, hcs, hok, hin => by
    simp only [partsOk, Bool.and_eq_true, decide_eq_true_eq] at hok
    simp only [incrP, Bool.and_eq_true, decide_eq_true_eq] at hin
    obtain ⟨⟨hi0, hseg⟩, hok'⟩ := hok
    have hvs : v'.cells.size = s := by
      split at hseg
      · rename_i u hu
        have := (segsOf_spec hu hv).1
        simp at hseg; omega
      · cases hseg
    have hle : i0 * s + v'.cells.size ≤ cs.size := by
      rw [hcs, hvs]
      have := Nat.mul_le_mul_right s (Nat.succ_le_of_lt hi0)
      rw [Nat.succ_mul] at this; exact this
    obtain ⟨f1, f2⟩ := foldl_laid (i0 * s) v'.cells.toList 0 cs (by simpa using hle)
    have hfold : (v'.cells.zipIdx.foldl (fun cs (p : Value × Nat) => cs.setIfInBounds (i0 * s + p.2) p.1) cs) =
        ((v'.cells.toList.zipIdx 0).foldl (fun cs (p : Value × Nat) => cs.setIfInBounds (i0 * s + p.2) p.1) cs) := by
      rw [← Array.foldl_toList]; simp
    obtain ⟨cs', k1, k2, k3⟩ := fill_rows s len ps l' (i0 + 1) (v'.cells.zipIdx.foldl (fun cs (p : Value × Nat) => cs.setIfInBounds (i0 * s + p.2) p.1) cs) hp (by rw [hfold, f1, hcs]) hok' hin.2
    refine ⟨cs', ?_, k2, fun i c hi hc => ?_⟩
    · conv => lhs; unfold Instr.fill
      simp only []
      have hn : (decide (v'.cells.size ≠ s) || decide (i0 * s + v'.cells.size > cs.size)) = false := by simp; omega
      rw [hn, if_neg (by simp)]
      exact k1
    · rw [k3 i c hi hc]
      simp only [firstP]
      by_cases hii : i = i0
      · subst hii
        rw [if_pos rfl, firstP_none ps l' ρ (i + 1) i hp hin.2 (by omega)]
        simp only [hfold, f2]
        rw [if_pos (by simp only [Array.length_toList]; omega)]
        simp
      · rw [if_neg hii]
        cases hf : firstP l' i with
        | some u => rfl
        | none =>
          simp only [hfold, f2]
          rw [if_neg]
          simp only [Array.length_toList, hvs]
          rcases Nat.lt_or_gt_of_ne hii with h | h
          · have := Nat.mul_le_mul_right s (Nat.succ_le_of_lt h)
            rw [Nat.succ_mul] at this; omega
          · have := Nat.mul_le_mul_right s (Nat.succ_le_of_lt h)
            rw [Nat.succ_mul] at this; omega

theorem zeroLen_spec {P e s z} (h : zeroLen P e s = true) (hz : ∀ w, (zeroValue e).run P w = .ok z w) : z.cells.size = s := by
  unfold zeroLen at h
  split at h
  · rename_i i hi
    split at h
    · rename_i z' hz'
      have : z = z' := by have := hz default; simp [zeroValue, typeInfo, hi, hz'] at this; exact this.symm
      subst this
      simpa using h
    · cases h
  · cases h

theorem lookI_spec {ρ : Inj} {k : IntKind} : ∀ (ps : List (Nat × SV)) (ps' : List (Nat × Value)) (x : Nat), PRel ρ ps ps' → partsInt k ps = true →
    (match firstP ps' x with | some v => v = .int k (lookI ps x) | none => lookI ps x = 0)
  | [], _, x, .nil, _ => rfl
  | (i, v) :: ps, _, x, .cons hv hp, h => by
    cases v <;> simp only [partsInt, Bool.and_eq_true, beq_iff_eq] at h <;> (try cases h; done)
    cases hv
    obtain ⟨rfl, h⟩ := h
    simp only [firstP, lookI]
    by_cases hx : x = i
    · rw [if_pos hx, if_pos hx]
    · rw [if_neg hx, if_neg hx]
      exact lookI_spec ps _ x hp h

theorem lookR_spec {ρ : Inj} {s len : Nat} {z : List SV} : ∀ (ps : List (Nat × SV)) (ps' : List (Nat × Value)) (x : Nat), PRel ρ ps ps' → partsOk s len ps = true →
    (match firstP ps' x with
      | some v => ∀ c u, segCell (lookR z ps x) c = some u → u.scal = true ∧ ∃ u', v.cells[c]? = some u' ∧ VRel ρ u u'
      | none => lookR z ps x = z)
  | [], _, x, .nil, _ => rfl
  | (i, v) :: ps, _, x, .cons hv hp, h => by
    simp only [partsOk, Bool.and_eq_true, decide_eq_true_eq] at h
    simp only [firstP, lookR]
    by_cases hx : x = i
    · rw [if_pos hx, if_pos hx]
      obtain ⟨⟨_, hs⟩, _⟩ := h
      split at hs
      · rename_i u hu
        simp only [hu, Option.getD_some]
        exact (segsOf_spec hu hv).2
      · cases hs
    · rw [if_neg hx, if_neg hx]
      exact lookR_spec ps _ x hp h.2

theorem lookR_len {s len : Nat} {z : List SV} (hz : segLen z = s) : ∀ (ps : List (Nat × SV)) (x : Nat), partsOk s len ps = true → segLen (lookR z ps x) = s
  | [], x, _ => hz
  | (i, v) :: ps, x, h => by
    simp only [partsOk, Bool.and_eq_true, decide_eq_true_eq] at h
    simp only [lookR]
    by_cases hx : x = i
    · rw [if_pos hx]
      obtain ⟨⟨_, hs⟩, _⟩ := h
      split at hs
      · rename_i u hu
        simpa [hu] using hs
      · cases hs
    · rw [if_neg hx]
      exact lookR_len hz ps x h.2

theorem buildSlice_sound {P t len ps sh K ρ} {w : World} {ps' : Array (Nat × Value)} (h : buildSliceS P t len ps sh K) (hρ : Rep ρ sh w.heap) (hp : PRel ρ ps ps'.toList) :
    Res P (Instr.buildSlice t len ps') ρ sh w K := by
  unfold buildSliceS at h
  split at h
  · rename_i e hu
    split at h
    · rename_i s r hs hz
      split at h
      · rename_i hcond
        simp only [Bool.and_eq_true, decide_eq_true_eq] at hcond
        obtain ⟨⟨⟨hzl, hok⟩, hin⟩, hbig⟩ := hcond
        obtain ⟨z, hz1, hz2⟩ := rowZ_spec hz hs (by omega)
        have hzs := zeroLen_spec hzl hz1
        have hz2 := hz2 hzs
        obtain ⟨cs', k1, k2, k3⟩ := fill_rows (s + 1) len ps ps'.toList 0 ((Array.range (len * (s + 1))).map (z.cells[· % z.cells.size]!)) hp (by simp) hok hin
        have hbase : ∀ y j, y < len → j < s + 1 → ((Array.range (len * (s + 1))).map (z.cells[· % z.cells.size]!))[y * (s + 1) + j]? = z.cells[j]? := by
          intro y j hy hj
          have hlt : y * (s + 1) + j < len * (s + 1) := by
            have : (y + 1) * (s + 1) ≤ len * (s + 1) := Nat.mul_le_mul_right _ hy
            rw [Nat.add_mul] at this; omega
          have hmod : (y * (s + 1) + j) % (s + 1) = j := by rw [Nat.add_comm, Nat.add_mul_mod_self_right, Nat.mod_eq_of_lt hj]
          have hj' : j < z.cells.size := by omega
          simp only [Array.getElem?_map]
          rw [show (Array.range (len * (s + 1)))[y * (s + 1) + j]? = some (y * (s + 1) + j) by simp [hlt]]
          simp only [Option.map_some, hzs, hmod]
          rw [getElem!_pos z.cells j hj', Array.getElem?_eq_getElem hj']
        have hrun : (Instr.buildSlice t len ps').run P w = .ok (.slice (some ⟨w.heap.size, 0, none⟩) len len) (w.alloc (.cells cs' e)) := by
          have hnb : ¬ len * (s + 1) > 2 ^ 24 := by omega
          simp only [Instr.buildSlice, Sem.run_bind, run_underlying hu, Result.andThen_ok, run_size hs, Nat.succ_eq_add_one, hnb, if_false]
          split
          · rename_i h0
            have e0 : ∀ g : Nat → Value, (Array.range (len * (s + 1))).map g = #[] := by intro g; rw [h0]; simp
            rw [e0] at k1
            simp only [Sem.run_bind, Sem.run_pure, Result.andThen_ok, e0, k1, newRow, run_newObj]
            rfl
          · simp only [Sem.run_bind, hz1, Result.andThen_ok, Sem.run_pure, k1, newRow, run_newObj]
            rfl
        have fin : ∀ r', RowsAt ρ r' (s + 1) len (fun y => cs'[y]?) → K (.slice sh.length 0 0 len (some len)) (sh ++ [objOf (s + 1) len e r']) → Res P (Instr.buildSlice t len ps') ρ sh w K := by
          intro r' hr' hk
          obtain ⟨ρ', r1, r2, r3⟩ := new_rows hρ r' (s + 1) len len e cs' (some len) (by omega) (Nat.le_refl _) k2 (.inr rfl) len (Nat.le_refl _) hr'
          exact ⟨_, _, _, ρ', _, hrun, hk, r1, r2, r3⟩
        cases r with
        | ints k f =>
          simp only at h
          split at h
          · rename_i hpi
            have hs0 : s + 1 = 1 := by
              have := hz2 ρ 0 #[] (by intro y j hy; omega)
              exact this.1
            refine fin (.ints k (lookI ps)) ⟨hs0, fun y hy => ?_⟩ h
            have hk3 := k3 y 0 hy (by omega)
            have hl := lookI_spec ps ps'.toList y hp hpi
            have hy0 : y * (s + 1) + 0 = y := by rw [hs0]; omega
            rw [hy0] at hk3
            show cs'[y]? = _
            cases hfp : firstP ps'.toList y with
            | some v =>
              simp only [hfp] at hl hk3
              rw [hk3]
              subst hl
              simp [Value.cells]
            | none =>
              simp only [hfp] at hl hk3
              rw [hk3, hl]
              have hb := hbase y 0 hy (by omega)
              rw [hy0] at hb
              rw [hb]
              unfold rowZ at hz
              split at hz
              · rename_i k2 hu2
                split at hz
                · rename_i k3 z0 hz0
                  split at hz
                  · rename_i hk
                    obtain ⟨rfl, rfl⟩ := hk
                    cases hz
                    obtain ⟨z2, g1, g2, g3⟩ := zeroS_spec hz0
                    have : z = z2 := by have a := hz1 w; rw [g1 w] at a; cases a; rfl
                    subst this
                    obtain ⟨_, v', g4, g5⟩ := g3 ρ 0 _ rfl
                    cases g5
                    exact g4
                  · cases hz
                · cases hz
              · split at hz <;> cases hz
              · cases hz
          · exact h.elim
        | tab g =>
          simp only at h
          have hg : ∀ y, g y = g 0 := by
            unfold rowZ at hz
            split at hz
            · split at hz
              · split at hz <;> cases hz
              · cases hz
            · split at hz
              · cases hz; intro y; rfl
              · cases hz
            · cases hz
          have hone : ∀ y j, y < 1 → j < s + 1 → ((Array.range (1 * (s + 1))).map (z.cells[· % z.cells.size]!))[y * (s + 1) + j]? = z.cells[j]? := by
            intro y j hy hj
            obtain rfl : y = 0 := by omega
            have hj' : j < z.cells.size := by omega
            simp [hj, hzs, Nat.mod_eq_of_lt hj]
          have hlen0 : segLen (g 0) = s + 1 := (hz2 ρ 1 _ hone 0 (by omega)).1
          refine fin (.tab (lookR (g 0) ps)) (fun y hy => ⟨lookR_len hlen0 ps y hok, fun c v hv => ?_⟩) h
          have hc : c < s + 1 := by have := segCell_lt _ _ _ hv; rw [lookR_len hlen0 ps y hok] at this; exact this
          have hk3 := k3 y c hy hc
          have hl := lookR_spec (z := g 0) ps ps'.toList y hp hok
          show v.scal = true ∧ ∃ v', cs'[y * (s + 1) + c]? = some v' ∧ VRel ρ v v'
          cases hfp : firstP ps'.toList y with
          | some u =>
            simp only [hfp] at hl hk3
            rw [hk3]
            exact hl c v hv
          | none =>
            simp only [hfp] at hl hk3
            rw [hl] at hv
            rw [hk3, hbase y c hy hc]
            obtain ⟨a1, v', a2, a3⟩ := (hz2 ρ 1 _ hone 0 (by omega)).2 c v hv
            refine ⟨a1, v', ?_, a3⟩
            rw [← a2]
            exact (hone 0 c (by omega) hc).symm
      · exact h.elim
    · exact h.elim
  · exact h.elim

end Go.Rv
