/- A part of the evaluator of the model's code, or of its tables: what is proved is said in the claim's last text. -/
import Derived.Test.YtjhdfldadcbkkaaGreatRv1
namespace Go.Rv

theorem OSat.mono {ρ ρ' : Inj} (h : ρ.le ρ') {o e heap} (s : OSat ρ o e heap) : OSat ρ' o e heap := by
  cases o with
  | dead => trivial
  | map kvs =>
    obtain ⟨es, clock, h1, h2, h3⟩ := s
    exact ⟨es, clock, h1, h2.mono h, h3⟩
  | iter m a b c =>
    obtain ⟨h0, m', h1, h2⟩ := s
    exact ⟨h0, m', h1, h2.mono h⟩
  | cells l t =>
    obtain ⟨h0, c, t', fr, h1, h2, h3, h4⟩ := s
    exact ⟨h0, c, t', fr, h1, h2, h3, fun i j v hv => let ⟨a, v', b, r⟩ := h4 i j v hv; ⟨a, v', b, r.mono h⟩⟩
  | ints k n f t ro =>
    obtain ⟨h0, c, t', fr, h1, h2, h3, h4⟩ := s
    exact ⟨h0, c, t', fr, h1, h2, h3, fun i j v hv => let ⟨a, v', b, r⟩ := h4 i j v hv; ⟨a, v', b, r.mono h⟩⟩
  | tab wd n g t ro =>
    obtain ⟨h0, c, t', fr, h1, h2, h3, h4⟩ := s
    exact ⟨h0, c, t', fr, h1, h2, h3, fun i j v hv => let ⟨a, v', b, r⟩ := h4 i j v hv; ⟨a, v', b, r.mono h⟩⟩

theorem OSat.congr {ρ : Inj} {o e} {heap heap' : Array Obj} (h : heap'[e.b]? = heap[e.b]?) (s : OSat ρ o e heap) : OSat ρ o e heap' := by
  cases o <;> simp only [OSat] at s ⊢ <;> first | trivial | (rw [h]; exact s)

/-- the cells of an object that is no map -/
theorem OSat.arr {ρ : Inj} {o e} {heap : Array Obj} (s : OSat ρ o e heap) {i j v} (hv : o.cell i j = some v) :
    e.w = o.width ∧ ∃ c t fr, heap[e.b]? = some (.cells c t fr) ∧ e.top ≤ c.size ∧
      (o.ro = false → t = o.elem ∧ fr = (0, 0) ∧ e.top = c.size) ∧
      ∀ i j v, o.cell i j = some v → v.scal = true ∧ ∃ v', c[e.d + i * e.w + j]? = some v' ∧ VRel ρ v v' := by
  cases o <;> first | exact s | (simp [SObj.cell] at hv)

theorem OSat.lt {ρ : Inj} {o e} {heap : Array Obj} (s : OSat ρ o e heap) (hl : o.live = true) : e.b < heap.size := by
  cases o <;> simp only [OSat] at s <;> first | (simp [SObj.live] at hl; done) | (obtain ⟨_, c, t, fr, h1, _⟩ := s; exact (Array.getElem?_eq_some_iff.1 h1).1) | (obtain ⟨es, cl, h1, _⟩ := s; exact (Array.getElem?_eq_some_iff.1 h1).1) | (obtain ⟨_, m', h1, _⟩ := s; exact (Array.getElem?_eq_some_iff.1 h1).1)

theorem live_of_cell {o : SObj} {i j v} (h : o.cell i j = some v) : o.live = true := by
  cases o <;> first | rfl | (simp [SObj.cell] at h)

theorem Rep.cell {ρ sh heap} (h : Rep ρ sh heap) {id o i j v} (ho : sh[id]? = some o) (hv : o.cell i j = some v) :
    ∃ e v', ρ id = some e ∧ e.w = o.width ∧ v.scal = true ∧ VRel ρ v v' ∧ ∃ c t fr, heap[e.b]? = some (.cells c t fr) ∧ c[e.d + i * e.w + j]? = some v' := by
  obtain ⟨e, he, s⟩ := h.obj id o ho (live_of_cell hv)
  obtain ⟨hw, c, t, fr, h1, _, _, h4⟩ := s.arr hv
  obtain ⟨a, v', hc, hr⟩ := h4 i j v hv
  exact ⟨e, v', he, hw, a, hr, c, t, fr, h1, hc⟩

def Inj.add (ρ : Inj) (n : Nat) (e : Ent) : Inj := fun id => if id = n then some e else ρ id

theorem Inj.le_add {ρ : Inj} {n e} (h : ρ n = none) : ρ.le (ρ.add n e) := by
  intro id f hf
  unfold Inj.add
  split
  · rename_i hid; subst hid; rw [h] at hf; cases hf
  · exact hf

theorem Inj.add_self {ρ : Inj} {n e} : ρ.add n e n = some e := by simp [Inj.add]
theorem Inj.add_ne {ρ : Inj} {n e id} (h : id ≠ n) : ρ.add n e id = ρ id := by simp [Inj.add, h]

theorem get_push_lt {l : SH} {o : SObj} {id : Nat} (h : id ≠ l.length) : (l ++ [o])[id]? = l[id]? := by
  rcases Nat.lt_or_ge id l.length with h' | h'
  · simp [List.getElem?_append_left h']
  · rw [List.getElem?_eq_none (by simp; omega), List.getElem?_eq_none h']

theorem get_push_self {l : SH} {o : SObj} : (l ++ [o])[l.length]? = some o := by simp

theorem Rep.new {ρ sh heap} (h : Rep ρ sh heap) (o : SObj) (e : Ent) (heap' : Array Obj)
    (hb : ∀ id p f, sh[id]? = some p → p.live = true → ρ id = some f → f.b ≠ e.b) (hsame : ∀ b, b ≠ e.b → heap'[b]? = heap[b]?)
    (hs : OSat (ρ.add sh.length e) o e heap') : Rep (ρ.add sh.length e) (sh ++ [o]) heap' := by
  have hfr : ρ sh.length = none := h.fresh _ (Nat.le_refl _)
  have hle : ρ.le (ρ.add sh.length e) := Inj.le_add hfr
  refine ⟨?_, ?_, ?_⟩
  · intro id p hp hl
    by_cases hid : id = sh.length
    · subst hid
      rw [get_push_self] at hp; cases hp
      exact ⟨e, Inj.add_self, hs⟩
    · rw [get_push_lt hid] at hp
      obtain ⟨f, hf, s⟩ := h.obj id p hp hl
      exact ⟨f, hle _ _ hf, (s.mono hle).congr (hsame _ (hb id p f hp hl hf))⟩
  · intro i j p q f g hp hq lp lq hf hg hij hbb
    by_cases hi : i = sh.length
    · subst hi
      have hj : j ≠ sh.length := fun h => hij h.symm
      rw [get_push_lt hj] at hq
      rw [Inj.add_self] at hf; cases hf
      rw [Inj.add_ne hj] at hg
      exact absurd hbb.symm (hb j q g hq lq hg)
    · rw [get_push_lt hi] at hp
      rw [Inj.add_ne hi] at hf
      by_cases hj : j = sh.length
      · subst hj
        rw [Inj.add_self] at hg; cases hg
        exact absurd hbb (hb i p f hp lp hf)
      · rw [get_push_lt hj] at hq
        rw [Inj.add_ne hj] at hg
        exact h.inj i j p q f g hp hq lp lq hf hg hij hbb
  · intro id hid
    simp at hid
    rw [Inj.add_ne (by omega)]
    exact h.fresh id (by omega)

theorem Rep.put {ρ sh heap} (h : Rep ρ sh heap) {id o e} (ho : sh[id]? = some o) (hl : o.live = true) (hr : o.ro = false) (he : ρ id = some e)
    (o' : SObj) (heap' : Array Obj) (hsame : ∀ b, b ≠ e.b → heap'[b]? = heap[b]?)
    (hs : OSat ρ o' e heap') : Rep ρ (sh.set id o') heap' := by
  have hne : ∀ j q g, j ≠ id → sh[j]? = some q → q.live = true → ρ j = some g → g.b ≠ e.b := by
    intro j q g hj hq lq hg hbb
    have := (h.inj j id q o g e hq ho lq hl hg he hj hbb).2
    rw [hr] at this; cases this
  have hidlt : id < sh.length := (List.getElem?_eq_some_iff.1 ho).1
  refine ⟨?_, ?_, ?_⟩
  · intro j q hq lq
    by_cases hj : j = id
    · subst hj
      rw [List.getElem?_set_self hidlt] at hq; cases hq
      exact ⟨e, he, hs⟩
    · rw [List.getElem?_set_ne (fun h => hj h.symm)] at hq
      obtain ⟨g, hg, s⟩ := h.obj j q hq lq
      exact ⟨g, hg, s.congr (hsame _ (hne j q g hj hq lq hg))⟩
  · intro i j p q f g hp hq lp lq hf hg hij hbb
    by_cases hi : i = id
    · subst hi
      have hj : j ≠ i := fun h => hij h.symm
      rw [List.getElem?_set_ne hij] at hq
      rw [he] at hf; cases hf
      exact absurd hbb.symm (hne j q g hj hq lq hg)
    · rw [List.getElem?_set_ne (fun h => hi h.symm)] at hp
      by_cases hj : j = id
      · subst hj
        rw [he] at hg; cases hg
        exact absurd hbb (hne i p f hi hp lp hf)
      · rw [List.getElem?_set_ne (fun h => hj h.symm)] at hq
        exact h.inj i j p q f g hp hq lp lq hf hg hij hbb
  · intro j hj
    exact h.fresh j (by simpa using hj)

theorem Rep.kill {ρ sh heap} (h : Rep ρ sh heap) (id : Nat) : Rep ρ (sh.set id .dead) heap := by
  have key : ∀ (j : Nat) (q : SObj), (sh.set id .dead)[j]? = some q → q.live = true → sh[j]? = some q := by
    intro j q hq lq
    by_cases hj : j = id
    · subst hj
      rcases Nat.lt_or_ge j sh.length with hlt | hge
      · rw [List.getElem?_set_self hlt] at hq; cases hq; simp [SObj.live] at lq
      · rw [List.getElem?_eq_none (by simpa using hge)] at hq; cases hq
    · rwa [List.getElem?_set_ne (fun h => hj h.symm)] at hq
  refine ⟨fun j q hq lq => h.obj j q (key j q hq lq) lq, ?_, fun j hj => h.fresh j (by simpa using hj)⟩
  intro i j p q f g hp hq lp lq
  exact h.inj i j p q f g (key i p hp lp) (key j q hq lq) lp lq

theorem Owns.of_put {ρ : Inj} {sh : SH} {id o' b o e} (ho : sh[id]? = some o) (hl : o.live = true) (hr : o.ro = false) (he : ρ id = some e)
    (h : Owns ρ (sh.set id o') b) : Owns ρ sh b := by
  obtain ⟨j, q, g, hq, lq, rq, hg, hb⟩ := h
  by_cases hj : j = id
  · subst hj
    rw [he] at hg; cases hg
    exact ⟨j, o, e, ho, hl, hr, he, hb⟩
  · rw [List.getElem?_set_ne (fun h => hj h.symm)] at hq
    exact ⟨j, q, g, hq, lq, rq, hg, hb⟩

theorem Owns.of_new {ρ : Inj} {sh : SH} {o b e} (h : Owns (ρ.add sh.length e) (sh ++ [o]) b) : Owns ρ sh b ∨ b = e.b := by
  obtain ⟨j, q, g, hq, lq, rq, hg, hb⟩ := h
  by_cases hj : j = sh.length
  · subst hj
    rw [Inj.add_self] at hg; cases hg
    exact .inr hb.symm
  · rw [get_push_lt hj] at hq
    rw [Inj.add_ne hj] at hg
    exact .inl ⟨j, q, g, hq, lq, rq, hg, hb⟩

theorem Rep.lt {ρ sh heap} (h : Rep ρ sh heap) {id o e} (ho : sh[id]? = some o) (hl : o.live = true) (he : ρ id = some e) : e.b < heap.size := by
  obtain ⟨f, hf, s⟩ := h.obj id o ho hl
  rw [he] at hf; cases hf
  exact s.lt hl

theorem ro_new {sh : SH} {o : SObj} (h : o.ro = false) : ∀ (id : Nat) (p : SObj), (sh ++ [o])[id]? = some p → p.live = true → p.ro = true → sh[id]? = some p := by
  intro id p hp _ hr
  by_cases hid : id = sh.length
  · subst hid
    rw [get_push_self] at hp; cases hp
    rw [h] at hr; cases hr
  · rwa [get_push_lt hid] at hp

theorem ro_set {sh : SH} {o : SObj} {j : Nat} (h : o.ro = false) : ∀ (id : Nat) (p : SObj), (sh.set j o)[id]? = some p → p.live = true → p.ro = true → sh[id]? = some p := by
  intro id p hp _ hr
  by_cases hid : id = j
  · subst hid
    rcases Nat.lt_or_ge id sh.length with hlt | hge
    · rw [List.getElem?_set_self hlt] at hp; cases hp
      rw [h] at hr; cases hr
    · rw [List.getElem?_eq_none (by simpa using hge)] at hp; cases hp
  · rwa [List.getElem?_set_ne (fun h => hid h.symm)] at hp

/-- a new block, at the heap's end -/
theorem Rep.alloc {ρ sh} {w : World} (h : Rep ρ sh w.heap) (o : SObj) (hro : o.ro = false) (obj : Obj) (e : Ent) (hb : e.b = w.heap.size)
    (hs : ∀ ρ', ρ.le ρ' → OSat ρ' o e (w.heap.push obj)) :
    Rep (ρ.add sh.length e) (sh ++ [o]) (w.alloc obj).heap ∧ Step ρ sh w (ρ.add sh.length e) (sh ++ [o]) (w.alloc obj) := by
  have hle : ρ.le (ρ.add sh.length e) := Inj.le_add (h.fresh _ (Nat.le_refl _))
  constructor
  · refine h.new o e _ ?_ ?_ (hs _ hle)
    · intro id p f hp lp hf heq
      have := h.lt hp lp hf
      omega
    · intro b hbne
      simp only [World.alloc]
      rcases Nat.lt_or_ge b w.heap.size with h' | h'
      · rw [Array.getElem?_push_lt h', Array.getElem?_eq_getElem h']
      · rw [Array.getElem?_eq_none h', Array.getElem?_eq_none (by simp; omega)]
  · refine ⟨hle, by simp, fun id hid => Inj.add_ne (by omega), ro_new hro, by show w.heap.size ≤ (w.heap.push obj).size; simp, rfl, rfl, rfl, ?_, ?_⟩
    · intro b hlt _
      simp only [World.alloc]
      rw [Array.getElem?_push_lt hlt, Array.getElem?_eq_getElem hlt]
    · intro b hlt ho
      rcases Owns.of_new ho with h' | h'
      · exact h'
      · omega

/-- an owned block is written -/
theorem Rep.write {ρ sh} {w : World} (h : Rep ρ sh w.heap) {id o e} (ho : sh[id]? = some o) (hl : o.live = true) (hr : o.ro = false) (he : ρ id = some e)
    (o' : SObj) (hr' : o'.ro = false) (cs : Array Value) (hs : OSat ρ o' e (w.setRow e.b cs).heap) :
    Rep ρ (sh.set id o') (w.setRow e.b cs).heap ∧ Step ρ sh w ρ (sh.set id o') (w.setRow e.b cs) := by
  have hsame : ∀ b, b ≠ e.b → (w.setRow e.b cs).heap[b]? = w.heap[b]? := fun b hb => setRow_other w e.b b cs hb
  refine ⟨h.put ho hl hr he o' _ hsame hs, Inj.le_refl _, by simp, fun _ _ => rfl, ro_set hr', by simp, rfl, rfl, rfl, ?_, ?_⟩
  · intro b hlt hn
    exact hsame b (fun hb => hn ⟨id, o, e, ho, hl, hr, he, hb.symm⟩)
  · intro b _ hb
    exact Owns.of_put ho hl hr he hb

/-! ## segments -/

theorem segCell_lt : ∀ (l : List SV) (c : Nat) (v : SV), segCell l c = some v → c < segLen l
  | [], c, v, h => by simp [segCell] at h
  | u :: l, c, v, h => by
    cases u <;> simp only [segCell, segLen, SV.len] at h ⊢
    case vec k n f =>
      split at h
      · omega
      · have := segCell_lt l _ v h; omega
    all_goals
      cases c with
      | zero => omega
      | succ c => have := segCell_lt l c v h; omega

theorem segCell_some : ∀ (l : List SV) (c : Nat), c < segLen l → ∃ v, segCell l c = some v
  | [], c, h => by simp [segLen] at h
  | u :: l, c, h => by
    cases u <;> simp only [segCell, segLen, SV.len] at h ⊢
    case vec k n f =>
      split
      · exact ⟨_, rfl⟩
      · exact segCell_some l _ (by omega)
    all_goals
      cases c with
      | zero => exact ⟨_, rfl⟩
      | succ c => exact segCell_some l c (by omega)

/-- the segments of a struct or array, dropped up to a cell -/
def segDrop : List SV → Nat → Option (List SV)
  | l, 0 => some l
  | [], _ => none
  | .vec k n f :: l, j + 1 => if n ≤ j + 1 then segDrop l (j + 1 - n) else some (.vec k (n - (j + 1)) (fun y => f (j + 1 + y)) :: l)
  | _ :: l, j + 1 => segDrop l j

def segTake : List SV → Nat → Option (List SV)
  | _, 0 => some []
  | [], _ => none
  | .vec k n f :: l, s + 1 => if n ≤ s + 1 then (match segTake l (s + 1 - n) with | some l' => some (.vec k n f :: l') | none => none) else some [.vec k (s + 1) f]
  | v :: l, s + 1 => match segTake l s with | some l' => some (v :: l') | none => none

theorem segDrop_spec : ∀ (l : List SV) (j : Nat) (l' : List SV), segDrop l j = some l' → j + segLen l' = segLen l ∧ ∀ c, segCell l' c = segCell l (j + c)
  | l, 0, l', h => by
    have : l = l' := by cases l <;> simpa [segDrop] using h
    subst this; simp
  | [], j + 1, l', h => by simp [segDrop] at h
  | u :: l, j + 1, l', h => by
    cases u
    case vec k n f =>
      simp only [segDrop] at h
      split at h
      · rename_i hn
        obtain ⟨h1, h2⟩ := segDrop_spec l _ l' h
        refine ⟨by simp only [segLen, SV.len]; omega, fun c => ?_⟩
        rw [h2 c]
        simp only [segCell]
        rw [if_neg (by omega)]
        congr 1; omega
      · rename_i hn
        cases h
        refine ⟨by simp only [segLen, SV.len]; omega, fun c => ?_⟩
        simp only [segCell]
        by_cases hc : c < n - (j + 1)
        · rw [if_pos hc, if_pos (by omega)]
        · rw [if_neg hc, if_neg (by omega)]
          congr 1; omega
    all_goals
      simp only [segDrop] at h
      obtain ⟨h1, h2⟩ := segDrop_spec l j l' h
      refine ⟨by simp only [segLen, SV.len]; omega, fun c => ?_⟩
      rw [h2 c, show j + 1 + c = (j + c) + 1 by omega]
      simp [segCell]

theorem segTake_spec : ∀ (l : List SV) (s : Nat) (l' : List SV), segTake l s = some l' → segLen l' = s ∧ ∀ c, c < s → segCell l' c = segCell l c
  | l, 0, l', h => by
    have : l' = [] := by cases l <;> simpa [segTake] using h.symm
    subst this; simp [segLen]
  | [], s + 1, l', h => by simp [segTake] at h
  | u :: l, s + 1, l', h => by
    cases u
    case vec k n f =>
      simp only [segTake] at h
      split at h
      · rename_i hn
        split at h
        · rename_i l'' hl
          cases h
          obtain ⟨h1, h2⟩ := segTake_spec l _ l'' hl
          refine ⟨by simp only [segLen, SV.len]; omega, fun c hc => ?_⟩
          simp only [segCell]
          split
          · rfl
          · exact h2 _ (by omega)
        · cases h
      · rename_i hn
        cases h
        refine ⟨by simp [segLen, SV.len], fun c hc => ?_⟩
        simp only [segCell]
        rw [if_pos hc, if_pos (by omega)]
    all_goals
      simp only [segTake] at h
      split at h
      · rename_i l'' hl
        cases h
        obtain ⟨h1, h2⟩ := segTake_spec l s l'' hl
        refine ⟨by simp only [segLen, SV.len]; omega, fun c hc => ?_⟩
        cases c with
        | zero => simp [segCell]
        | succ c => simp only [segCell]; exact h2 c (by omega)
      · cases h

theorem segLen_append : ∀ (a b : List SV), segLen (a ++ b) = segLen a + segLen b
  | [], b => by simp [segLen]
  | u :: a, b => by simp only [List.cons_append, segLen, segLen_append a b]; omega

theorem segCell_left : ∀ (a b : List SV) (c : Nat), c < segLen a → segCell (a ++ b) c = segCell a c
  | [], b, c, h => by simp [segLen] at h
  | u :: a, b, c, h => by
    cases u <;> simp only [List.cons_append, segCell, segLen, SV.len] at h ⊢
    case vec k n f =>
      split
      · rfl
      · exact segCell_left a b _ (by omega)
    all_goals
      cases c with
      | zero => rfl
      | succ c => exact segCell_left a b c (by omega)

theorem segCell_right : ∀ (a b : List SV) (c : Nat), segCell (a ++ b) (segLen a + c) = segCell b c
  | [], b, c => by simp [segLen]
  | u :: a, b, c => by
    cases u <;> simp only [List.cons_append, segLen, SV.len]
    case vec k n f =>
      simp only [segCell]
      rw [if_neg (by omega), show n + segLen a + c - n = segLen a + c by omega]
      exact segCell_right a b c
    all_goals
      rw [show 1 + segLen a + c = (segLen a + c) + 1 by omega]
      simp only [segCell]
      exact segCell_right a b c

/-- cells from j on, laid anew -/
def segPut (l : List SV) (j : Nat) (new : List SV) : Option (List SV) :=
  match segTake l j, segDrop l (j + segLen new) with
  | some a, some b => some (a ++ (new ++ b))
  | _, _ => none

theorem segPut_spec {l : List SV} {j : Nat} {new l' : List SV} (h : segPut l j new = some l') :
    segLen l' = segLen l ∧ j + segLen new ≤ segLen l ∧
    ∀ c, segCell l' c = if j ≤ c ∧ c < j + segLen new then segCell new (c - j) else segCell l c := by
  unfold segPut at h
  split at h
  · rename_i a b ha hb
    cases h
    obtain ⟨a1, a2⟩ := segTake_spec _ _ _ ha
    obtain ⟨b1, b2⟩ := segDrop_spec _ _ _ hb
    refine ⟨by simp only [segLen_append]; omega, by omega, fun c => ?_⟩
    by_cases h1 : c < j
    · rw [if_neg (by omega), segCell_left _ _ _ (by omega), a2 c h1]
    · obtain ⟨d, rfl⟩ : ∃ d, c = segLen a + d := ⟨c - segLen a, by omega⟩
      rw [segCell_right]
      by_cases h2 : d < segLen new
      · rw [if_pos (by omega), segCell_left _ _ _ h2]
        congr 1; omega
      · obtain ⟨d', rfl⟩ : ∃ d', d = segLen new + d' := ⟨d - segLen new, by omega⟩
        rw [segCell_right, if_neg (by omega), b2]
        congr 1; omega
  · cases h

end Go.Rv
