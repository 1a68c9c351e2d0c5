/- A part of the evaluator of the model's code, or of its tables: what is proved is said in the claim's last text. -/
import Derived.Test.YtjhdfldadcbkkaaGreatRv14c
namespace Go.Rv

/-! ## other names of blocks -/

mutual
def ren (σ : Nat → Nat) : SV → SV
  | .int k n => .int k n
  | .bool b => .bool b
  | .str s => .str s
  | .nilp => .nilp
  | .ptr id i j x => .ptr (σ id) i j x
  | .nils => .nils
  | .slice id i j len cap => .slice (σ id) i j len cap
  | .nilm => .nilm
  | .map id => .map (σ id)
  | .nilf => .nilf
  | .func fn a b => .func fn (renL σ a) (renL σ b)
  | .nili => .nili
  | .iface t v => .iface t (ren σ v)
  | .vec k n f => .vec k n f
  | .agg l => .agg (renL σ l)
  | .tuple l => .tuple (renL σ l)
  | .any v => .any v
def renL (σ : Nat → Nat) : List SV → List SV
  | [] => []
  | v :: l => ren σ v :: renL σ l
end

theorem renL_get (σ : Nat → Nat) : ∀ (l : List SV) (i : Nat) (v : SV), l[i]? = some v → (renL σ l)[i]? = some (ren σ v)
  | [], i, v, h => by simp at h
  | u :: l, 0, v, h => by simp at h; subst h; simp [renL]
  | u :: l, i + 1, v, h => by simpa [renL] using renL_get σ l i v (by simpa using h)

theorem renL_len (σ : Nat → Nat) : ∀ (l : List SV), (renL σ l).length = l.length
  | [] => rfl
  | u :: l => by simp [renL, renL_len σ l]

theorem ren_len (σ : Nat → Nat) (v : SV) : (ren σ v).len = v.len := by cases v <;> simp [ren, SV.len]
theorem ren_scal (σ : Nat → Nat) (v : SV) : (ren σ v).scal = v.scal := by cases v <;> simp [ren, SV.scal]

theorem renL_seg (σ : Nat → Nat) : ∀ (l : List SV), segLen (renL σ l) = segLen l ∧ ∀ c v, segCell l c = some v → segCell (renL σ l) c = some (ren σ v)
  | [] => ⟨rfl, fun c v h => by simp [segCell] at h⟩
  | u :: l => by
    obtain ⟨h1, h2⟩ := renL_seg σ l
    refine ⟨by simp only [renL, segLen, ren_len, h1], fun c v h => ?_⟩
    cases u
    case vec k n f =>
      simp only [renL, ren, segCell] at h ⊢
      split
      · rename_i hc; rw [if_pos hc] at h; cases h; rfl
      · rename_i hc; rw [if_neg hc] at h; exact h2 _ _ h
    all_goals
      cases c with
      | zero => simp only [segCell] at h; cases h; simp [renL, ren, segCell]
      | succ c => simp only [renL, ren, segCell] at h ⊢; exact h2 _ _ h

theorem segCell_size : ∀ (l : List SV) (c : Nat) (v : SV), segCell l c = some v → (v ∈ l ∨ ∃ k n, v = .int k n)
  | [], c, v, h => by simp [segCell] at h
  | u :: l, c, v, h => by
    cases u
    case vec k n f =>
      simp only [segCell] at h
      split at h
      · cases h; exact .inr ⟨_, _, rfl⟩
      · rcases segCell_size l _ v h with h | h
        · exact .inl (List.mem_cons_of_mem _ h)
        · exact .inr h
    all_goals
      cases c with
      | zero => simp only [segCell] at h; cases h; exact .inl (List.mem_cons_self ..)
      | succ c =>
        simp only [segCell] at h
        rcases segCell_size l _ v h with h | h
        · exact .inl (List.mem_cons_of_mem _ h)
        · exact .inr h

theorem int_of_ren {ρ : Inj} {k n v'} (h : VRel ρ (.int k n) v') : v' = .int k n := by cases h; rfl

theorem ren_rel {ρ : Inj} {σ : Nat → Nat} (v : SV) : ∀ v', VRel ρ (ren σ v) v' ↔ VRel (fun i => ρ (σ i)) v v' := by
  induction v using SV.rec (motive_2 := fun l => ∀ v ∈ l, ∀ v', VRel ρ (ren σ v) v' ↔ VRel (fun i => ρ (σ i)) v v') with
  | int k n => intro v'; simp only [ren]; exact ⟨fun h => by cases h; exact .int _ _, fun h => by cases h; exact .int _ _⟩
  | bool b => intro v'; simp only [ren]; exact ⟨fun h => by cases h; exact .bool _, fun h => by cases h; exact .bool _⟩
  | str s => intro v'; simp only [ren]; exact ⟨fun h => by cases h; exact .str _, fun h => by cases h; exact .str _⟩
  | nilp => intro v'; simp only [ren]; exact ⟨fun h => by cases h; exact .nilp, fun h => by cases h; exact .nilp⟩
  | ptr id i j x => intro v'; simp only [ren]; exact ⟨fun h => by cases h with | ptr a b => exact .ptr a b, fun h => by cases h with | ptr a b => exact .ptr a b⟩
  | nils => intro v'; simp only [ren]; exact ⟨fun h => by cases h; exact .nils, fun h => by cases h; exact .nils⟩
  | slice id i j len cap => intro v'; simp only [ren]; exact ⟨fun h => by cases h with | slice a b c d e => exact .slice a b c d e, fun h => by cases h with | slice a b c d e => exact .slice a b c d e⟩
  | nilm => intro v'; simp only [ren]; exact ⟨fun h => by cases h; exact .nilm, fun h => by cases h; exact .nilm⟩
  | map id => intro v'; simp only [ren]; exact ⟨fun h => by cases h with | map a => exact .map a, fun h => by cases h with | map a => exact .map a⟩
  | nilf => intro v'; simp only [ren]; exact ⟨fun h => by cases h; exact .nilf, fun h => by cases h; exact .nilf⟩
  | func fn a b iha ihb =>
    intro v'; simp only [ren]
    constructor
    · intro h
      cases h with
      | func h1 h2 h3 h4 =>
      exact .func (by rw [h1, renL_len]) (fun i v hv => (iha v (List.mem_of_getElem? hv) _).1 (h2 i _ (renL_get σ _ i v hv))) (by rw [h3, renL_len]) (fun i v hv => (ihb v (List.mem_of_getElem? hv) _).1 (h4 i _ (renL_get σ _ i v hv)))
    · intro h
      cases h with
      | func h1 h2 h3 h4 =>
      have get : ∀ (l : List SV) (i : Nat) (u : SV), (renL σ l)[i]? = some u → ∃ v, l[i]? = some v ∧ u = ren σ v := by
        intro l i u hu
        have hlt := (List.getElem?_eq_some_iff.1 hu).1
        rw [renL_len] at hlt
        have := renL_get σ l i l[i] (by simp)
        rw [this] at hu; cases hu
        exact ⟨l[i], by simp, rfl⟩
      refine .func (by rw [h1, renL_len]) (fun i u hu => ?_) (by rw [h3, renL_len]) (fun i u hu => ?_)
      · obtain ⟨v, hv, rfl⟩ := get _ _ _ hu
        exact (iha v (List.mem_of_getElem? hv) _).2 (h2 i v hv)
      · obtain ⟨v, hv, rfl⟩ := get _ _ _ hu
        exact (ihb v (List.mem_of_getElem? hv) _).2 (h4 i v hv)
  | nili => intro v'; simp only [ren]; exact ⟨fun h => by cases h; exact .nili, fun h => by cases h; exact .nili⟩
  | iface t v ih =>
    intro v'; simp only [ren]
    exact ⟨fun h => by cases h with | iface a => exact .iface ((ih _).1 a), fun h => by cases h with | iface a => exact .iface ((ih _).2 a)⟩
  | vec k n f => intro v'; simp only [ren]; exact ⟨fun h => (by cases h), fun h => (by cases h)⟩
  | agg l ih =>
    intro v'; simp only [ren]
    obtain ⟨s1, s2⟩ := renL_seg σ l
    have back : ∀ c u, segCell (renL σ l) c = some u → ∃ v, segCell l c = some v ∧ u = ren σ v := by
      intro c u hu
      have hlt := segCell_lt _ _ _ hu
      rw [s1] at hlt
      obtain ⟨v, hv⟩ := segCell_some l c hlt
      have := s2 c v hv
      rw [this] at hu; cases hu
      exact ⟨v, hv, rfl⟩
    have one : ∀ c v, segCell l c = some v → ∀ v', VRel ρ (ren σ v) v' ↔ VRel (fun i => ρ (σ i)) v v' := by
      intro c v hv
      rcases segCell_size l c v hv with hm | ⟨k, n, rfl⟩
      · exact ih v hm
      · intro v'; simp only [ren]; exact ⟨fun h => by cases h; exact .int _ _, fun h => by cases h; exact .int _ _⟩
    constructor
    · intro h
      cases h with
      | agg h1 h2 h3 =>
      exact .agg (by rw [h1, s1]) (fun c v hv => by have := h2 c _ (s2 c v hv); rwa [ren_scal] at this) (fun c v hv => (one c v hv _).1 (h3 c _ (s2 c v hv)))
    · intro h
      cases h with
      | agg h1 h2 h3 =>
      refine .agg (by rw [h1, s1]) (fun c u hu => ?_) (fun c u hu => ?_)
      · obtain ⟨v, hv, rfl⟩ := back c u hu
        rw [ren_scal]; exact h2 c v hv
      · obtain ⟨v, hv, rfl⟩ := back c u hu
        exact (one c v hv _).2 (h3 c v hv)
  | tuple l ih =>
    intro v'; simp only [ren]
    constructor
    · intro h
      cases h with
      | tuple h1 h2 =>
      exact .tuple (by rw [h1, renL_len]) (fun i v hv => (ih v (List.mem_of_getElem? hv) _).1 (h2 i _ (renL_get σ _ i v hv)))
    · intro h
      cases h with
      | tuple h1 h2 =>
      refine .tuple (by rw [h1, renL_len]) (fun i u hu => ?_)
      have hlt := (List.getElem?_eq_some_iff.1 hu).1
      rw [renL_len] at hlt
      have := renL_get σ l i l[i] (by simp)
      rw [this] at hu; cases hu
      exact (ih l[i] (by simp) _).2 (h2 i l[i] (by simp))
  | any u => intro v'; simp only [ren]; exact ⟨fun h => by cases h with | any a => exact .any a, fun h => by cases h with | any a => exact .any a⟩
  | nil => rename_i v hv _; exact absurd hv (by simp)
  | cons u l ihu ihl =>
    rename_i v hv _
    cases hv with
    | head => exact ihu _
    | tail _ hv => exact ihl v hv _

theorem renL_rels {ρ : Inj} {σ : Nat → Nat} : ∀ (l : List SV) (l' : List Value), VRels ρ (renL σ l) l' → VRels (fun i => ρ (σ i)) l l'
  | [], _, h => by cases h; exact .nil
  | v :: l, _, h => by
    simp only [renL] at h
    cases h with
    | cons h1 h2 => exact .cons ((ren_rel v _).1 h1) (renL_rels l _ h2)

def renO (σ : Nat → Nat) : SObj → SObj
  | .dead => .dead
  | .cells l e => .cells (renL σ l) e
  | .ints k n f e ro => .ints k n f e ro
  | .tab w n g e ro => .tab w n (fun i => renL σ (g i)) e ro
  | .map kvs => .map (kvs.map fun p => (ren σ p.1, ren σ p.2))
  | .iter m a b c => .iter (m.map σ) a b c

theorem seg_back {σ : Nat → Nat} {l : List SV} {c u} (h : segCell (renL σ l) c = some u) : ∃ v, segCell l c = some v ∧ u = ren σ v := by
  obtain ⟨s1, s2⟩ := renL_seg σ l
  have hlt := segCell_lt _ _ _ h
  rw [s1] at hlt
  obtain ⟨v, hv⟩ := segCell_some l c hlt
  have := s2 c v hv
  rw [this] at h; cases h
  exact ⟨v, hv, rfl⟩

theorem renO_cell {σ : Nat → Nat} {o : SObj} {i j v} (h : o.cell i j = some v) : (renO σ o).cell i j = some (ren σ v) := by
  cases o <;> simp only [SObj.cell, renO] at h ⊢ <;> (try cases h; done)
  case cells l e =>
    split at h
    · rename_i hi; rw [if_pos hi]; exact (renL_seg σ l).2 _ _ h
    · cases h
  case ints k n f e ro =>
    split at h
    · rename_i hi; rw [if_pos hi]; cases h; rfl
    · cases h
  case tab w n g e ro =>
    split at h
    · rename_i hi; rw [if_pos hi]; exact (renL_seg σ _).2 _ _ h
    · cases h

theorem renO_back {σ : Nat → Nat} {o : SObj} {i j u} (h : (renO σ o).cell i j = some u) : ∃ v, o.cell i j = some v ∧ u = ren σ v := by
  cases o <;> simp only [SObj.cell, renO] at h ⊢ <;> (try cases h; done)
  case cells l e =>
    split at h
    · rename_i hi; rw [if_pos hi]; exact seg_back h
    · cases h
  case ints k n f e ro =>
    split at h
    · rename_i hi; rw [if_pos hi]; cases h; exact ⟨_, rfl, rfl⟩
    · cases h
  case tab w n g e ro =>
    split at h
    · rename_i hi; rw [if_pos hi]; exact seg_back h
    · cases h

theorem ents_ren {ρ : Inj} {σ : Nat → Nat} : ∀ (l : List (SV × SV)) (es : List MapEntry), EntRel ρ (l.map fun p => (ren σ p.1, ren σ p.2)) es ↔ EntRel (fun i => ρ (σ i)) l es
  | [], es => ⟨fun h => by cases h; exact .nil, fun h => by cases h; exact .nil⟩
  | (k, v) :: l, es => by
    constructor
    · intro h
      cases h with
      | cons h1 h2 h3 => exact .cons ((ren_rel k _).1 h1) ((ren_rel v _).1 h2) ((ents_ren l _).1 h3)
    · intro h
      cases h with
      | cons h1 h2 h3 => exact .cons ((ren_rel k _).2 h1) ((ren_rel v _).2 h2) ((ents_ren l _).2 h3)

theorem renO_live (σ : Nat → Nat) (o : SObj) : (renO σ o).live = o.live := by cases o <;> rfl
theorem renO_ro (σ : Nat → Nat) (o : SObj) : (renO σ o).ro = o.ro := by cases o <;> rfl
theorem renO_elem (σ : Nat → Nat) (o : SObj) : (renO σ o).elem = o.elem := by cases o <;> rfl
theorem renO_width (σ : Nat → Nat) (o : SObj) : (renO σ o).width = o.width := by cases o <;> rfl

theorem osat_ren {ρ : Inj} {σ : Nat → Nat} {o : SObj} {e heap} : OSat ρ (renO σ o) e heap ↔ OSat (fun i => ρ (σ i)) o e heap := by
  have arr : (e.w = (renO σ o).width ∧ ∃ c t fr, heap[e.b]? = some (.cells c t fr) ∧ e.top ≤ c.size ∧ ((renO σ o).ro = false → t = (renO σ o).elem ∧ fr = (0, 0) ∧ e.top = c.size) ∧
      ∀ i j v, (renO σ o).cell i j = some v → v.scal = true ∧ ∃ v', c[e.d + i * e.w + j]? = some v' ∧ VRel ρ v v') ↔
      (e.w = o.width ∧ ∃ c t fr, heap[e.b]? = some (.cells c t fr) ∧ e.top ≤ c.size ∧ (o.ro = false → t = o.elem ∧ fr = (0, 0) ∧ e.top = c.size) ∧
      ∀ i j v, o.cell i j = some v → v.scal = true ∧ ∃ v', c[e.d + i * e.w + j]? = some v' ∧ VRel (fun i => ρ (σ i)) v v') := by
    rw [renO_width, renO_ro, renO_elem]
    constructor
    · rintro ⟨h0, c, t, fr, h1, h2, h3, h4⟩
      refine ⟨h0, c, t, fr, h1, h2, h3, fun i j v hv => ?_⟩
      obtain ⟨a, v', b, r⟩ := h4 i j _ (renO_cell hv)
      rw [ren_scal] at a
      exact ⟨a, v', b, (ren_rel v _).1 r⟩
    · rintro ⟨h0, c, t, fr, h1, h2, h3, h4⟩
      refine ⟨h0, c, t, fr, h1, h2, h3, fun i j u hu => ?_⟩
      obtain ⟨v, hv, rfl⟩ := renO_back hu
      obtain ⟨a, v', b, r⟩ := h4 i j v hv
      exact ⟨by rw [ren_scal]; exact a, v', b, (ren_rel v _).2 r⟩
  cases o with
  | dead => exact Iff.rfl
  | map kvs =>
    constructor
    · rintro ⟨es, clock, h1, h2, h3⟩; exact ⟨es, clock, h1, (ents_ren kvs _).1 h2, h3⟩
    · rintro ⟨es, clock, h1, h2, h3⟩; exact ⟨es, clock, h1, (ents_ren kvs _).2 h2, h3⟩
  | iter m a b c =>
    have key : ∀ m', itRel ρ (m.map σ) m' ↔ itRel (fun i => ρ (σ i)) m m' := by
      intro m'
      cases m <;> exact Iff.rfl
    constructor
    · rintro ⟨h0, m', h1, h2⟩; exact ⟨h0, m', h1, (key m').1 h2⟩
    · rintro ⟨h0, m', h1, h2⟩; exact ⟨h0, m', h1, (key m').2 h2⟩
  | cells l e => exact arr
  | ints k n f e ro => exact arr
  | tab w n g e ro => exact arr

/-- where the blocks of a small heap lie in a great one -/
def sig (m n : Nat) (l : List Nat) : Nat → Nat := fun i => if i < m then l.getD i 0 else n + (i - m)

/-- the objects of a small heap, back in the great one -/
def putAll (σ : Nat → Nat) : List Nat → List SObj → SH → SH
  | [], _, sh => sh
  | _ :: _, [], sh => sh
  | j :: js, o :: os, sh => putAll σ js os (sh.set j (renO σ o))

def merge (m : Nat) (σl : List Nat) (sh sh0' : SH) : SH :=
  putAll (sig m sh.length σl) σl (sh0'.take m) sh ++ (sh0'.drop m).map (renO (sig m sh.length σl))

theorem putAll_length (σ : Nat → Nat) : ∀ (js : List Nat) (os : List SObj) (sh : SH), (putAll σ js os sh).length = sh.length
  | [], _, _ => rfl
  | _ :: _, [], _ => rfl
  | j :: js, o :: os, sh => by simp [putAll, putAll_length σ js os]

theorem putAll_other (σ : Nat → Nat) : ∀ (js : List Nat) (os : List SObj) (sh : SH) (k : Nat), k ∉ js → (putAll σ js os sh)[k]? = sh[k]?
  | [], _, _, _, _ => rfl
  | _ :: _, [], _, _, _ => rfl
  | j :: js, o :: os, sh, k, h => by
    simp only [List.mem_cons, not_or] at h
    simp only [putAll]
    rw [putAll_other σ js os _ k h.2, List.getElem?_set_ne (fun e => h.1 e.symm)]

theorem putAll_at (σ : Nat → Nat) : ∀ (js : List Nat) (os : List SObj) (sh : SH) (i j : Nat) (o : SObj), js.Nodup → js[i]? = some j → os[i]? = some o → j < sh.length → (putAll σ js os sh)[j]? = some (renO σ o)
  | [], _, _, _, _, _, _, h, _, _ => by simp at h
  | _ :: _, [], _, _, _, _, _, _, h, _ => by simp at h
  | j0 :: js, o0 :: os, sh, i, j, o, hn, h1, h2, hlt => by
    simp only [putAll]
    rw [List.nodup_cons] at hn
    cases i with
    | zero =>
      simp at h1 h2; subst h1; subst h2
      rw [putAll_other σ js os _ _ hn.1, List.getElem?_set_self hlt]
    | succ i => exact putAll_at σ js os _ i j o hn.2 (by simpa using h1) (by simpa using h2) (by simpa using hlt)

end Go.Rv
