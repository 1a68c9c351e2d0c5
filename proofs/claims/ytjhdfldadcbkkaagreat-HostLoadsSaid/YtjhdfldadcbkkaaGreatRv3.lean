/- A part of the evaluator of the model's code, or of its tables: what is proved is said in the claim's last text. -/
import Derived.Test.YtjhdfldadcbkkaaGreatRv2
namespace Go.Rv

def ifB (b : Bool) (X Y : Prop) : Prop := match b with | true => X | false => Y

theorem ifB_or {b : Bool} {X Y : Prop} (h : ifB b X Y) : (b = true ∧ X) ∨ (b = false ∧ Y) := by
  cases b
  · exact .inr ⟨rfl, h⟩
  · exact .inl ⟨rfl, h⟩

theorem ifB_yes {b : Bool} {X : Prop} (h : ifB b X False) : b = true ∧ X := by
  cases b
  · exact h.elim
  · exact ⟨rfl, h⟩

/-- what a computation comes to -/
def Res (P : Program) (s : Sem Value) (ρ : Inj) (sh : SH) (w : World) (K : SV → SH → Prop) : Prop :=
  ∃ v v' sh' ρ' w', s.run P w = .ok v' w' ∧ K v sh' ∧ VRel ρ' v v' ∧ Rep ρ' sh' w'.heap ∧ Step ρ sh w ρ' sh' w'

theorem Res.quiet {P s ρ sh w} {K : SV → SH → Prop} {v v'} (hr : s.run P w = .ok v' w) (hv : VRel ρ v v') (hρ : Rep ρ sh w.heap) (hk : K v sh) : Res P s ρ sh w K :=
  ⟨v, v', sh, ρ, w, hr, hk, hv, hρ, Step.refl _ _ _⟩

/-! ## types -/

def aggT (P : Program) (t : TypeId) : Option Bool :=
  match P.underlying t with
  | some (.struct _) | some (.array _ _) => some true
  | some _ => some false
  | none => none

theorem run_isAgg {P : Program} {t b} (h : aggT P t = some b) (w : World) : (isAgg t).run P w = .ok b w := by
  unfold aggT at h
  cases hu : P.underlying t with
  | none => simp [hu] at h
  | some d => cases d <;> simp [hu] at h <;> subst h <;> simp [isAgg, run_underlying hu]

/-- the cells of a type -/
def sizeT (P : Program) (t : TypeId) : Option Nat := (P.info? t).map (·.size)

theorem run_size {P : Program} {t n} (h : sizeT P t = some n) (w : World) : (sizeOf t).run P w = .ok n w := by
  unfold sizeT at h
  cases hi : P.info? t with
  | none => simp [hi] at h
  | some i => simp [hi] at h; simp [sizeOf, typeInfo, hi, h]

/-! ## reading -/

def segGet : List SV → Nat → Nat → (SV → Prop) → Prop
  | [], _, _, _ => False
  | .vec k n f :: l, j, x, K => if j < n then ifB (decide (x + j < n)) (K (.int k (f (x + j)))) False else segGet l (j - n) x K
  | v :: _, 0, x, K => match x with
    | 0 => K v
    | _ + 1 => False
  | _ :: l, j + 1, x, K => segGet l j x K

theorem segGet_spec : ∀ (l : List SV) (j x : Nat) (K : SV → Prop), segGet l j x K → ∃ v, segCell l (j + x) = some v ∧ K v
  | [], j, x, K, h => h.elim
  | u :: l, j, x, K, h => by
    cases u
    case vec k n f =>
      simp only [segGet] at h
      split at h
      · obtain ⟨h1, h2⟩ := ifB_yes h
        have := of_decide_eq_true h1
        refine ⟨_, ?_, h2⟩
        simp only [segCell]
        rw [if_pos (by omega), Nat.add_comm]
      · rename_i hn
        obtain ⟨v, h1, h2⟩ := segGet_spec l _ x K h
        refine ⟨v, ?_, h2⟩
        simp only [segCell]
        rw [if_neg (by omega), ← h1]
        congr 1; omega
    all_goals
      cases j with
      | zero =>
        cases x with
        | zero => exact ⟨_, rfl, h⟩
        | succ x => exact h.elim
      | succ j =>
        obtain ⟨v, h1, h2⟩ := segGet_spec l j x K h
        refine ⟨v, ?_, h2⟩
        rw [show j + 1 + x = (j + x) + 1 by omega]
        exact h1

def objGet (o : SObj) (i j x : Nat) (K : SV → Prop) : Prop :=
  match o with
  | .cells l _ => match i with
    | 0 => segGet l j x K
    | _ + 1 => False
  | .ints k n f _ _ => match j, x with
    | 0, 0 => ifB (decide (i < n)) (K (.int k (f i))) False
    | _, _ => False
  | .tab w n get _ _ => ifB (decide (i < n)) (ifB (decide (x + j < w)) (segGet (get i) j x K) False) False
  | _ => False

theorem objGet_spec {o : SObj} {i j x : Nat} {K : SV → Prop} (h : objGet o i j x K) : ∃ v, o.cell i (j + x) = some v ∧ K v := by
  cases o with
  | dead => exact h.elim
  | map _ => exact h.elim
  | iter _ _ _ _ => exact h.elim
  | cells l e =>
    cases i with
    | zero =>
      obtain ⟨v, h1, h2⟩ := segGet_spec l j x K h
      exact ⟨v, by simpa [SObj.cell] using h1, h2⟩
    | succ i => exact h.elim
  | ints k n f e ro =>
    cases j with
    | zero =>
      cases x with
      | zero =>
        obtain ⟨h1, h2⟩ := ifB_yes h
        exact ⟨_, by simp [SObj.cell, of_decide_eq_true h1], h2⟩
      | succ x => exact h.elim
    | succ j => exact h.elim
  | tab w n get e ro =>
    obtain ⟨h1, h2⟩ := ifB_yes h
    obtain ⟨h0, h2⟩ := ifB_yes h2
    have h0 := of_decide_eq_true h0
    obtain ⟨v, h3, h4⟩ := segGet_spec _ _ _ _ h2
    exact ⟨v, by simp [SObj.cell, of_decide_eq_true h1, h3]; omega, h4⟩

def segSub (l : List SV) (j s : Nat) (K : List SV → Prop) : Prop :=
  match segDrop l j with
  | some l1 => match segTake l1 s with
    | some l2 => K l2
    | none => False
  | none => False

theorem segSub_spec {l : List SV} {j s : Nat} {K : List SV → Prop} (h : segSub l j s K) :
    ∃ l', K l' ∧ segLen l' = s ∧ j + s ≤ segLen l ∧ ∀ c, c < s → segCell l' c = segCell l (j + c) := by
  unfold segSub at h
  split at h
  · rename_i l1 h1
    split at h
    · rename_i l2 h2
      obtain ⟨a1, a2⟩ := segDrop_spec _ _ _ h1
      obtain ⟨b1, b2⟩ := segTake_spec _ _ _ h2
      refine ⟨l2, h, b1, ?_, fun c hc => by rw [b2 c hc, a2 c]⟩
      rcases Nat.eq_zero_or_pos s with hs | hs
      · omega
      · obtain ⟨v, hv⟩ := segCell_some l2 (s - 1) (by omega)
        rw [b2 _ (by omega)] at hv
        have := segCell_lt _ _ _ hv
        omega
    · exact h.elim
  · exact h.elim

def objSub (o : SObj) (i j x s : Nat) (K : List SV → Prop) : Prop :=
  match o with
  | .cells l _ => match i, x with
    | 0, 0 => segSub l j s K
    | _, _ => False
  | .ints k n f _ _ => match j, x with
    | 0, 0 => ifB (decide (i + s ≤ n)) (K [.vec k s (fun y => f (i + y))]) False
    | _, _ => False
  | .tab w n get _ _ => match x with
    | 0 => ifB (decide (i < n)) (ifB (decide (j + s ≤ w)) (segSub (get i) j s K) False) False
    | _ + 1 => False
  | _ => False

theorem objSub_spec {o : SObj} {i j x s : Nat} {K : List SV → Prop} (h : objSub o i j x s K) :
    ∃ l', K l' ∧ segLen l' = s ∧ x = 0 ∧ (∀ c v, segCell l' c = some v → c < s ∧ (o.cell i (j + c) = some v ∨ (o.width = 1 ∧ o.cell (i + c) j = some v))) := by
  cases o with
  | dead => exact h.elim
  | map _ => exact h.elim
  | iter _ _ _ _ => exact h.elim
  | cells l e =>
    cases i with
    | succ i => exact h.elim
    | zero =>
      cases x with
      | succ x => exact h.elim
      | zero =>
        obtain ⟨l', h1, h2, h3, h4⟩ := segSub_spec h
        refine ⟨l', h1, h2, rfl, fun c v hv => ?_⟩
        have hc : c < s := h2 ▸ segCell_lt _ _ _ hv
        exact ⟨hc, .inl (by simp [SObj.cell, ← h4 c hc, hv])⟩
  | ints k n f e ro =>
    cases j with
    | succ j => exact h.elim
    | zero =>
      cases x with
      | succ x => exact h.elim
      | zero =>
        obtain ⟨h1, h2⟩ := ifB_yes h
        have h1 := of_decide_eq_true h1
        refine ⟨_, h2, by simp [segLen, SV.len], rfl, fun c v hv => ?_⟩
        simp only [segCell] at hv
        split at hv
        · rename_i hc
          cases hv
          exact ⟨hc, .inr ⟨rfl, by simp [SObj.cell]; omega⟩⟩
        · simp at hv
  | tab w n get e ro =>
    cases x with
    | succ x => exact h.elim
    | zero =>
      obtain ⟨h1, h2⟩ := ifB_yes h
      obtain ⟨h0, h2⟩ := ifB_yes h2
      have h0 := of_decide_eq_true h0
      obtain ⟨l', h3, h4, h5, h6⟩ := segSub_spec h2
      refine ⟨l', h3, h4, rfl, fun c v hv => ?_⟩
      have hc : c < s := h4 ▸ segCell_lt _ _ _ hv
      exact ⟨hc, .inl (by simp [SObj.cell, of_decide_eq_true h1, ← h6 c hc, hv]; omega)⟩

def loadS (P : Program) (t : TypeId) (sh : SH) (a : SV) (K : SV → Prop) : Prop :=
  match a with
  | .ptr id i j x => match sh[id]? with
    | some o => match aggT P t with
      | some true => match sizeT P t with
        | some s => objSub o i j x s (fun l => K (.agg l))
        | none => False
      | some false => objGet o i j x K
      | none => False
    | none => False
  | _ => False

theorem addr_add (b o n : Nat) : (⟨b, o, none⟩ : Addr).add n = ⟨b, o + n, none⟩ := by
  unfold Addr.add; split <;> simp_all

theorem cell_of_heap {w : World} {b o : Nat} {c : Array Value} {t fr v} (h : w.heap[b]? = some (.cells c t fr)) (hc : c[o]? = some v) :
    w.cell? ⟨b, o, none⟩ = some v := by
  simp [World.cell?, h, hc]

theorem load_sound {P t sh a K ρ} {w : World} {a'} (h : loadS P t sh a K) (hρ : Rep ρ sh w.heap) (ha : VRel ρ a a') :
    ∃ v v', K v ∧ VRel ρ v v' ∧ (Instr.loadAt t a').run P w = .ok v' w := by
  unfold loadS at h
  split at h
  · rename_i id i j x
    cases ha with
    | ptr he ho =>
    rename_i e off
    split at h
    · rename_i o hsh
      split at h
      · rename_i hagg
        split at h
        · rename_i s hs
          obtain ⟨l, hk, hl, hx, hc⟩ := objSub_spec h
          subst hx
          have key : ∀ c v, segCell l c = some v → v.scal = true ∧ ∃ v', w.cell? ⟨e.b, off + c, none⟩ = some v' ∧ VRel ρ v v' := by
            intro c v hv
            obtain ⟨_, hcell⟩ := hc c v hv
            rcases hcell with hcell | ⟨hw1, hcell⟩
            · obtain ⟨e', v', he', hw, hsc, hr, cc, t', fr, hb, hcc⟩ := hρ.cell hsh hcell
              rw [he] at he'; cases he'
              refine ⟨hsc, v', cell_of_heap hb ?_, hr⟩
              rw [← hcc]; congr 1; omega
            · obtain ⟨e', v', he', hw, hsc, hr, cc, t', fr, hb, hcc⟩ := hρ.cell hsh hcell
              rw [he] at he'; cases he'
              refine ⟨hsc, v', cell_of_heap hb ?_, hr⟩
              rw [← hcc]; congr 1
              rw [hw1] at hw
              subst ho
              rw [hw]; omega
          have hrun := run_loadCells (P := P) w ⟨e.b, off, none⟩ s (fun c => (w.cell? ⟨e.b, off + c, none⟩).getD undef) (by
            intro c hcs
            obtain ⟨v, hv⟩ := segCell_some l c (by omega)
            obtain ⟨_, v', h1, _⟩ := key c v hv
            rw [addr_add, h1]; rfl)
          refine ⟨_, _, hk, VRel.agg (cs := ((List.range s).map fun c => (w.cell? ⟨e.b, off + c, none⟩).getD undef).toArray) ?_ ?_ ?_, ?_⟩
          · simp [hl]
          · intro c v hv; exact (key c v hv).1
          · intro c v hv
            obtain ⟨_, v', h1, h2⟩ := key c v hv
            have hcs := (hc c v hv).1
            simpa [Array.getD_eq_getD_getElem?, hcs, h1] using h2
          · simp [Instr.loadAt, Instr.sureAddr, loadVar, run_isAgg hagg, run_size hs, hrun]
        · exact h.elim
      · rename_i hagg
        obtain ⟨v, hcell, hk⟩ := objGet_spec h
        obtain ⟨e', v', he', hw, hsc, hr, cc, t', fr, hb, hcc⟩ := hρ.cell hsh hcell
        rw [he] at he'; cases he'
        refine ⟨v, v', hk, hr, ?_⟩
        have : w.cell? ⟨e.b, off, none⟩ = some v' := cell_of_heap hb (by rw [← hcc]; congr 1; omega)
        simp [Instr.loadAt, Instr.sureAddr, loadVar, run_isAgg hagg, this]
      · exact h.elim
    · exact h.elim
  · exact h.elim

end Go.Rv
