/- A part of the evaluator of the model's code, or of its tables: what is proved is said in the claim's last text. -/
import Derived.Test.YtjhdfldadcbkkaaGreatRv3
namespace Go.Rv

def updF (f : Nat → Int) (i : Nat) (m : Int) : Nat → Int := fun y => if y = i then m else f y
def updR (g : Nat → List SV) (i : Nat) (r : List SV) : Nat → List SV := fun y => if y = i then r else g y

/-! ## writing -/

def segSet : List SV → Nat → Nat → SV → (List SV → Prop) → Prop
  | [], _, _, _, _ => False
  | .vec k n f :: l, j, x, v, K => if j < n then (match v with
      | .int k' m => if k = k' then ifB (decide (x + j < n)) (K (.vec k n (updF f (x + j) m) :: l)) False else False
      | _ => False) else segSet l (j - n) x v (fun l' => K (.vec k n f :: l'))
  | _ :: l, 0, x, v, K => match x with
    | 0 => if v.scal = true then K (v :: l) else False
    | _ + 1 => False
  | u :: l, j + 1, x, v, K => segSet l j x v (fun l' => K (u :: l'))

theorem segSet_spec : ∀ (l : List SV) (j x : Nat) (v : SV) (K : List SV → Prop), segSet l j x v K →
    ∃ l', K l' ∧ segLen l' = segLen l ∧ j + x < segLen l ∧ v.scal = true ∧ ∀ c, segCell l' c = if c = j + x then some v else segCell l c
  | [], j, x, v, K, h => h.elim
  | u :: l, j, x, v, K, h => by
    cases u
    case vec k n f =>
      simp only [segSet] at h
      split at h
      · rename_i hj
        split at h
        · rename_i k' m
          split at h
          · rename_i hk
            subst hk
            obtain ⟨h1, h2⟩ := ifB_yes h
            have h1 := of_decide_eq_true h1
            refine ⟨_, h2, by simp [segLen, SV.len], by simp only [segLen, SV.len]; omega, rfl, fun c => ?_⟩
            simp only [segCell]
            by_cases hc : c < n
            · rw [if_pos hc, if_pos hc]
              by_cases hcx : c = j + x
              · rw [if_pos hcx]; simp [updF, hcx, Nat.add_comm]
              · rw [if_neg hcx]; simp [updF, show ¬ c = x + j by omega]
            · rw [if_neg hc, if_neg hc, if_neg (by omega)]
          · exact h.elim
        · exact h.elim
      · rename_i hj
        obtain ⟨l', h1, h2, h3, h4, h5⟩ := segSet_spec l _ x v _ h
        refine ⟨_, h1, by simp only [segLen, SV.len]; omega, by simp only [segLen, SV.len]; omega, h4, fun c => ?_⟩
        simp only [segCell]
        by_cases hc : c < n
        · rw [if_pos hc, if_pos hc, if_neg (by omega)]
        · rw [if_neg hc, if_neg hc, h5]
          by_cases hcx : c = j + x
          · rw [if_pos hcx, if_pos (by omega)]
          · rw [if_neg hcx, if_neg (by omega)]
    all_goals
      cases j with
      | zero =>
        cases x with
        | zero =>
          simp only [segSet] at h
          split at h
          · rename_i hs
            refine ⟨_, h, by cases v <;> first | rfl | (simp [SV.scal] at hs), by simp [segLen, SV.len]; omega, hs, fun c => ?_⟩
            cases c with
            | zero => cases v <;> first | rfl | (simp [SV.scal] at hs)
            | succ c => cases v <;> first | (simp [segCell]; done) | (simp [SV.scal] at hs)
          · exact h.elim
        | succ x => exact h.elim
      | succ j =>
        obtain ⟨l', h1, h2, h3, h4, h5⟩ := segSet_spec l j x v _ h
        refine ⟨_, h1, by simp only [segLen, SV.len]; omega, by simp only [segLen, SV.len]; omega, h4, fun c => ?_⟩
        cases c with
        | zero => simp [segCell]; omega
        | succ c =>
          simp only [segCell]
          rw [h5]
          by_cases hcx : c = j + x
          · rw [if_pos hcx, if_pos (by omega)]
          · rw [if_neg hcx, if_neg (by omega)]

/-- a struct's or variable's cells, laid anew at a place -/
def segWrite (l : List SV) (j x s : Nat) (v : SV) (K : List SV → Prop) : Prop :=
  match v with
  | .agg new => match x with
    | 0 => if segLen new = s then (match segPut l j new with
      | some l' => K l'
      | none => False) else False
    | _ + 1 => False
  | v => if s = 1 then segSet l j x v K else False

/-- the cells of a value -/
theorem segWrite_spec {l : List SV} {j x s : Nat} {v : SV} {K : List SV → Prop} (h : segWrite l j x s v K) {ρ : Inj} {v' : Value} (hv : VRel ρ v v') :
    ∃ l', K l' ∧ segLen l' = segLen l ∧ j + x + s ≤ segLen l ∧ v'.cells.size = s ∧ (∀ u ∈ v'.cells.toList, u.oneCell' = true) ∧
      ∀ c u, segCell l' c = some u → (j + x ≤ c ∧ c < j + x + s ∧ u.scal = true ∧ VRel ρ u (v'.cells.getD (c - (j + x)) undef)) ∨
        ((c < j + x ∨ j + x + s ≤ c) ∧ segCell l c = some u) := by
  unfold segWrite at h
  split at h
  · rename_i new
    cases hv with
    | agg h1 h2 h3 =>
    rename_i cs
    split at h
    · split at h
      · rename_i hs
        split at h
        · rename_i l' hp
          obtain ⟨a1, a2, a3⟩ := segPut_spec hp
          refine ⟨l', h, a1, by omega, by simp [Value.cells]; omega, ?_, fun c u hu => ?_⟩
          · intro u hu
            simp only [Value.cells, Array.mem_toList_iff] at hu
            obtain ⟨i, hi, rfl⟩ := Array.getElem_of_mem hu
            obtain ⟨w, hw⟩ := segCell_some new i (by omega)
            have := (h3 i w hw).one (h2 i w hw)
            simpa [Array.getD_eq_getD_getElem?, hi] using this
          · rw [a3] at hu
            split at hu
            · rename_i hc
              left
              refine ⟨by omega, by omega, h2 _ _ hu, ?_⟩
              simpa [Value.cells] using h3 _ _ hu
            · right; exact ⟨by omega, hu⟩
        · exact h.elim
      · exact h.elim
    · exact h.elim
  · split at h
    · rename_i hna hs
      subst hs
      obtain ⟨l', h1, h2, h3, h4, h5⟩ := segSet_spec _ _ _ _ _ h
      have hone := hv.one h4
      have hcells : v'.cells = #[v'] := by cases v' <;> first | rfl | (simp [Value.oneCell'] at hone)
      refine ⟨l', h1, h2, by omega, by simp [hcells], by simp [hcells, hone], fun c u hu => ?_⟩
      rw [h5] at hu
      split at hu
      · rename_i hc
        cases hu
        left
        refine ⟨by omega, by omega, h4, ?_⟩
        simpa [hcells, hc] using hv
      · right; exact ⟨by omega, hu⟩
    · exact h.elim

def storeS (P : Program) (t : TypeId) (sh : SH) (a v : SV) (K : SH → Prop) : Prop :=
  match a with
  | .ptr id i j x => match sizeT P t, sh[id]? with
    | some s, some (.cells l e) => match i with
      | 0 => segWrite l j x s v (fun l' => K (sh.set id (.cells l' e)))
      | _ + 1 => False
    | some _, some (.ints k n f e false) => match j, x, v with
      | 0, 0, .int k' m => if k = k' then (if sizeT P t = some 1 then ifB (decide (i < n)) (K (sh.set id (.ints k n (updF f i m) e false))) False else False) else False
      | _, _, _ => False
    | some s, some (.tab w n get e false) => ifB (decide (i < n)) (ifB (decide (segLen (get i) ≤ w)) (segWrite (get i) j x s v (fun r => K (sh.set id (.tab w n (updR get i r) e false)))) False) False
    | _, _ => False
  | _ => False

theorem getElem?_laid (cur : Array Value) (off : Nat) (vs : List Value) (h : off + vs.length ≤ cur.size) (m : Nat) :
    ((cur.toList.take off ++ vs ++ cur.toList.drop (off + vs.length)).toArray)[m]? =
      if m < off then cur[m]? else if m < off + vs.length then vs[m - off]? else cur[m]? := by
  have hl : (cur.toList.take off).length = off := by simp; omega
  simp only [List.getElem?_toArray]
  by_cases h1 : m < off
  · rw [if_pos h1, List.append_assoc, List.getElem?_append_left (by omega), List.getElem?_take]
    simp [h1]
  · rw [if_neg h1]
    by_cases h2 : m < off + vs.length
    · rw [if_pos h2, List.append_assoc, List.getElem?_append_right (by omega), List.getElem?_append_left (by omega), hl]
    · rw [if_neg h2, List.getElem?_append_right (by simp; omega), List.getElem?_drop]
      simp only [List.length_append, hl, Array.getElem?_toList]
      congr 1; omega

theorem write_sound {P : Program} {ρ sh} {w : World} (hρ : Rep ρ sh w.heap) {id o e} (ho : sh[id]? = some o) (hl : o.live = true) (hr : o.ro = false) (he : ρ id = some e)
    (harr : o.isArr = true) (o' : SObj) (hro' : o'.ro = false) (hel : o'.elem = o.elem) (hwd : o'.width = o.width) (harr' : o'.isArr = true) (off : Nat) (vs : List Value) (hone : ∀ v ∈ vs, v.oneCell' = true)
    (hin : ∀ c, c < vs.length → ∃ i j v, o.cell i j = some v ∧ e.d + i * e.w + j = off + c)
    (hcell : ∀ i j v, o'.cell i j = some v → (off ≤ e.d + i * e.w + j ∧ e.d + i * e.w + j < off + vs.length ∧ v.scal = true ∧ VRel ρ v (vs.getD (e.d + i * e.w + j - off) undef)) ∨
      ((e.d + i * e.w + j < off ∨ off + vs.length ≤ e.d + i * e.w + j) ∧ o.cell i j = some v)) :
    ∃ w', (storeCells ⟨e.b, off, none⟩ vs 0).run P w = .ok () w' ∧ Rep ρ (sh.set id o') w'.heap ∧ Step ρ sh w ρ (sh.set id o') w' := by
  obtain ⟨e', he', s⟩ := hρ.obj id o ho hl
  rw [he] at he'; cases he'
  have s' : e.w = o.width ∧ ∃ c t fr, w.heap[e.b]? = some (.cells c t fr) ∧ e.top ≤ c.size ∧
      (o.ro = false → t = o.elem ∧ fr = (0, 0) ∧ e.top = c.size) ∧
      ∀ i j v, o.cell i j = some v → v.scal = true ∧ ∃ v', c[e.d + i * e.w + j]? = some v' ∧ VRel ρ v v' := by
    cases o <;> first | exact s | (simp [SObj.live] at hl; done) | (simp [SObj.isArr] at harr; done)
  obtain ⟨hw, c, t, fr, hb, htop, hrw, hc⟩ := s'
  obtain ⟨ht, hfr, htop'⟩ := hrw hr
  subst hfr
  have hsz : off + vs.length ≤ c.size ∨ vs.length = 0 := by
    rcases Nat.eq_zero_or_pos vs.length with h0 | h0
    · exact .inr h0
    · left
      obtain ⟨i, j, v, hv, hij⟩ := hin (vs.length - 1) (by omega)
      obtain ⟨_, v', hcv, _⟩ := hc i j v hv
      have := (Array.getElem?_eq_some_iff.1 hcv).1
      omega
  rcases hsz with hsz | h0
  · have hrun := run_storeCells_at P e.b off t vs 0 c w hb (by omega) hone
    simp only [Nat.add_zero] at hrun
    refine ⟨_, hrun, ?_⟩
    refine hρ.write ho hl hr he o' hro' _ ?_
    have hsat : e.w = o'.width ∧ ∃ c2 t2 fr2, (w.setRow e.b (c.toList.take off ++ vs ++ c.toList.drop (off + vs.length)).toArray).heap[e.b]? = some (.cells c2 t2 fr2) ∧ e.top ≤ c2.size ∧
        (o'.ro = false → t2 = o'.elem ∧ fr2 = (0, 0) ∧ e.top = c2.size) ∧
        ∀ i j v, o'.cell i j = some v → v.scal = true ∧ ∃ v', c2[e.d + i * e.w + j]? = some v' ∧ VRel ρ v v' := by
      refine ⟨by rw [hwd]; exact hw, _, t, (0, 0), setRow_heap w e.b c _ t (0, 0) hb, ?_, fun _ => ⟨by rw [hel]; exact ht, rfl, ?_⟩, ?_⟩
      · simp; omega
      · simp; omega
      · intro i j v hv
        rw [getElem?_laid c off vs hsz]
        rcases hcell i j v hv with ⟨h1, h2, h3, h4⟩ | ⟨h1, h2⟩
        · rw [if_neg (by omega), if_pos h2]
          refine ⟨h3, vs.getD (e.d + i * e.w + j - off) undef, ?_, h4⟩
          have : e.d + i * e.w + j - off < vs.length := by omega
          simp [List.getD, this]
        · obtain ⟨h3, v', h4, h5⟩ := hc i j v h2
          refine ⟨h3, v', ?_, h5⟩
          by_cases hlt : e.d + i * e.w + j < off
          · rw [if_pos hlt]; exact h4
          · rw [if_neg hlt, if_neg (by omega)]; exact h4
    cases o' <;> first | exact hsat | trivial | (simp [SObj.isArr] at harr'; done)
  · have hvs : vs = [] := List.eq_nil_of_length_eq_zero h0
    subst hvs
    refine ⟨w, rfl, ?_⟩
    have hrow : w.setRow e.b c = w := setRow_self w e.b c t (0, 0) hb
    have := hρ.write ho hl hr he o' hro' c (by
      rw [hrow]
      have hsat : e.w = o'.width ∧ ∃ c2 t2 fr2, w.heap[e.b]? = some (.cells c2 t2 fr2) ∧ e.top ≤ c2.size ∧
          (o'.ro = false → t2 = o'.elem ∧ fr2 = (0, 0) ∧ e.top = c2.size) ∧
          ∀ i j v, o'.cell i j = some v → v.scal = true ∧ ∃ v', c2[e.d + i * e.w + j]? = some v' ∧ VRel ρ v v' := by
        refine ⟨by rw [hwd]; exact hw, c, t, (0, 0), hb, htop, fun _ => ⟨by rw [hel]; exact ht, rfl, htop'⟩, fun i j v hv => ?_⟩
        rcases hcell i j v hv with ⟨h1, h2, _⟩ | ⟨h1, h2⟩
        · simp at h2; omega
        · exact hc i j v h2
      cases o' <;> first | exact hsat | trivial | (simp [SObj.isArr] at harr'; done))
    rwa [hrow] at this

theorem store_sound {P t sh a v K ρ} {w : World} {a' v'} (h : storeS P t sh a v K) (hρ : Rep ρ sh w.heap) (ha : VRel ρ a a') (hv : VRel ρ v v') :
    ∃ sh' w', K sh' ∧ (Instr.storeAt t a' v').run P w = .ok () w' ∧ Rep ρ sh' w'.heap ∧ Step ρ sh w ρ sh' w' := by
  unfold storeS at h
  split at h
  · rename_i id i j x
    cases ha with
    | ptr he hoff =>
    rename_i e off
    have run : ∀ {s : Nat}, sizeT P t = some s → v'.cells.size = s → (Instr.storeAt t (.pointer (some ⟨e.b, off, none⟩)) v').run P w = (storeCells ⟨e.b, off, none⟩ v'.cells.toList 0).run P w := by
      intro s hs hvs
      simp [Instr.storeAt, Instr.sureAddr, storeVar, run_size hs, hvs]
    split at h
    · rename_i s l t' hs hsh
      split at h
      · obtain ⟨l', h1, h2, h3, h4, h5, h6⟩ := segWrite_spec h hv
        have hw : e.w = 1 := by
          obtain ⟨e', he', hwd, _⟩ := hρ.obj _ _ hsh rfl
          rw [he] at he'; cases he'
          exact hwd
        obtain ⟨w', hr, hρ', hst⟩ := write_sound (P := P) hρ hsh rfl rfl he rfl (.cells l' t') rfl rfl rfl rfl off v'.cells.toList h5
          (by
            intro c hc
            simp only [Array.length_toList] at hc
            obtain ⟨u, hu⟩ := segCell_some l (j + x + c) (by omega)
            exact ⟨0, j + x + c, u, by simp [SObj.cell, hu], by rw [hw] at hoff; rw [hw]; omega⟩)
          (by
            intro i2 j2 u hu
            simp only [SObj.cell] at hu ⊢
            split at hu
            · rename_i hi2
              subst hi2
              simp only [Array.length_toList, h4, hw] at *
              rcases h6 j2 u hu with ⟨b1, b2, b3, b4⟩ | ⟨b1, b2⟩
              · left
                refine ⟨by omega, by omega, b3, ?_⟩
                have hh : e.d + 0 * 1 + j2 - off = j2 - (j + x) := by omega
                rw [hh]
                simpa [Array.getD_eq_getD_getElem?, List.getD] using b4
              · right
                exact ⟨by omega, by simpa using b2⟩
            · cases hu)
        exact ⟨_, w', h1, by rw [run hs h4]; exact hr, hρ', hst⟩
      · exact h.elim
    · rename_i s k n f t' hs hsh
      split at h
      · rename_i k' m
        split at h
        · rename_i hk
          subst hk
          split at h
          · rename_i hs1
            rw [hs] at hs1; cases hs1
            obtain ⟨h1, h2⟩ := ifB_yes h
            have h1 := of_decide_eq_true h1
            cases hv
            have hw : e.w = 1 := by
              obtain ⟨e', he', hwd, _⟩ := hρ.obj _ _ hsh rfl
              rw [he] at he'; cases he'
              exact hwd
            obtain ⟨w', hr, hρ', hst⟩ := write_sound (P := P) hρ hsh rfl rfl he rfl (.ints k n (updF f i m) t' false) rfl rfl rfl rfl off [.int k m] (by simp [Value.oneCell'])
              (by
                intro c hc
                simp at hc
                exact ⟨i, 0, _, by simp [SObj.cell, h1]; rfl, by rw [hw] at hoff; rw [hw]; omega⟩)
              (by
                intro i2 j2 u hu
                simp only [SObj.cell] at hu ⊢
                split at hu
                · rename_i hi2
                  cases hu
                  simp only [List.length_singleton, hw] at *
                  by_cases hii : i2 = i
                  · left
                    subst hii
                    refine ⟨by omega, by omega, rfl, ?_⟩
                    have hh : e.d + i2 * 1 + j2 - off = 0 := by omega
                    rw [hh]
                    simp [updF]
                    exact .int _ _
                  · right
                    refine ⟨by omega, ?_⟩
                    rw [if_pos hi2]
                    simp [updF, hii]
                · cases hu)
            exact ⟨_, w', h2, by rw [run hs rfl]; exact hr, hρ', hst⟩
          · exact h.elim
        · exact h.elim
      · exact h.elim
    · rename_i s wd n get t' hs hsh
      obtain ⟨h1, h2⟩ := ifB_yes h
      obtain ⟨h0, h2⟩ := ifB_yes h2
      have h1 := of_decide_eq_true h1
      have h0 := of_decide_eq_true h0
      obtain ⟨l', a1, a2, a3, a4, a5, a6⟩ := segWrite_spec h2 hv
      have hw : e.w = wd := by
        obtain ⟨e', he', hwd, _⟩ := hρ.obj _ _ hsh rfl
        rw [he] at he'; cases he'
        exact hwd
      obtain ⟨w', hr, hρ', hst⟩ := write_sound (P := P) hρ hsh rfl rfl he rfl (.tab wd n (updR get i l') t' false) rfl rfl rfl rfl off v'.cells.toList a5
        (by
          intro c hc
          simp only [Array.length_toList] at hc
          obtain ⟨u, hu⟩ := segCell_some (get i) (j + x + c) (by omega)
          have := segCell_lt _ _ _ hu
          exact ⟨i, j + x + c, u, by simp [SObj.cell, h1, hu]; omega, by rw [hw] at hoff; rw [hw]; omega⟩)
        (by
          intro i2 j2 u hu
          simp only [SObj.cell] at hu ⊢
          split at hu
          · rename_i hi2
            simp only [Array.length_toList, a4, hw] at *
            by_cases hii : i2 = i
            · subst hii
              simp only [updR, if_true] at hu
              rcases a6 j2 u hu with ⟨b1, b2, b3, b4⟩ | ⟨b1, b2⟩
              · left
                refine ⟨by omega, by omega, b3, ?_⟩
                have hh : e.d + i2 * wd + j2 - off = j2 - (j + x) := by omega
                rw [hh]
                simpa [Array.getD_eq_getD_getElem?, List.getD] using b4
              · right
                exact ⟨by omega, by rw [if_pos hi2]; exact b2⟩
            · right
              simp only [updR, if_neg hii] at hu
              refine ⟨?_, by rw [if_pos hi2]; exact hu⟩
              have hjx : j + x + s ≤ wd := by omega
              rcases Nat.lt_or_gt_of_ne hii with hlt | hgt
              · left
                have : i2 * wd + wd ≤ i * wd := by
                  have := Nat.mul_le_mul_right wd (Nat.succ_le_of_lt hlt)
                  rw [Nat.succ_mul] at this; exact this
                omega
              · right
                have : i * wd + wd ≤ i2 * wd := by
                  have := Nat.mul_le_mul_right wd (Nat.succ_le_of_lt hgt)
                  rw [Nat.succ_mul] at this; exact this
                omega
          · cases hu)
      exact ⟨_, w', a1, by rw [run hs a4]; exact hr, hρ', hst⟩
    · exact h.elim
  · exact h.elim

end Go.Rv
