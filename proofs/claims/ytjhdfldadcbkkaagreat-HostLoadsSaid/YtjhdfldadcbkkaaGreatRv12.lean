/- A part of the evaluator of the model's code, or of its tables: what is proved is said in the claim's last text. -/
import Derived.Test.YtjhdfldadcbkkaaGreatRv11
namespace Go.Rv

def copyS (P : Program) (dT : TypeId) (sh : SH) (dst src : SV) (K : SV → SH → Prop) : Prop :=
  match P.underlying dT with
  | some (.slice e) => match sizeT P e with
    | some (sz + 1) => rowsOf sh (sz + 1) src (fun n r => match dst with
      | .nils => K (.int .i64 ((min n 0 : Nat) : Int)) sh
      | .slice id i j len _ => match sh[id]? with
        | some (.ints k m f e' false) => match j, r with
          | 0, .ints k' g => if k = k' then ifB (decide (i + len ≤ m)) (K (.int .i64 ((min n len : Nat) : Int)) (sh.set id (.ints k m (splF i (min n len) g f) e' false))) False else False
          | _, _ => False
        | some (.tab w m get e' false) => match j, r with
          | 0, .tab g => if w = sz + 1 then ifB (decide (i + len ≤ m)) (ifB (fullR w (min n len) (shiftR get i)) (K (.int .i64 ((min n len : Nat) : Int)) (sh.set id (.tab w m (splR i (min n len) g get) e' false))) False) False else False
          | _, _ => False
        | some (.cells l t) => match i, r with
          | 0, .ints k g => match segPut l j [.vec k (min n len) g] with
            | some l' => K (.int .i64 ((min n len : Nat) : Int)) (sh.set id (.cells l' t))
            | none => False
          | _, _ => False
        | _ => False
      | _ => False)
    | _ => False
  | _ => False

/-- the first rows of a source -/
theorem rowsOf_first {P : Program} {sh s x K ρ} {w : World} {x'} (h : rowsOf sh s x K) (hρ : Rep ρ sh w.heap) (hx : VRel ρ x x') (hs : 1 ≤ s) :
    ∃ n r xa xc, K n r ∧ x' = .slice xa n xc ∧ ∀ m, m ≤ n → ∃ new : Array Value, new.size = m * s ∧ (∀ u ∈ new.toList, u.oneCell' = true) ∧ RowsAt ρ r s m (fun y => new[y]?) ∧
      (Builtin.firstCells s m (.slice xa n xc)).run P w = .ok new w := by
  obtain ⟨n, r, h, hsrc⟩ := rowsOf_spec h hρ hx w rfl
  rcases hsrc with ⟨rfl, hx0, hr⟩ | ⟨bb, off, cap', hx0, hrows⟩
  · refine ⟨0, r, none, 0, h, hx0, fun m hm => ?_⟩
    obtain rfl : m = 0 := by omega
    exact ⟨#[], by simp, by simp, hr _, rfl⟩
  · refine ⟨n, r, some ⟨bb, off, none⟩, cap', h, hx0, fun m hm => ?_⟩
    have hrm : RowsAt ρ r s m (fun y => w.cell? ⟨bb, off + y, none⟩) := by
      cases r with
      | ints k f => exact ⟨hrows.1, fun y hy => hrows.2 y (by omega)⟩
      | tab g => exact fun y hy => hrows y (by omega)
    have hget : ∀ c, c < m * s → (((List.range (m * s)).map fun c => (w.cell? ⟨bb, off + c, none⟩).getD undef).toArray)[c]? = w.cell? ⟨bb, off + c, none⟩ := by
      intro c hc
      obtain ⟨u, hu1, _⟩ := rows_cells hrm hs c hc
      simp [hc, hu1]
    refine ⟨_, by simp, ?_, hrm.congr hget, run_firstCells (P := P) (cap' := cap') w hrows hs m hm⟩
    intro u hu
    simp only [List.mem_map, List.mem_range] at hu
    obtain ⟨c, hc, rfl⟩ := hu
    obtain ⟨u, hu1, hu2⟩ := rows_cells hrm hs c hc
    simpa [hu1] using hu2

theorem getD_list {cs : Array Value} {c : Nat} {v : Value} (h : cs[c]? = some v) : cs.toList.getD c undef = v := by
  simp [List.getD, h]

theorem inrange {a b i2 i n j2 w : Nat} (h1 : a = b + i * w) (hj : j2 < w) (h2 : i ≤ i2 ∧ i2 < i + n) : a ≤ b + i2 * w + j2 ∧ b + i2 * w + j2 < a + n * w ∧ b + i2 * w + j2 - a = (i2 - i) * w + j2 := by
  obtain ⟨d, rfl⟩ : ∃ d, i2 = i + d := ⟨i2 - i, by omega⟩
  have h3 : d * w + w ≤ n * w := by
    have := Nat.mul_le_mul_right w (Nat.succ_le_of_lt (show d < n by omega))
    rw [Nat.succ_mul] at this; exact this
  have h4 : (i + d) * w = i * w + d * w := Nat.add_mul _ _ _
  rw [Nat.add_sub_cancel_left]
  omega

theorem outrange {a b i2 i n j2 w : Nat} (h1 : a = b + i * w) (hj : j2 < w) (h2 : ¬ (i ≤ i2 ∧ i2 < i + n)) : b + i2 * w + j2 < a ∨ a + n * w ≤ b + i2 * w + j2 := by
  rcases Nat.lt_or_ge i2 i with h | h
  · left
    have := Nat.mul_le_mul_right w (Nat.succ_le_of_lt h)
    rw [Nat.succ_mul] at this; omega
  · right
    have h5 : i + n ≤ i2 := by omega
    have := Nat.mul_le_mul_right w h5
    rw [Nat.add_mul] at this; omega

set_option maxRecDepth 20000 in
set_option maxHeartbeats 1000000 in
theorem copy_sound {P dT sT ty sh dst src K ρ} {w : World} {dst' src'} (h : copyS P dT sh dst src K) (hρ : Rep ρ sh w.heap) (hd : VRel ρ dst dst') (hsr : VRel ρ src src') :
    Res P (Builtin.copy_ #[dT, sT] ty #[dst', src']) ρ sh w K := by
  unfold copyS at h
  split at h
  · rename_i e hu
    split at h
    · rename_i sz hs
      have hh := h; clear h
      obtain ⟨n, r, xa, xc, h, rfl, hsrc⟩ := rowsOf_first (P := P) hh hρ hsr (by omega)
      clear hh
      have run : ∀ {base : Option Addr} {len cap' : Nat} {new : Array Value} {w' : World}, (Builtin.firstCells (sz + 1) (min n len) (.slice xa n xc)).run P w = .ok new w →
          (match base with | some a => storeCells a new.toList | none => (pure () : Sem Unit)).run P w = .ok () w' →
          (Builtin.copy_ #[dT, sT] ty #[.slice base len cap', .slice xa n xc]).run P w = .ok (.int .i64 ((min n len : Nat) : Int)) w' := by
        intro base len cap' new w' h1 h2
        have e1 : Nat.min n len = min n len := rfl
        cases base with
        | none =>
          simp only [Sem.run_pure] at h2
          cases h2
          simp [Builtin.copy_, run_underlying hu, run_size hs, Builtin.lenOf, e1, h1, goInt]
        | some a =>
          simp only at h2
          simp [Builtin.copy_, run_underlying hu, run_size hs, Builtin.lenOf, e1, h1, goInt, h2]
      split at h
      · cases hd
        obtain ⟨new, n1, n2, n3, n4⟩ := hsrc (min n 0) (by omega)
        exact Res.quiet (run (base := none) n4 rfl) (.int _ _) hρ h
      · rename_i id i j len cap
        obtain ⟨en, off, cap', he, rfl, ho, hc, hlen, htop⟩ := sane_slice hd
        obtain ⟨new, n1, n2, n3, n4⟩ := hsrc (min n len) (Nat.min_le_left _ _)
        have hnl : new.toList.length = (min n len) * (sz + 1) := by simpa using n1
        have hoff : min n len ≠ 0 → off = en.d + i * en.w + j := fun hne => ho (by omega)
        have zero : min n len = 0 → (storeCells ⟨en.b, off, none⟩ new.toList).run P w = .ok () w := by
          intro h0
          have : new = #[] := by apply Array.eq_empty_of_size_eq_zero; rw [n1, h0]; simp
          subst this; rfl
        have fin : ∀ (sh' : SH) (w' : World), (storeCells ⟨en.b, off, none⟩ new.toList).run P w = .ok () w' → Rep ρ sh' w'.heap → Step ρ sh w ρ sh' w' → K (.int .i64 ((min n len : Nat) : Int)) sh' →
            Res P (Builtin.copy_ #[dT, sT] ty #[.slice (some ⟨en.b, off, none⟩) len cap', .slice xa n xc]) ρ sh w K := by
          intro sh' w' h1 h2 h3 h4
          exact ⟨_, _, sh', ρ, w', run (base := some ⟨en.b, off, none⟩) n4 h1, h4, .int _ _, h2, h3⟩
        split at h
        · rename_i k m f e' hsh
          split at h
          · rename_i k' g
            split at h
            · rename_i hk
              subst hk
              obtain ⟨hb, h⟩ := ifB_yes h
              have hb := of_decide_eq_true hb
              obtain ⟨hs1, hrows⟩ := n3
              have hw : en.w = 1 := hρ.width hsh rfl rfl he
              have hsz : sz = 0 := by omega
              subst hsz
              have hin : ∀ c, c < new.toList.length → ∃ i2 j2 v, (SObj.ints k m f e' false).cell i2 j2 = some v ∧ en.d + i2 * en.w + j2 = off + c := by
                intro c hc
                have hc' : c < min n len := by omega
                have := hoff (by omega)
                refine ⟨i + c, 0, .int k (f (i + c)), by unfold SObj.cell; exact if_pos ⟨rfl, by omega⟩, ?_⟩
                rw [this, hw]; omega
              have hcell : ∀ i2 j2 v, (SObj.ints k m (splF i (min n len) g f) e' false).cell i2 j2 = some v →
                  (off ≤ en.d + i2 * en.w + j2 ∧ en.d + i2 * en.w + j2 < off + new.toList.length ∧ v.scal = true ∧ VRel ρ v (new.toList.getD (en.d + i2 * en.w + j2 - off) undef)) ∨
                  ((en.d + i2 * en.w + j2 < off ∨ off + new.toList.length ≤ en.d + i2 * en.w + j2) ∧ (SObj.ints k m f e' false).cell i2 j2 = some v) := by
                intro i2 j2 v hv
                simp only [SObj.cell] at hv ⊢
                split at hv
                · rename_i hij
                  cases hv
                  obtain ⟨rfl, hi2⟩ := hij
                  unfold splF
                  by_cases hr : i ≤ i2 ∧ i2 < i + min n len
                  · left
                    have hof := hoff (by omega)
                    obtain ⟨q1, q2, q3⟩ := inrange (w := 1) (b := en.d) (a := off) (n := min n len) (j2 := 0) (by rw [hw] at hof; exact hof) (by omega) hr
                    rw [hw, hnl, if_pos hr]
                    refine ⟨q1, q2, rfl, ?_⟩
                    rw [q3]
                    have := hrows (i2 - i) (by omega)
                    rw [show (i2 - i) * 1 + 0 = i2 - i by omega, getD_list this]
                    exact .int _ _
                  · right
                    rw [if_neg hr, if_pos ⟨rfl, hi2⟩]
                    refine ⟨?_, rfl⟩
                    rw [hnl, hw]
                    by_cases h0 : min n len = 0
                    · rw [h0]; omega
                    · exact outrange (w := 1) (by have hof := hoff h0; rw [hw] at hof; exact hof) (by omega) hr
                · cases hv
              obtain ⟨w', r1, r2, r3⟩ := write_sound (P := P) hρ hsh rfl rfl he rfl (.ints k m (splF i (min n len) g f) e' false) rfl rfl rfl rfl off new.toList n2 hin hcell
              exact fin _ _ r1 r2 r3 h
            · exact h.elim
          · exact h.elim
        · rename_i wd m get e' hsh
          split at h
          · rename_i g
            split at h
            · rename_i hk
              subst hk
              obtain ⟨hb, h⟩ := ifB_yes h
              obtain ⟨hfull, h⟩ := ifB_yes h
              have hb := of_decide_eq_true hb
              have hfull := fullR_spec hfull
              have hw : en.w = sz + 1 := hρ.width hsh rfl rfl he
              have hin : ∀ c, c < new.toList.length → ∃ i2 j2 v, (SObj.tab (sz + 1) m get e' false).cell i2 j2 = some v ∧ en.d + i2 * en.w + j2 = off + c := by
                intro c hc
                rw [hnl] at hc
                have hy : c / (sz + 1) < min n len := by rw [Nat.div_lt_iff_lt_mul (by omega)]; exact hc
                have hm : c % (sz + 1) < sz + 1 := Nat.mod_lt _ (by omega)
                have := hoff (by intro h0; rw [h0] at hy; exact absurd hy (Nat.not_lt_zero _))
                have hf := hfull _ hy
                obtain ⟨v, hv⟩ := segCell_some (get (i + c / (sz + 1))) (c % (sz + 1)) (by unfold shiftR at hf; rw [hf]; exact hm)
                refine ⟨i + c / (sz + 1), c % (sz + 1), v, by simp only [SObj.cell, if_pos (show i + c / (sz + 1) < m ∧ c % (sz + 1) < sz + 1 by omega)]; exact hv, ?_⟩
                rw [this, hw, Nat.add_mul]
                have := Nat.div_add_mod c (sz + 1)
                rw [Nat.mul_comm] at this
                omega
              have hcell : ∀ i2 j2 v, (SObj.tab (sz + 1) m (splR i (min n len) g get) e' false).cell i2 j2 = some v →
                  (off ≤ en.d + i2 * en.w + j2 ∧ en.d + i2 * en.w + j2 < off + new.toList.length ∧ v.scal = true ∧ VRel ρ v (new.toList.getD (en.d + i2 * en.w + j2 - off) undef)) ∨
                  ((en.d + i2 * en.w + j2 < off ∨ off + new.toList.length ≤ en.d + i2 * en.w + j2) ∧ (SObj.tab (sz + 1) m get e' false).cell i2 j2 = some v) := by
                intro i2 j2 v hv
                simp only [SObj.cell] at hv ⊢
                split at hv
                · rename_i hij
                  unfold splR at hv
                  by_cases hr : i ≤ i2 ∧ i2 < i + min n len
                  · left
                    rw [if_pos hr] at hv
                    have hof := hoff (by omega)
                    obtain ⟨q1, q2, q3⟩ := inrange (w := sz + 1) (b := en.d) (a := off) (n := min n len) (j2 := j2) (by rw [hw] at hof; exact hof) hij.2 hr
                    obtain ⟨_, hrr⟩ := n3 (i2 - i) (by omega)
                    obtain ⟨g1, v', g2, g3⟩ := hrr j2 v hv
                    rw [hw, hnl]
                    refine ⟨q1, q2, g1, ?_⟩
                    rw [q3, getD_list g2]
                    exact g3
                  · right
                    rw [if_neg hr] at hv
                    rw [if_pos hij]
                    refine ⟨?_, hv⟩
                    rw [hnl, hw]
                    by_cases h0 : min n len = 0
                    · rw [h0]; omega
                    · exact outrange (w := sz + 1) (by have hof := hoff h0; rw [hw] at hof; exact hof) hij.2 hr
                · cases hv
              obtain ⟨w', r1, r2, r3⟩ := write_sound (P := P) hρ hsh rfl rfl he rfl (.tab (sz + 1) m (splR i (min n len) g get) e' false) rfl rfl rfl rfl off new.toList n2 hin hcell
              exact fin _ _ r1 r2 r3 h
            · exact h.elim
          · exact h.elim
        · rename_i l t hsh
          split at h
          · rename_i k g
            split at h
            · rename_i l' hput
              obtain ⟨p1, p2, p3⟩ := segPut_spec hput
              have hseg : segLen [SV.vec k (min n len) g] = min n len := by simp [segLen, SV.len]
              obtain ⟨hs1, hrows⟩ := n3
              have hsz : sz = 0 := by omega
              subst hsz
              have hw : en.w = 1 := hρ.width hsh rfl rfl he
              have hin : ∀ c, c < new.toList.length → ∃ i2 j2 v, (SObj.cells l t).cell i2 j2 = some v ∧ en.d + i2 * en.w + j2 = off + c := by
                intro c hc
                have hc' : c < min n len := by omega
                have := hoff (by omega)
                obtain ⟨v, hv⟩ := segCell_some l (j + c) (by omega)
                exact ⟨0, j + c, v, by simp [SObj.cell, hv], by rw [this]; omega⟩
              have hcell : ∀ i2 j2 v, (SObj.cells l' t).cell i2 j2 = some v →
                  (off ≤ en.d + i2 * en.w + j2 ∧ en.d + i2 * en.w + j2 < off + new.toList.length ∧ v.scal = true ∧ VRel ρ v (new.toList.getD (en.d + i2 * en.w + j2 - off) undef)) ∨
                  ((en.d + i2 * en.w + j2 < off ∨ off + new.toList.length ≤ en.d + i2 * en.w + j2) ∧ (SObj.cells l t).cell i2 j2 = some v) := by
                intro i2 j2 v hv
                simp only [SObj.cell] at hv ⊢
                split at hv
                · rename_i hi2
                  subst hi2
                  rw [p3] at hv
                  rw [hnl, hw, if_pos rfl]
                  by_cases h0 : min n len = 0
                  · right
                    split at hv
                    · omega
                    · exact ⟨by rw [h0]; omega, hv⟩
                  · have hof := hoff h0
                    rw [hw] at hof
                    split at hv
                    · rename_i hr
                      left
                      simp only [segCell, if_pos (show j2 - j < min n len by omega)] at hv
                      cases hv
                      refine ⟨by omega, by omega, rfl, ?_⟩
                      have := hrows (j2 - j) (by omega)
                      rw [show en.d + 0 * 1 + j2 - off = j2 - j by omega, getD_list this]
                      exact .int _ _
                    · right
                      exact ⟨by omega, hv⟩
                · cases hv
              obtain ⟨w', r1, r2, r3⟩ := write_sound (P := P) hρ hsh rfl rfl he rfl (.cells l' t) rfl rfl rfl rfl off new.toList n2 hin hcell
              exact fin _ _ r1 r2 r3 h
            · exact h.elim
          · exact h.elim
        · exact h.elim
      · exact h.elim
    · exact h.elim
  · exact h.elim

end Go.Rv
