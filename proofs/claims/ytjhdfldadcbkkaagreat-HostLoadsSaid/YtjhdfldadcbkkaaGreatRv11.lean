/- A part of the evaluator of the model's code, or of its tables: what is proved is said in the claim's last text. -/
import Derived.Test.YtjhdfldadcbkkaaGreatRv10
namespace Go.Rv

/-! ## copy and append -/

/-- all cells of rows: there, and of one cell each -/
theorem rows_cells {ρ : Inj} {r s n} {vs : Nat → Option Value} (h : RowsAt ρ r s n vs) (hs : 1 ≤ s) : ∀ c, c < n * s → ∃ v, vs c = some v ∧ v.oneCell' = true := by
  intro c hc
  cases r with
  | ints k f =>
    obtain ⟨rfl, h⟩ := h
    exact ⟨_, h c (by omega), rfl⟩
  | tab g =>
    have hy : c / s < n := by
      rw [Nat.div_lt_iff_lt_mul (by omega)]; exact hc
    obtain ⟨h1, h2⟩ := h (c / s) hy
    obtain ⟨v, hv⟩ := segCell_some (g (c / s)) (c % s) (by rw [h1]; exact Nat.mod_lt _ (by omega))
    obtain ⟨h3, v', h4, h5⟩ := h2 _ v hv
    rw [Nat.mul_comm, Nat.div_add_mod] at h4
    exact ⟨v', h4, h5.one h3⟩

theorem lenOf_slice {P : Program} (w : World) (a n c) : (Builtin.lenOf (.slice a n c)).run P w = .ok n w := rfl

/-- the cells of a slice's rows, read -/
theorem run_firstCells {P : Program} {ρ : Inj} {r s n b off cap'} (w : World) (h : RowsAt ρ r s n (fun y => w.cell? ⟨b, off + y, none⟩)) (hs : 1 ≤ s) (m : Nat) (hm : m ≤ n) :
    (Builtin.firstCells s m (.slice (some ⟨b, off, none⟩) n cap')).run P w = .ok ((List.range (m * s)).map fun c => (w.cell? ⟨b, off + c, none⟩).getD undef).toArray w := by
  have : m * s ≤ n * s := Nat.mul_le_mul_right s hm
  simp only [Builtin.firstCells]
  exact run_loadCells w _ _ _ (fun j hj => by
    obtain ⟨v, hv, _⟩ := rows_cells h hs j (by omega)
    rw [addr_add, hv]; rfl)

/-- rows behind rows -/
def catRows (len : Nat) (a b : Rows) (K : Rows → Prop) : Prop :=
  match a, b with
  | .ints k f, .ints k' g => if k = k' then K (.ints k (catF len f g)) else False
  | .tab f, .tab g => K (.tab (catR len f g))
  | _, _ => False

theorem catRows_spec {ρ : Inj} {len n s a b K} {va vb vs : Nat → Option Value} (h : catRows len a b K) (ha : RowsAt ρ a s len va) (hb : RowsAt ρ b s n vb)
    (h1 : ∀ c, c < len * s → vs c = va c) (h2 : ∀ c, c < n * s → vs (len * s + c) = vb c) (hs : 1 ≤ s) : ∃ r, K r ∧ RowsAt ρ r s (len + n) vs := by
  unfold catRows at h
  split at h
  · rename_i k f k' g
    split at h
    · rename_i hk
      subst hk
      obtain ⟨rfl, ha⟩ := ha
      obtain ⟨_, hb⟩ := hb
      refine ⟨_, h, rfl, fun y hy => ?_⟩
      unfold catF
      by_cases hlt : y < len
      · rw [if_pos hlt, h1 y (by omega)]; exact ha y hlt
      · rw [if_neg hlt]
        have := h2 (y - len) (by omega)
        rw [show len * 1 + (y - len) = y by omega] at this
        rw [this]; exact hb _ (by omega)
    · exact h.elim
  · rename_i f g
    refine ⟨_, h, fun y hy => ?_⟩
    unfold catR
    by_cases hlt : y < len
    · rw [if_pos hlt]
      obtain ⟨a1, a2⟩ := ha y hlt
      refine ⟨a1, fun c v hv => ?_⟩
      obtain ⟨b1, v', b2, b3⟩ := a2 c v hv
      refine ⟨b1, v', ?_, b3⟩
      have hc := segCell_lt _ _ _ hv
      rw [h1 _ (by
        have := Nat.mul_le_mul_right s (Nat.succ_le_of_lt hlt)
        rw [Nat.succ_mul] at this; omega)]
      exact b2
    · rw [if_neg hlt]
      obtain ⟨a1, a2⟩ := hb (y - len) (by omega)
      refine ⟨a1, fun c v hv => ?_⟩
      obtain ⟨b1, v', b2, b3⟩ := a2 c v hv
      refine ⟨b1, v', ?_, b3⟩
      have hc := segCell_lt _ _ _ hv
      have h3 := h2 ((y - len) * s + c) (by
        have := Nat.mul_le_mul_right s (Nat.succ_le_of_lt (show y - len < n by omega))
        rw [Nat.succ_mul] at this; omega)
      have e : len * s + ((y - len) * s + c) = y * s + c := by
        rw [← Nat.add_assoc, ← Nat.add_mul]; congr 2; omega
      rw [e] at h3
      rw [h3]; exact b2
  · exact h.elim

/-- is there room? -/
def okApp (n b : Nat) : Bool := decide ((2 * n + 512) * b ≤ 281474976710656)

/-- how many rows an object has -/
def SObj.rows : SObj → Nat
  | .ints _ n _ _ _ => n
  | .tab _ n _ _ _ => n
  | _ => 0

def SObj.isRows : SObj → Bool
  | .ints .. | .tab .. => true
  | _ => false

def appTail (sh : SH) (id i : Nat) (cap : Option Nat) (sz b : Nat) (e : TypeId) (len n : Nat) (K : SV → SH → Prop) (r' : Rows) : Prop :=
  match sh[id]? with
  | some o => if (o.live && !o.ro && o.isRows && (o.elem == e) && (o.width == sz + 1)) = true then (ifB (okApp (len + n) (b + 1)) (match cap with
    | none => ifB (decide (i + len = o.rows)) (K (.slice sh.length 0 0 (len + n) none) (sh.set id .dead ++ [objOf (sz + 1) (len + n) e r'])) False
    | some c => ifB (decide (c < len + n)) (K (.slice sh.length 0 0 (len + n) none) (sh ++ [objOf (sz + 1) (len + n) e r'])) False) False) else False
  | none => False

def appendS (P : Program) (sT xT : TypeId) (sh : SH) (s x : SV) (K : SV → SH → Prop) : Prop :=
  match P.underlying sT, P.underlying xT with
  | some (.slice e), some (.slice _) => match sizeT P e, bytesT P e with
    | some (sz + 1), some (b + 1) => if zeroLen P e (sz + 1) = true then
      rowsOf sh (sz + 1) x (fun n r => match s with
        | .nils => match n with
          | 0 => K .nils sh
          | n => ifB (decide (n = 0)) (K .nils sh) (ifB (okApp n (b + 1)) (K (.slice sh.length 0 0 n none) (sh ++ [objOf (sz + 1) n e r])) False)
        | .slice id i j l cap => match n with
          | 0 => K (.slice id i j l cap) sh
          | n => rowsOf sh (sz + 1) (.slice id i j l cap) (fun len r0 => catRows len r0 r (appTail sh id i cap sz b e len n K))
        | _ => False) else False
    | _, _ => False
  | _, _ => False

/-- append into a new array -/
theorem run_append_new {P : Program} {sT xT ty e} (w : World) (hu : P.underlying sT = some (.slice e)) {e2} (hx : P.underlying xT = some (.slice e2)) {sz b : Nat} (hs : sizeT P e = some (sz + 1))
    (hb : bytesT P e = some (b + 1)) {z : Value} (hz : ∀ w, (zeroValue e).run P w = .ok z w) (hzs : z.cells.size = sz + 1) (base : Option Addr) (len cap' n : Nat) (xa : Option Addr) (xc : Nat)
    (old new : Array Value) (hold : ∀ w', w'.heap = w.heap → (Builtin.firstCells (sz + 1) len (.slice base len cap')).run P w' = .ok old w')
    (hnew : ∀ w', w'.heap = w.heap → (Builtin.firstCells (sz + 1) n (.slice xa n xc)).run P w' = .ok new w') (hgt : cap' < len + n) (hok : okApp (len + n) (b + 1) = true)
    (ho : old.size = len * (sz + 1)) (hn : new.size = n * (sz + 1)) :
    ∃ c cs, len + n ≤ c ∧ cs.size = c * (sz + 1) ∧ (∀ k, k < len * (sz + 1) → cs[k]? = old[k]?) ∧ (∀ k, k < n * (sz + 1) → cs[len * (sz + 1) + k]? = new[k]?) ∧
      (Builtin.append_ #[sT, xT] ty #[.slice base len cap', .slice xa n xc]).run P w = .ok (.slice (some ⟨w.heap.size, 0, none⟩) (len + n) c) ({ w with drawn := w.drawn + 1 }.alloc (.cells cs e)) := by
  have hok := of_decide_eq_true hok
  obtain ⟨inf, hi, hi2⟩ : ∃ i, P.info? e = some i ∧ i.bytes = b + 1 := by
    unfold bytesT at hb
    cases h : P.info? e with
    | none => simp [h] at hb
    | some i => exact ⟨i, rfl, by simpa [h] using hb⟩
  have hi3 : inf.size = sz + 1 := by simpa [sizeT, hi] using hs
  have hnc := nextslicecap_le hgt
  have hbig : ¬ (281474976710656 < Builtin.nextslicecap (len + n) cap' * inf.bytes) := by
    rw [hi2]
    have : Builtin.nextslicecap (len + n) cap' * (b + 1) ≤ (2 * (len + n) + 512) * (b + 1) := Nat.mul_le_mul_right _ (by omega)
    omega
  have hb0 : ¬ inf.bytes = 0 := by omega
  have hcut : len + n ≤ (Question.appendCap (len + n) cap' e).cut (w.tape w.drawn (.appendCap (len + n) cap' e)) := Nat.le_add_right _ _
  have hold' := hold w.drew rfl
  have hnew' := hnew w.drew rfl
  have hle : ¬ len + n ≤ cap' := by omega
  have hmax : ¬ (9223372036854775807 < ((len : Int) + (n : Int))) := by
    have : (2 * (len + n) + 512) * 1 ≤ (2 * (len + n) + 512) * (b + 1) := Nat.mul_le_mul_left _ (by omega)
    omega
  refine ⟨(Question.appendCap (len + n) cap' e).cut (w.tape w.drawn (.appendCap (len + n) cap' e)), old ++ new ++ Builtin.zeroCells z.cells ((Question.appendCap (len + n) cap' e).cut (w.tape w.drawn (.appendCap (len + n) cap' e)) - (len + n)), hcut, ?_, ?_, ?_, ?_⟩
  · generalize (Question.appendCap (len + n) cap' e).cut (w.tape w.drawn (.appendCap (len + n) cap' e)) = c at hcut
    simp only [Array.size_append, ho, hn, size_zeroCells, hzs]
    rw [← Nat.add_mul, ← Nat.add_mul, show len + n + (c - (len + n)) = c by omega]
  · intro k hk
    rw [Array.append_assoc, Array.getElem?_append_left (by omega)]
  · intro k hk
    rw [Array.append_assoc, Array.getElem?_append_right (by omega), Array.getElem?_append_left (by omega), ho, Nat.add_sub_cancel_left]
  · have hz' : inf.zero = some z := by
      have := hz w
      simp only [zeroValue, typeInfo, hi, Sem.run_bind, run_program, Result.andThen_ok, Sem.run_pure] at this
      cases hq : inf.zero with
      | none => simp [hq] at this
      | some z' => simp [hq] at this; rw [this]
    rw [← hi3] at hold' hnew'
    simp [Builtin.append_, run_underlying hu, run_underlying hx, sizeOf, typeInfo, zeroValue, hi, hz', Builtin.lenOf, hle, hmax, hbig, Question.forced, hold', hnew', newRow]

theorem run_append_in {P : Program} {sT xT ty e} (w : World) (hu : P.underlying sT = some (.slice e)) {e2} (hx : P.underlying xT = some (.slice e2)) {sz : Nat} (hs : sizeT P e = some (sz + 1))
    (g off len cap' n : Nat) (xa : Option Addr) (xc : Nat) (new : Array Value) (hnew : (Builtin.firstCells (sz + 1) n (.slice xa n xc)).run P w = .ok new w) (hle : len + n ≤ cap')
    (cur : Array Value) (hg : w.heap[g]? = some (.cells cur e (0, 0))) (hfit : off + len * (sz + 1) + new.size ≤ cur.size) (h1 : ∀ u ∈ new.toList, u.oneCell' = true) :
    (Builtin.append_ #[sT, xT] ty #[.slice (some ⟨g, off, none⟩) len cap', .slice xa n xc]).run P w =
      .ok (.slice (some ⟨g, off, none⟩) (len + n) cap') (w.setRow g (cur.toList.take (off + len * (sz + 1)) ++ new.toList ++ cur.toList.drop (off + len * (sz + 1) + new.toList.length)).toArray) := by
  obtain ⟨inf, hi, hi3⟩ : ∃ i, P.info? e = some i ∧ i.size = sz + 1 := by
    unfold sizeT at hs
    cases h : P.info? e with
    | none => simp [h] at hs
    | some i => exact ⟨i, rfl, by simpa [h] using hs⟩
  have hst := run_storeCells_at P g (off + len * (sz + 1)) e new.toList 0 cur w hg (by simpa using hfit) h1
  rw [← hi3] at hst hnew ⊢
  simp only [Nat.add_zero] at hst
  simp [Builtin.append_, run_underlying hu, run_underlying hx, sizeOf, typeInfo, hi, Builtin.lenOf, hle, hnew, addr_add]
  rw [hst]; simp

theorem sane_slice {ρ : Inj} {id i j len cap v'} (h : VRel ρ (.slice id i j len cap) v') : ∃ e o cap', ρ id = some e ∧ v' = .slice (some ⟨e.b, o, none⟩) len cap' ∧ (cap' ≠ 0 → o = e.d + i * e.w + j) ∧ (∀ c, cap = some c → cap' = c) ∧ len ≤ cap' ∧
    (cap = none → j = 0 ∧ e.d + (i + cap') * e.w ≤ e.top) := by
  cases h with
  | slice a b c d f => exact ⟨_, _, _, a, rfl, b, c, d, f⟩

theorem RowsAt.congr {ρ : Inj} {r s n} {vs vs' : Nat → Option Value} (h : RowsAt ρ r s n vs) (hv : ∀ c, c < n * s → vs' c = vs c) : RowsAt ρ r s n vs' := by
  cases r with
  | ints k f =>
    obtain ⟨rfl, h⟩ := h
    exact ⟨rfl, fun y hy => by rw [hv y (by omega)]; exact h y hy⟩
  | tab g =>
    intro y hy
    obtain ⟨h1, h2⟩ := h y hy
    refine ⟨h1, fun c v hcv => ?_⟩
    obtain ⟨h3, v', h4, h5⟩ := h2 c v hcv
    have hc := segCell_lt _ _ _ hcv
    refine ⟨h3, v', ?_, h5⟩
    rw [hv _ (by
      have := Nat.mul_le_mul_right s (Nat.succ_le_of_lt hy)
      rw [Nat.succ_mul] at this; omega)]
    exact h4

theorem RowsAt.mono {ρ ρ' : Inj} (hle : ρ.le ρ') {r s n} {vs : Nat → Option Value} (h : RowsAt ρ r s n vs) : RowsAt ρ' r s n vs := by
  cases r with
  | ints k f => exact h
  | tab g =>
    intro y hy
    obtain ⟨h1, h2⟩ := h y hy
    refine ⟨h1, fun c v hcv => ?_⟩
    obtain ⟨h3, v', h4, h5⟩ := h2 c v hcv
    exact ⟨h3, v', h4, h5.mono hle⟩

/-- what a slice's rows are, read -/
theorem rowsOf_read {P : Program} {sh s x K ρ} {w : World} {x'} (h : rowsOf sh s x K) (hρ : Rep ρ sh w.heap) (hx : VRel ρ x x') (hs : 1 ≤ s) :
    ∃ n r xa xc new, K n r ∧ x' = .slice xa n xc ∧ (new : Array Value).size = n * s ∧ (∀ u ∈ new.toList, u.oneCell' = true) ∧ RowsAt ρ r s n (fun y => new[y]?) ∧
      (∀ w', w'.heap = w.heap → (Builtin.firstCells s n (.slice xa n xc)).run P w' = .ok new w') ∧
      (∀ a, xa = some a → ∀ c, c < n * s → w.cell? ⟨a.block, a.off + c, none⟩ = new[c]?) := by
  obtain ⟨n, r, h, hsrc⟩ := rowsOf_spec h hρ hx w rfl
  rcases hsrc with ⟨rfl, hx0, hr⟩ | ⟨bb, off, cap', hx0, hrows⟩
  · exact ⟨0, r, none, 0, #[], h, hx0, by simp, by simp, hr _, fun w' _ => rfl, fun a ha => by cases ha⟩
  · have hget : ∀ c, c < n * s → (((List.range (n * s)).map fun c => (w.cell? ⟨bb, off + c, none⟩).getD undef).toArray)[c]? = w.cell? ⟨bb, off + c, none⟩ := by
      intro c hc
      obtain ⟨u, hu1, _⟩ := rows_cells hrows hs c hc
      simp [hc, hu1]
    refine ⟨n, r, some ⟨bb, off, none⟩, cap', ((List.range (n * s)).map fun c => (w.cell? ⟨bb, off + c, none⟩).getD undef).toArray, h, hx0, by simp, ?_, hrows.congr hget, fun w' hw' => ?_, ?_⟩
    · intro u hu
      simp only [List.mem_map, List.mem_range] at hu
      obtain ⟨c, hc, rfl⟩ := hu
      obtain ⟨u, hu1, hu2⟩ := rows_cells hrows hs c hc
      simpa [hu1] using hu2
    · have e1 : ∀ a, w'.cell? a = w.cell? a := fun a => by simp [World.cell?, hw']
      have hrows' : RowsAt ρ r s n (fun y => w'.cell? ⟨bb, off + y, none⟩) := by simpa only [e1] using hrows
      have := run_firstCells (P := P) (cap' := cap') w' hrows' hs n (Nat.le_refl _)
      simpa only [e1] using this
    · intro a ha c hc
      cases ha
      exact (hget c hc).symm

theorem not_owned_dead {ρ : Inj} {sh : SH} {heap} (hρ : Rep ρ sh heap) {id o e} (ho : sh[id]? = some o) (hl : o.live = true) (hr : o.ro = false) (he : ρ id = some e) :
    ∀ j p f, (sh.set id .dead)[j]? = some p → p.live = true → ρ j = some f → f.b ≠ e.b := by
  intro j p f hp lp hf hbb
  by_cases hj : j = id
  · subst hj
    rw [List.getElem?_set_self (List.getElem?_eq_some_iff.1 ho).1] at hp
    cases hp; simp [SObj.live] at lp
  · rw [List.getElem?_set_ne (fun h => hj h.symm)] at hp
    have := (hρ.inj j id p o f e hp ho lp hl hf he hj hbb).2
    rw [hr] at this; cases this

set_option maxRecDepth 20000 in
set_option maxHeartbeats 1000000 in
theorem append_sound {P sT xT ty sh s x K ρ} {w : World} {s' x'} (h : appendS P sT xT sh s x K) (hρ : Rep ρ sh w.heap) (hsr : VRel ρ s s') (hxr : VRel ρ x x') :
    Res P (Builtin.append_ #[sT, xT] ty #[s', x']) ρ sh w K := by
  unfold appendS at h
  split at h
  · rename_i e e2 hu hx
    split at h
    · rename_i sz b hs hb
      split at h
      · rename_i hzl
        have hh0 := h; clear h
        obtain ⟨n, r, xa, xc, new, h, rfl, hnsz, hone, hRnew, hnew, _⟩ := rowsOf_read (P := P) hh0 hρ hxr (by omega)
        clear hh0
        obtain ⟨z, hz⟩ : ∃ z, ∀ w, (zeroValue e).run P w = .ok z w := by
          unfold zeroLen at hzl
          split at hzl
          · rename_i i hi
            split at hzl
            · rename_i z hz'; exact ⟨z, fun w => by simp [zeroValue, typeInfo, hi, hz']⟩
            · cases hzl
          · cases hzl
        have hzs := zeroLen_spec hzl hz
        -- nothing is appended
        have none0 : n = 0 → ∀ base len cap', s' = .slice base len cap' → len ≤ cap' → (Builtin.append_ #[sT, xT] ty #[s', .slice xa n xc]).run P w = .ok s' w := by
          rintro rfl base len cap' rfl hlen
          obtain ⟨inf, hi, hi3⟩ : ∃ i, P.info? e = some i ∧ i.size = sz + 1 := by
            unfold sizeT at hs
            cases h : P.info? e with
            | none => simp [h] at hs
            | some i => exact ⟨i, rfl, by simpa [h] using hs⟩
          have hn0 := hnew w rfl
          have hnw : new = #[] := by apply Array.eq_empty_of_size_eq_zero; omega
          subst hnw
          rw [← hi3] at hn0
          cases base with
          | none => simp [Builtin.append_, run_underlying hu, run_underlying hx, sizeOf, typeInfo, hi, Builtin.lenOf, hlen, hn0]
          | some a => simp [Builtin.append_, run_underlying hu, run_underlying hx, sizeOf, typeInfo, hi, Builtin.lenOf, hlen, hn0, storeCells]
        split at h
        · cases hsr
          cases n with
          | zero => exact Res.quiet (none0 rfl _ _ _ rfl (Nat.le_refl _)) .nils hρ h
          | succ m =>
            generalize hnm : m + 1 = n at *
            have hnpos : 0 < n := hnm ▸ Nat.succ_pos m
            have h : ifB (decide (n = 0)) (K .nils sh) (ifB (okApp n (b + 1)) (K (.slice sh.length 0 0 n none) (sh ++ [objOf (sz + 1) n e r])) False) := by
              subst hnm; exact h
            rcases ifB_or h with ⟨h0, h⟩ | ⟨h0, h⟩
            · have h0 := of_decide_eq_true h0
              exact Res.quiet (none0 h0 _ _ _ rfl (Nat.le_refl _)) .nils hρ h
            · have h0 := of_decide_eq_false h0
              obtain ⟨hok, h⟩ := ifB_yes h
              obtain ⟨c, cs, k1, k2, k3, k4, k5⟩ := run_append_new (P := P) (ty := ty) w hu hx hs hb hz hzs none 0 0 n xa xc #[] new (fun w' _ => rfl) hnew (by rw [Nat.zero_add]; exact hnpos) (by rw [Nat.zero_add]; exact hok) (by rw [Nat.zero_mul]; rfl) hnsz
              simp only [Nat.zero_add, Nat.zero_mul] at k1 k4 k5
              have hρd : Rep ρ sh w.drew.heap := hρ
              obtain ⟨ρ', r1, r2, r3⟩ := new_rows (w := w.drew) hρd r (sz + 1) n c e cs none (by omega) k1 k2 (.inl rfl) n (Nat.le_refl _) (hRnew.congr (fun c hc => k4 c hc))
              exact ⟨_, _, _, ρ', _, k5, h, r1, r2, (Step.drew _).trans r3⟩
        · rename_i id i j l cap
          have hsr0 := hsr
          obtain ⟨en, off, cap', he, rfl, ho, hc, hlen, htop⟩ := sane_slice hsr
          cases n with
          | zero => exact Res.quiet (none0 rfl _ _ _ rfl hlen) hsr0 hρ h
          | succ m =>
            have hh0 : rowsOf sh (sz + 1) (.slice id i j l cap) (fun len r0 => catRows len r0 r (appTail sh id i cap sz b e len (m + 1) K)) := h
            clear h
            have hn0 : m + 1 ≠ 0 := Nat.succ_ne_zero m
            generalize m + 1 = n at *
            obtain ⟨len, r0, sa, sc, old, h, hss, holdsz, holdone, hR0, hold, holdw⟩ := rowsOf_read (P := P) hh0 hρ hsr0 (by omega)
            clear hh0
            cases hss
            have hcat : ∀ vs : Nat → Option Value, (∀ c, c < l * (sz + 1) → vs c = old[c]?) → (∀ c, c < n * (sz + 1) → vs (l * (sz + 1) + c) = new[c]?) →
                ∃ r', appTail sh id i cap sz b e l n K r' ∧ RowsAt ρ r' (sz + 1) (l + n) vs :=
              fun vs h1 h2 => catRows_spec h hR0 hRnew h1 h2 (by omega)
            have hold0 := hcat (fun c => if c < l * (sz + 1) then old[c]? else new[c - l * (sz + 1)]?) (fun c hc => by rw [if_pos hc]) (fun c hc => by rw [if_neg (Nat.not_lt.2 (Nat.le_add_right _ _)), Nat.add_sub_cancel_left])
            obtain ⟨r', h, hR'⟩ := hold0
            clear hcat
            unfold appTail at h
            split at h
            · rename_i o hsh
              split at h
              · rename_i hoc
                simp only [Bool.and_eq_true, Bool.not_eq_true', beq_iff_eq] at hoc
                obtain ⟨⟨⟨⟨hl1, hl2⟩, hl3⟩, hl4⟩, hl5⟩ := hoc
                obtain ⟨hok, h⟩ := ifB_yes h
                -- into a new array
                have grow : cap' < l + n → ∃ c cs, l + n ≤ c ∧ (cs : Array Value).size = c * (sz + 1) ∧ RowsAt ρ r' (sz + 1) (l + n) (fun y => cs[y]?) ∧
                    (Builtin.append_ #[sT, xT] ty #[.slice (some ⟨en.b, off, none⟩) l cap', .slice xa n xc]).run P w = .ok (.slice (some ⟨w.heap.size, 0, none⟩) (l + n) c) (w.drew.alloc (.cells cs e)) := by
                  intro hlt
                  obtain ⟨c, cs, k1, k2, k3, k4, k5⟩ := run_append_new (P := P) (ty := ty) w hu hx hs hb hz hzs (some ⟨en.b, off, none⟩) l cap' n xa xc old new hold hnew hlt hok holdsz hnsz
                  refine ⟨c, cs, k1, k2, hR'.congr (fun c hc => ?_), k5⟩
                  by_cases hcl : c < l * (sz + 1)
                  · rw [if_pos hcl, k3 c hcl]
                  · rw [if_neg hcl]
                    have := k4 (c - l * (sz + 1)) (by rw [Nat.add_mul] at hc; omega)
                    rw [show l * (sz + 1) + (c - l * (sz + 1)) = c by omega] at this
                    exact this
                split at h
                · obtain ⟨hend, h⟩ := ifB_yes h
                  have hend := of_decide_eq_true hend
                  obtain ⟨rfl, htop⟩ := htop rfl
                  have hkill := hρ.kill id
                  by_cases hlt : cap' < l + n
                  · obtain ⟨c, cs, k1, k2, k3, k4⟩ := grow hlt
                    have hkd : Rep ρ (sh.set id .dead) w.drew.heap := hkill
                    obtain ⟨ρ', q1, q2, q3⟩ := new_rows (w := w.drew) hkd r' (sz + 1) (l + n) c e cs none (by omega) k1 k2 (.inl rfl) (l + n) (Nat.le_refl _) k3
                    simp only [List.length_set] at q1
                    refine ⟨_, _, _, ρ', _, k4, h, q1, q2, ?_⟩
                    have hst : Step ρ sh w ρ (sh.set id .dead) w.drew := ⟨Inj.le_refl _, by simp, fun _ _ => rfl, ro_set rfl, Nat.le_refl _, rfl, rfl, rfl, fun _ _ _ => rfl, fun b _ hb => Owns.of_put hsh hl1 hl2 he hb⟩
                    exact hst.trans q3
                  · have hle : l + n ≤ cap' := Nat.not_lt.1 hlt
                    obtain ⟨en', he', s0⟩ := hρ.obj id o hsh hl1
                    rw [he] at he'; cases he'
                    have hsat : en.w = o.width ∧ ∃ c t fr, w.heap[en.b]? = some (.cells c t fr) ∧ en.top ≤ c.size ∧ (o.ro = false → t = o.elem ∧ fr = (0, 0) ∧ en.top = c.size) ∧
                        ∀ i j v, o.cell i j = some v → v.scal = true ∧ ∃ v', c[en.d + i * en.w + j]? = some v' ∧ VRel ρ v v' := by
                      cases o <;> first | exact s0 | (simp [SObj.isRows] at hl3)
                    obtain ⟨hw, cur, t', fr, hb1, _, hrw, _⟩ := hsat
                    obtain ⟨ht', hfr, htp⟩ := hrw hl2
                    subst hfr
                    rw [hl4] at ht'; subst ht'
                    rw [hl5] at hw
                    have hoff := ho (by omega)
                    have hwi : i * en.w = i * (sz + 1) := by rw [hw]
                    have hwc : (i + cap') * en.w = i * (sz + 1) + cap' * (sz + 1) := by rw [hw, Nat.add_mul]
                    have hfit : off + l * (sz + 1) + new.size ≤ cur.size := by
                      rw [hnsz]
                      have h1 : (l + n) * (sz + 1) ≤ cap' * (sz + 1) := Nat.mul_le_mul_right _ hle
                      rw [Nat.add_mul] at h1
                      omega
                    have hrun := run_append_in (P := P) (ty := ty) w hu hx hs en.b off l cap' n xa xc new (hnew w rfl) hle cur hb1 hfit hone
                    have hfit' : off + l * (sz + 1) + new.toList.length ≤ cur.size := by simpa using hfit
                    have hcell : ∀ c, (((cur.toList.take (off + l * (sz + 1)) ++ new.toList ++ cur.toList.drop (off + l * (sz + 1) + new.toList.length)).toArray))[c]? =
                        if c < off + l * (sz + 1) then cur[c]? else if c < off + l * (sz + 1) + new.toList.length then new.toList[c - (off + l * (sz + 1))]? else cur[c]? :=
                      getElem?_laid cur (off + l * (sz + 1)) new.toList hfit'
                    have hrep := hkill.new (objOf (sz + 1) (l + n) t' r') ⟨en.b, off, sz + 1, en.top⟩ (w.setRow en.b ((cur.toList.take (off + l * (sz + 1)) ++ new.toList ++ cur.toList.drop (off + l * (sz + 1) + new.toList.length)).toArray)).heap
                      (fun j p f hp lp hf => not_owned_dead hρ hsh hl1 hl2 he j p f hp lp hf) (fun b hb => setRow_other w en.b b _ hb)
                      (osat_rows (setRow_heap w en.b cur _ t' (0, 0) hb1) (by omega) (by rw [htp]; simp; omega) ((hR'.mono (Inj.le_add (hkill.fresh _ (Nat.le_refl _)))).congr (fun c hc => by
                        rw [hcell]
                        by_cases hcl : c < l * (sz + 1)
                        · rw [if_pos hcl, if_pos (by omega)]
                          have := holdw _ rfl c hcl
                          rw [← this]
                          simp [World.cell?, hb1]
                        · rw [if_neg hcl, if_neg (by omega), if_pos (by rw [Nat.add_mul] at hc; simp; omega)]
                          rw [show off + c - (off + l * (sz + 1)) = c - l * (sz + 1) by omega]
                          simp)))
                    simp only [List.length_set] at hrep
                    refine ⟨_, _, _, _, _, hrun, h, .slice (e := ⟨en.b, off, sz + 1, en.top⟩) Inj.add_self (by simp) (by simp) hle (fun _ => ⟨rfl, ?_⟩), hrep, ?_⟩
                    · simp only [Nat.zero_add]
                      omega
                    · refine ⟨Inj.le_add (hρ.fresh _ (Nat.le_refl _)), by simp, fun id hid => Inj.add_ne (by omega), fun id p hp hl hr => ro_set rfl id p (ro_new (objOf_ro _ _ _ _) id p hp hl hr) hl hr, by simp, rfl, rfl, rfl, fun b _ hb => setRow_other w en.b b _ (fun hbe => hb ⟨id, o, en, hsh, hl1, hl2, he, hbe.symm⟩), fun b _ hb => ?_⟩
                      have hb' : Owns (ρ.add (sh.set id .dead).length ⟨en.b, off, sz + 1, en.top⟩) (sh.set id .dead ++ [objOf (sz + 1) (l + n) t' r']) b := by
                        simpa only [List.length_set] using hb
                      rcases Owns.of_new hb' with h1 | h1
                      · exact Owns.of_put hsh hl1 hl2 he h1
                      · exact ⟨id, o, en, hsh, hl1, hl2, he, h1.symm⟩
                · rename_i c0 _ _
                  obtain ⟨hlt, h⟩ := ifB_yes h
                  have hlt := of_decide_eq_true hlt
                  have hc0 := hc c0 rfl
                  obtain ⟨c, cs, k1, k2, k3, k4⟩ := grow (by omega)
                  have hρd : Rep ρ sh w.drew.heap := hρ
                  obtain ⟨ρ', q1, q2, q3⟩ := new_rows (w := w.drew) hρd r' (sz + 1) (l + n) c e cs none (by omega) k1 k2 (.inl rfl) (l + n) (Nat.le_refl _) k3
                  exact ⟨_, _, _, ρ', _, k4, h, q1, q2, (Step.drew _).trans q3⟩
              · exact h.elim
            · exact h.elim
        · exact h.elim
      · exact h.elim
    · exact h.elim
  · exact h.elim

end Go.Rv
