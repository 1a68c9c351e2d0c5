/- A part of the evaluator of the model's code, or of its tables: what is proved is said in the claim's last text. -/
import Derived.Test.YtjhdfldadcbkkaaGreatRv15
namespace Go.Rv

theorem sig_lt {m n : Nat} {l : List Nat} {i j : Nat} (hi : i < m) (h : l[i]? = some j) : sig m n l i = j := by
  simp [sig, hi, List.getD, h]

theorem sig_ge {m n : Nat} {l : List Nat} {i : Nat} (hi : m ≤ i) : sig m n l i = n + (i - m) := by
  simp [sig, Nat.not_lt.2 hi]

/-- a contract of a small heap, in a great one -/
theorem CallT.ren {P : Program} {f : FuncId} {args0 : List SV} {sh0 : SH} {K0 : SV → SH → Prop} (h : CallT P f args0 sh0 K0) (σl : List Nat) {args : List SV} {sh : SH} {K : SV → SH → Prop}
    (hlen : σl.length = sh0.length) (hnd : σl.Nodup) (hlt : ∀ j ∈ σl, j < sh.length) (hargs : args = renL (sig sh0.length sh.length σl) args0)
    (hobj : ∀ i o, sh0[i]? = some o → o.live = true → sh[σl.getD i 0]? = some (renO (sig sh0.length sh.length σl) o))
    (hk : ∀ v sh0', K0 v sh0' → K (ren (sig sh0.length sh.length σl) v) (merge sh0.length σl sh sh0')) : CallT P f args sh K := by
  intro ρ w args' hρ hA
  let σ := sig sh0.length sh.length σl
  have hget : ∀ i, i < sh0.length → ∃ j, σl[i]? = some j ∧ σ i = j ∧ j < sh.length := by
    intro i hi
    have hi' : i < σl.length := by omega
    refine ⟨σl[i], by simp, sig_lt hi (by simp), hlt _ (by simp)⟩
  have hge : ∀ i, sh0.length ≤ i → σ i = sh.length + (i - sh0.length) := fun i hi => sig_ge hi
  have hinj : ∀ i j, σ i = σ j → i = j := by
    intro i j hij
    rcases Nat.lt_or_ge i sh0.length with hi | hi <;> rcases Nat.lt_or_ge j sh0.length with hj | hj
    · obtain ⟨a, a1, a2, a3⟩ := hget i hi
      obtain ⟨b, b1, b2, b3⟩ := hget j hj
      rw [a2, b2] at hij; subst hij
      exact (List.getElem?_inj (by omega) hnd).1 (a1.trans b1.symm)
    · obtain ⟨a, a1, a2, a3⟩ := hget i hi
      rw [a2, hge j hj] at hij; omega
    · obtain ⟨b, b1, b2, b3⟩ := hget j hj
      rw [b2, hge i hi] at hij; omega
    · rw [hge i hi, hge j hj] at hij; omega
  have hobj' : ∀ (i : Nat) (o : SObj), sh0[i]? = some o → o.live = true → sh[σ i]? = some (renO σ o) := by
    intro i o ho hl
    have hi := (List.getElem?_eq_some_iff.1 ho).1
    obtain ⟨j, j1, j2, _⟩ := hget i hi
    have := hobj i o ho hl
    rw [show σl.getD i 0 = j by simp [List.getD, j1]] at this
    rw [j2]; exact this
  let ρ0 : Inj := fun i => ρ (σ i)
  have hρ0 : Rep ρ0 sh0 w.heap := by
    refine ⟨?_, ?_, ?_⟩
    · intro i o ho hl
      obtain ⟨e, he, s⟩ := hρ.obj _ _ (hobj' i o ho hl) (by rw [renO_live]; exact hl)
      exact ⟨e, he, osat_ren.1 s⟩
    · intro i j o p e f ho hp lo lp he hf hij hb
      have := hρ.inj (σ i) (σ j) _ _ e f (hobj' i o ho lo) (hobj' j p hp lp) (by rw [renO_live]; exact lo) (by rw [renO_live]; exact lp) he hf (fun h => hij (hinj _ _ h)) hb
      rwa [renO_ro, renO_ro] at this
    · intro i hi
      show ρ (σ i) = none
      rw [hge i hi]
      exact hρ.fresh _ (by omega)
  have hA0 : VRels ρ0 args0 args' := renL_rels _ _ (by rw [← hargs]; exact hA)
  refine (h ρ0 w args' hρ0 hA0).mono ?_
  rintro e w' ⟨v, v', sh0', ρ0', rfl, k1, k2, k3, k4⟩
  let ρ' : Inj := fun id => if id < sh.length then ρ id else ρ0' (sh0.length + (id - sh.length))
  have hρσ : (fun i => ρ' (σ i)) = ρ0' := by
    funext i
    rcases Nat.lt_or_ge i sh0.length with hi | hi
    · obtain ⟨j, j1, j2, j3⟩ := hget i hi
      have hk0 := k4.keep i hi
      show (if σ i < sh.length then ρ (σ i) else _) = _
      rw [if_pos (by rw [j2]; exact j3), hk0]
    · show (if σ i < sh.length then ρ (σ i) else _) = _
      rw [if_neg (by rw [hge i hi]; omega), hge i hi]
      congr 1; omega
  have hρσ' : ∀ i, ρ' (σ i) = ρ0' i := fun i => congrFun hρσ i
  have hle : ρ.le ρ' := by
    intro id e he
    show (if id < sh.length then ρ id else _) = _
    rcases Nat.lt_or_ge id sh.length with hid | hid
    · rw [if_pos hid]; exact he
    · rw [hρ.fresh id hid] at he; cases he
  have hmlen : (merge sh0.length σl sh sh0').length = sh.length + (sh0'.length - sh0.length) := by
    simp [merge, putAll_length]
  -- what stands in the merged heap
  have hm : ∀ (id : Nat) (o : SObj), (merge sh0.length σl sh sh0')[id]? = some o → (∃ i p, σ i = id ∧ sh0'[i]? = some p ∧ o = renO σ p) ∨ (id < sh.length ∧ id ∉ σl ∧ sh[id]? = some o) := by
    intro id o ho
    unfold merge at ho
    rcases Nat.lt_or_ge id sh.length with hid | hid
    · rw [List.getElem?_append_left (by rw [putAll_length]; exact hid)] at ho
      by_cases hmem : id ∈ σl
      · left
        obtain ⟨i, hi, rfl⟩ := List.getElem_of_mem hmem
        have hi' : i < sh0'.length := by have := k4.len; omega
        have hi0 : i < sh0.length := by omega
        have h1 : σl[i]? = some σl[i] := by simp
        have h2 : (sh0'.take sh0.length)[i]? = some sh0'[i] := by rw [List.getElem?_take, if_pos hi0]; simp
        rw [putAll_at _ σl _ sh i _ _ hnd h1 h2 hid] at ho
        cases ho
        exact ⟨i, sh0'[i], sig_lt hi0 h1, by simp, rfl⟩
      · right
        rw [putAll_other _ _ _ _ _ hmem] at ho
        exact ⟨hid, hmem, ho⟩
    · left
      rw [List.getElem?_append_right (by rw [putAll_length]; exact hid), putAll_length, List.getElem?_map, List.getElem?_drop] at ho
      cases hp : sh0'[sh0.length + (id - sh.length)]? with
      | none => rw [hp] at ho; cases ho
      | some p =>
        rw [hp] at ho; cases ho
        refine ⟨sh0.length + (id - sh.length), p, ?_, hp, rfl⟩
        rw [hge _ (by omega)]; omega
  have hown0 : ∀ b, Owns ρ0 sh0 b → Owns ρ sh b := by
    rintro b ⟨i, o, e, ho, hl, hr, he, hb⟩
    exact ⟨σ i, _, e, hobj' i o ho hl, by rw [renO_live]; exact hl, by rw [renO_ro]; exact hr, he, hb⟩
  have notmem : ∀ (id i : Nat), id < sh.length → id ∉ σl → σ i ≠ id := by
    intro id i hid hmem he
    rcases Nat.lt_or_ge i sh0.length with hi | hi
    · obtain ⟨j, j1, j2, j3⟩ := hget i hi
      rw [j2] at he; subst he
      exact hmem (List.mem_of_getElem? j1)
    · rw [hge i hi] at he; omega
  -- a frame's block is not owned by the callee
  have hframe : ∀ id o e, id < sh.length → id ∉ σl → sh[id]? = some o → o.live = true → ρ id = some e → ¬ Owns ρ0 sh0 e.b := by
    rintro id o e hid hmem ho hl he ⟨i, p, f, hp, lp, rp, hf, hb⟩
    have := (hρ.inj id (σ i) o (renO σ p) e f ho (hobj' i p hp lp) hl (by rw [renO_live]; exact lp) he hf (fun h => notmem id i hid hmem h.symm) hb.symm).2
    rw [renO_ro, rp] at this; cases this
  have hRep : Rep ρ' (merge sh0.length σl sh sh0') w'.heap := by
    refine ⟨?_, ?_, ?_⟩
    · intro id o ho hl
      rcases hm id o ho with ⟨i, p, rfl, hp, rfl⟩ | ⟨hid, hmem, ho⟩
      · rw [renO_live] at hl
        obtain ⟨e, he, s⟩ := k3.obj i p hp hl
        refine ⟨e, by rw [hρσ']; exact he, osat_ren.2 ?_⟩
        rw [hρσ]; exact s
      · obtain ⟨e, he, s⟩ := hρ.obj id o ho hl
        refine ⟨e, hle _ _ he, (s.mono hle).congr ?_⟩
        exact k4.same e.b (s.lt hl) (hframe id o e hid hmem ho hl he)
    · intro id jd o p e f ho hp lo lp he hf hij hb
      rcases hm id o ho with ⟨i, o', rfl, ho', rfl⟩ | ⟨hid, hmem, ho1⟩ <;> rcases hm jd p hp with ⟨j, p', rfl, hp', rfl⟩ | ⟨hjd, hjmem, hp1⟩
      · rw [renO_live] at lo lp
        rw [hρσ'] at he hf
        have := k3.inj i j o' p' e f ho' hp' lo lp he hf (fun h => hij (by rw [h])) hb
        rwa [renO_ro, renO_ro]
      · -- callee's, frame's
        rw [renO_live] at lo
        rw [hρσ'] at he
        have hf0 : ρ jd = some f := by
          have hff : (if jd < sh.length then ρ jd else ρ0' (sh0.length + (jd - sh.length))) = some f := hf
          rwa [if_pos hjd] at hff
        have hfb : f.b < w.heap.size := hρ.lt hp1 lp hf0
        have hro : o'.ro = true := by
          cases hr : o'.ro with
          | true => rfl
          | false => exact absurd (hb ▸ k4.owns e.b (hb ▸ hfb) ⟨i, o', e, ho', lo, hr, he, rfl⟩) (hframe jd p f hjd hjmem hp1 lp hf0)
        have ho0 := k4.ro i o' ho' lo hro
        have hi := (List.getElem?_eq_some_iff.1 ho0).1
        have hs := hobj' i o' ho0 lo
        have he0 : ρ (σ i) = some e := (k4.keep i hi).symm.trans he
        have := hρ.inj (σ i) jd _ p e f hs hp1 (by rw [renO_live]; exact lo) lp he0 hf0 (notmem jd i hjd hjmem) hb
        exact this
      · rw [renO_live] at lp
        rw [hρσ'] at hf
        have he0 : ρ id = some e := by
          have hee : (if id < sh.length then ρ id else ρ0' (sh0.length + (id - sh.length))) = some e := he
          rwa [if_pos hid] at hee
        have hfb : e.b < w.heap.size := hρ.lt ho1 lo he0
        have hro : p'.ro = true := by
          cases hr : p'.ro with
          | true => rfl
          | false => exact absurd (hb ▸ k4.owns f.b (hb ▸ hfb) ⟨j, p', f, hp', lp, hr, hf, rfl⟩) (hframe id o e hid hmem ho1 lo he0)
        have hp0 := k4.ro j p' hp' lp hro
        have hj := (List.getElem?_eq_some_iff.1 hp0).1
        have hs := hobj' j p' hp0 lp
        have hf0 : ρ (σ j) = some f := (k4.keep j hj).symm.trans hf
        exact hρ.inj id (σ j) o _ e f ho1 hs lo (by rw [renO_live]; exact lp) he0 hf0 (fun h => notmem id j hid hmem h.symm) hb
      · have he0 : ρ id = some e := by
          have hee : (if id < sh.length then ρ id else ρ0' (sh0.length + (id - sh.length))) = some e := he
          rwa [if_pos hid] at hee
        have hf0 : ρ jd = some f := by
          have hff : (if jd < sh.length then ρ jd else ρ0' (sh0.length + (jd - sh.length))) = some f := hf
          rwa [if_pos hjd] at hff
        exact hρ.inj id jd o p e f ho1 hp1 lo lp he0 hf0 hij hb
    · intro id hid
      rw [hmlen] at hid
      show (if id < sh.length then ρ id else _) = none
      rw [if_neg (by omega)]
      have := k4.len
      exact k3.fresh _ (by omega)
  refine ⟨_, v', _, ρ', rfl, hk v sh0' k1, (ren_rel v v').2 (by rw [hρσ]; exact k2), hRep, ?_⟩
  refine ⟨hle, by rw [hmlen]; omega, fun id hid => if_pos hid, ?_, k4.size, k4.tape, k4.os, k4.out, fun b hb hn => k4.same b hb (fun ho => hn (hown0 b ho)), ?_⟩
  · intro id o ho hl hr
    rcases hm id o ho with ⟨i, p, rfl, hp, rfl⟩ | ⟨hid, hmem, ho⟩
    · rw [renO_live] at hl
      rw [renO_ro] at hr
      exact hobj' i p (k4.ro i p hp hl hr) hl
    · exact ho
  · rintro b hb ⟨id, o, e, ho, hl, hr, he, hbe⟩
    rcases hm id o ho with ⟨i, p, rfl, hp, rfl⟩ | ⟨hid, hmem, ho⟩
    · rw [renO_live] at hl
      rw [renO_ro] at hr
      rw [hρσ'] at he
      exact hown0 b (k4.owns b hb ⟨i, p, e, hp, hl, hr, he, hbe⟩)
    · have he0 : ρ id = some e := by
        have hee : (if id < sh.length then ρ id else ρ0' (sh0.length + (id - sh.length))) = some e := he
        rwa [if_pos hid] at hee
      exact ⟨id, o, e, ho, hl, hr, he0, hbe⟩

/-! ## what is forgotten -/

mutual
def lowV (m : Nat) : SV → Bool
  | .ptr id _ _ _ => Nat.blt id m
  | .slice id _ _ _ _ => Nat.blt id m
  | .map id => Nat.blt id m
  | .func _ a b => lowL m a && lowL m b
  | .iface _ v => lowV m v
  | .agg l => lowL m l
  | .tuple l => lowL m l
  | .int _ _ => true
  | .bool _ => true
  | .str _ => true
  | .nilp => true
  | .nils => true
  | .nilm => true
  | .nilf => true
  | .nili => true
  | .vec _ _ _ => true
  | .any _ => true
def lowL (m : Nat) : List SV → Bool
  | [] => true
  | v :: l => lowV m v && lowL m l
end

def below (ρ : Inj) (m : Nat) : Inj := fun i => if i < m then ρ i else none

theorem lowL_mem {m : Nat} : ∀ {l : List SV}, lowL m l = true → ∀ v ∈ l, lowV m v = true
  | [], _, v, hv => by simp at hv
  | u :: l, h, v, hv => by
    simp only [lowL, Bool.and_eq_true] at h
    cases hv with
    | head => exact h.1
    | tail _ hv => exact lowL_mem h.2 v hv

theorem blt_lt {a b : Nat} (h : Nat.blt a b = true) : a < b := by simpa [Nat.blt_eq] using h

theorem low_rel {ρ : Inj} {m : Nat} {v v'} (r : VRel ρ v v') : lowV m v = true → VRel (below ρ m) v v' := by
  induction r with
  | int k n => intro _; exact .int k n
  | bool b => intro _; exact .bool b
  | str s => intro _; exact .str s
  | nilp => intro _; exact .nilp
  | ptr he ho => intro h; exact .ptr (by simp [below, blt_lt h, he]) ho
  | nils => intro _; exact .nils
  | slice he a b c d => intro h; exact .slice (by simp [below, blt_lt h, he]) a b c d
  | nilm => intro _; exact .nilm
  | map he => intro h; exact .map (by simp [below, blt_lt h, he])
  | nilf => intro _; exact .nilf
  | func h1 _ h3 _ i2 i4 =>
    intro h
    simp only [lowV, Bool.and_eq_true] at h
    exact .func h1 (fun i v hv => i2 i v hv (lowL_mem h.1 v (List.mem_of_getElem? hv))) h3 (fun i v hv => i4 i v hv (lowL_mem h.2 v (List.mem_of_getElem? hv)))
  | nili => intro _; exact .nili
  | iface _ ih => intro h; exact .iface (ih h)
  | agg h1 h2 _ ih =>
    intro h
    refine .agg h1 h2 (fun c v hv => ih c v hv ?_)
    rcases segCell_size _ c v hv with hm | ⟨k, n, rfl⟩
    · exact lowL_mem h v hm
    · rfl
  | tuple h1 _ ih =>
    intro h
    exact .tuple h1 (fun i v hv => ih i v hv (lowL_mem h v (List.mem_of_getElem? hv)))
  | any a => intro _; exact .any a

def lowO (m : Nat) : SObj → Prop
  | .cells l _ => lowL m l = true
  | .tab _ n g _ _ => ∀ i, i < n → lowL m (g i) = true
  | .map kvs => ∀ p ∈ kvs, lowV m p.1 = true ∧ lowV m p.2 = true
  | .iter (some id) _ _ _ => Nat.blt id m = true
  | _ => True

theorem low_seg {m : Nat} {l : List SV} (h : lowL m l = true) {c v} (hv : segCell l c = some v) : lowV m v = true := by
  rcases segCell_size _ c v hv with hm | ⟨k, n, rfl⟩
  · exact lowL_mem h v hm
  · rfl

theorem low_cell {m : Nat} {o : SObj} (h : lowO m o) {i j v} (hv : o.cell i j = some v) : lowV m v = true := by
  cases o <;> simp only [SObj.cell] at hv <;> (try cases hv; done)
  case cells l e =>
    split at hv
    · exact low_seg h hv
    · cases hv
  case ints k n f e ro =>
    split at hv
    · cases hv; rfl
    · cases hv
  case tab w n g e ro =>
    split at hv
    · rename_i hij; exact low_seg (h i hij.1) hv
    · cases hv

theorem low_ents {ρ : Inj} {m : Nat} : ∀ {l es}, EntRel ρ l es → (∀ p ∈ l, lowV m p.1 = true ∧ lowV m p.2 = true) → EntRel (below ρ m) l es := by
  intro l es h
  induction h with
  | nil => intro _; exact .nil
  | cons h1 h2 _ ih =>
    intro hl
    have := hl _ (List.mem_cons_self ..)
    exact .cons (low_rel h1 this.1) (low_rel h2 this.2) (ih (fun p hp => hl p (List.mem_cons_of_mem _ hp)))

theorem low_osat {ρ : Inj} {m : Nat} {o : SObj} {e heap} (s : OSat ρ o e heap) (h : lowO m o) : OSat (below ρ m) o e heap := by
  have arr : (e.w = o.width ∧ ∃ c t fr, heap[e.b]? = some (.cells c t fr) ∧ e.top ≤ c.size ∧ (o.ro = false → t = o.elem ∧ fr = (0, 0) ∧ e.top = c.size) ∧
      ∀ i j v, o.cell i j = some v → v.scal = true ∧ ∃ v', c[e.d + i * e.w + j]? = some v' ∧ VRel ρ v v') →
      (e.w = o.width ∧ ∃ c t fr, heap[e.b]? = some (.cells c t fr) ∧ e.top ≤ c.size ∧ (o.ro = false → t = o.elem ∧ fr = (0, 0) ∧ e.top = c.size) ∧
      ∀ i j v, o.cell i j = some v → v.scal = true ∧ ∃ v', c[e.d + i * e.w + j]? = some v' ∧ VRel (below ρ m) v v') := by
    rintro ⟨h0, c, t, fr, h1, h2, h3, h4⟩
    refine ⟨h0, c, t, fr, h1, h2, h3, fun i j v hv => ?_⟩
    obtain ⟨a, v', b, r⟩ := h4 i j v hv
    exact ⟨a, v', b, low_rel r (low_cell h hv)⟩
  cases o with
  | dead => trivial
  | map kvs => obtain ⟨es, clock, h1, h2, h3⟩ := s; exact ⟨es, clock, h1, low_ents h2 h, h3⟩
  | iter mm a b c =>
    obtain ⟨h0, m', h1, h2⟩ := s
    refine ⟨h0, m', h1, ?_⟩
    cases mm with
    | none => exact h2
    | some id =>
      obtain ⟨em, g1, g2⟩ := h2
      exact ⟨em, by simp [below, blt_lt h, g1], g2⟩
  | cells l e => exact arr s
  | ints k n f e ro => exact arr s
  | tab w n g e ro => exact arr s

def lowSH (m : Nat) : SH → Prop
  | [] => True
  | o :: l => lowO m o ∧ lowSH m l

theorem lowSH_get {m : Nat} : ∀ {l : SH}, lowSH m l → ∀ (i : Nat) (o : SObj), l[i]? = some o → lowO m o
  | [], _, i, o, h => by simp at h
  | u :: l, hl, 0, o, h => by simp at h; subst h; exact hl.1
  | u :: l, hl, i + 1, o, h => lowSH_get hl.2 i o (by simpa using h)

/-- blocks beyond the first ones are forgotten -/
theorem CallT.drop {P : Program} {f : FuncId} {args : List SV} {sh : SH} {K : SV → SH → Prop}
    (h : CallT P f args sh (fun v sh' => K v (sh'.take sh.length) ∧ lowV sh.length v = true ∧ lowSH sh.length (sh'.take sh.length))) : CallT P f args sh K := by
  intro ρ w args' hρ hA
  refine (h ρ w args' hρ hA).mono ?_
  rintro e w' ⟨v, v', sh', ρ', rfl, ⟨k1, k2, k3⟩, k4, k5, k6⟩
  have hget : ∀ (id : Nat) (o : SObj), (sh'.take sh.length)[id]? = some o → id < sh.length ∧ sh'[id]? = some o := by
    intro id o ho
    rw [List.getElem?_take] at ho
    split at ho
    · rename_i hid; exact ⟨hid, ho⟩
    · cases ho
  have hb : ∀ id, id < sh.length → below ρ' sh.length id = ρ' id := fun id hid => if_pos hid
  refine ⟨v, v', sh'.take sh.length, below ρ' sh.length, rfl, k1, low_rel k4 k2, ?_, ?_⟩
  · refine ⟨?_, ?_, ?_⟩
    · intro id o ho hl
      obtain ⟨hid, ho'⟩ := hget id o ho
      obtain ⟨e, he, s⟩ := k5.obj id o ho' hl
      exact ⟨e, by rw [hb id hid]; exact he, low_osat s (lowSH_get k3 id o ho)⟩
    · intro i j o p e f ho hp lo lp he hf hij hbb
      obtain ⟨hi, ho'⟩ := hget i o ho
      obtain ⟨hj, hp'⟩ := hget j p hp
      rw [hb i hi] at he
      rw [hb j hj] at hf
      exact k5.inj i j o p e f ho' hp' lo lp he hf hij hbb
    · intro id hid
      have := k6.len
      rw [List.length_take] at hid
      exact if_neg (by omega)
  · refine ⟨?_, ?_, ?_, ?_, k6.size, k6.tape, k6.os, k6.out, k6.same, ?_⟩
    · intro id e he
      have hid : id < sh.length := by
        rcases Nat.lt_or_ge id sh.length with h | h
        · exact h
        · rw [hρ.fresh id h] at he; cases he
      rw [hb id hid]
      exact k6.le id e he
    · have := k6.len
      rw [List.length_take]; omega
    · intro id hid
      rw [hb id hid]
      exact k6.keep id hid
    · intro id o ho hl hr
      exact k6.ro id o (hget id o ho).2 hl hr
    · rintro b hbw ⟨id, o, e, ho, hl, hr, he, hbe⟩
      obtain ⟨hid, ho'⟩ := hget id o ho
      rw [hb id hid] at he
      exact k6.owns b hbw ⟨id, o, e, ho', hl, hr, he, hbe⟩

/-- a function that only reckons -/
theorem CallT.plain {P : Program} {f : FuncId} {args : List SV} {v : SV} (h : CallT P f args [] (fun u _ => u = v ∧ lowV 0 u = true)) (hargs : ∀ σ, renL σ args = args) (hv : ∀ σ, Rv.ren σ v = v)
    {sh : SH} {K : SV → SH → Prop} (hk : K v sh) : CallT P f args sh K := by
  have h0 : CallT P f args [] (fun u sh' => u = v ∧ sh' = []) := by
    refine CallT.drop ?_
    intro ρ w args' hρ hA
    refine (h ρ w args' hρ hA).mono ?_
    rintro e w' ⟨u, v', sh', ρ', rfl, ⟨rfl, k2⟩, k3⟩
    exact ⟨u, v', sh', ρ', rfl, ⟨⟨rfl, rfl⟩, k2, trivial⟩, k3⟩
  refine CallT.ren h0 [] rfl List.nodup_nil (by simp) (hargs _).symm (by simp) ?_
  rintro u sh' ⟨rfl, rfl⟩
  rw [hv]
  simpa [merge, putAll] using hk

end Go.Rv
