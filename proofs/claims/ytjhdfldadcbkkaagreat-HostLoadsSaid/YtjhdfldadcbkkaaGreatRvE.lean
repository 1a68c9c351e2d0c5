/- A part of the evaluator of the model's code, or of its tables: what is proved is said in the claim's last text. -/
import Derived.Test.YtjhdfldadcbkkaaGreatRvC
namespace Go.Rv
set_option linter.unusedVariables false

/-! ## regions in which variables are made: where their blocks come among the others matters not -/

def dropT (D : List Nat) : Ts → Ts
  | [] => []
  | (t, v) :: l => if D.contains t = true then dropT D l else (t, v) :: dropT D l

theorem look_dropT {D : List Nat} : ∀ {ts : Ts} {t : Nat} {v}, look (dropT D ts) t = some v → look ts t = some v ∧ t ∉ D
  | [], t, v, h => by simp [dropT, look] at h
  | (u, x) :: l, t, v, h => by
    simp only [dropT] at h
    split at h
    · rename_i hc
      obtain ⟨h1, h2⟩ := look_dropT h
      refine ⟨?_, h2⟩
      simp only [look]
      rw [if_neg]
      · exact h1
      · rintro rfl
        exact h2 (List.contains_iff_mem.1 hc)
    · rename_i hc
      simp only [look] at h ⊢
      split at h
      · rename_i hut
        subst hut
        rw [if_pos rfl]
        exact ⟨h, fun hm => hc (List.contains_iff_mem.2 hm)⟩
      · rename_i hut
        rw [if_neg hut]
        exact look_dropT h

/-- the slots and the objects of variables that are made -/
def allocO (P : Program) (nt : Nat) (ops : Array Oper) : List Nat → Option (List Nat × List SObj)
  | [] => some ([], [])
  | i :: l => match ops[i]? with
    | some o => match o.op, o.dst, o.guard with
      | .alloc t, some d, none => match zeroS P t, allocO P nt ops l with
        | some z, some (ds, zs) => if d < nt then some (d :: ds, .cells z t :: zs) else none
        | _, _ => none
      | _, _, _ => none
    | none => none

def bindA : List Nat → Nat → Ts → Ts
  | [], _, ts => ts
  | d :: l, n, ts => bindA l (n + 1) ((d, .ptr n 0 0 0) :: ts)

/-- the slots of some operations -/
def dstsOf (ops : Array Oper) : List Nat → List Nat
  | [] => []
  | i :: l => match ops[i]? with
    | some o => match o.dst with
      | some d => d :: dstsOf ops l
      | none => dstsOf ops l
    | none => dstsOf ops l

def thenA (P : Program) (nt : Nat) (ops : Array Oper) (al : List Nat) (F : Ts → SH → Prop) (ts : Ts) (sh : SH) : Prop :=
  match allocO P nt ops al with
  | some (ds, zs) => F (bindA ds sh.length ts) (sh ++ zs)
  | none => False

def ordA (P : Program) (G : CTab) (nt : Nat) (ops : Array Oper) (A : List (Nat × List Nat)) (al : List Nat) (B : List (Nat × List Nat)) (ts : Ts) (sh : SH) (K : Ts → SH → Prop) : Prop :=
  match allocO P nt ops al with
  | some (ds, zs) => ordW P G nt ops A [] (dropT ds ts) sh (fun ts1 sh1 => ordW P G nt ops B [] (bindA ds sh1.length ts1) (sh1 ++ zs) K)
  | none => False

def isFree (ops : Array Oper) (i : Nat) : Bool := match ops[i]? with
  | some o => freeO o.op
  | none => false

def okAl (ops : Array Oper) (LA : List Nat) (i : Nat) : Bool := match ops[i]? with
  | some o => (match o.op, o.dst, o.guard with
    | .alloc _, some _, none => true
    | _, _, _ => false) && LA.all fun j => match ops[j]? with
      | some oj => o.apart ops oj
      | none => false
  | none => false

def noDup : List Nat → Bool
  | [] => true
  | d :: l => !l.contains d && noDup l

def okRA (ops : Array Oper) (A : List (Nat × List Nat)) (al : List Nat) (B : List (Nat × List Nat)) : Bool :=
  let LA := A.map (·.1)
  let LB := B.map (·.1)
  (LA ++ (al ++ LB)).length == ops.size && ((List.range ops.size).all fun i => (LA ++ (al ++ LB)).contains i) && ((LA ++ (al ++ LB)).all fun i => decide (i < ops.size)) && noDup (LA ++ (al ++ LB)) && okEdges 0 ops.toList &&
  okPairs ops (masks ops) LA && okPairs ops (masks ops) (LA.filter (isFree ops) ++ LB) && okRe ops (masks ops) A [] && okRe ops (masks ops) B [] &&
  (LB.all fun b => (al.all fun i => hasB (masks ops) b i) && (LA.all fun a => isFree ops a || hasB (masks ops) b a)) && (al.all fun i => okAl ops LA i) && noDup (dstsOf ops al)

theorem noDup_spec : ∀ {l : List Nat}, noDup l = true → l.Nodup
  | [], _ => List.nodup_nil
  | d :: l, h => by
    simp only [noDup, Bool.and_eq_true, Bool.not_eq_true', ] at h
    refine List.nodup_cons.2 ⟨fun hm => ?_, noDup_spec h.2⟩
    have := List.contains_iff_mem.2 hm
    rw [this] at h; simp at h

section
variable {P : Program} {ops : Array Oper} {K : Ts → SH → Prop} {Q : Exit → Act → World → Prop}

/-- one operation of some order; what is known behind it is told -/
theorem stepT' {nt : Nat} (hd : ∀ o ∈ ops.toList, ∀ d, o.dst = some d → d < nt) {i : Nat} {oi : Oper} (hi : ops[i]? = some oi) {l1 l2 : List Nat} {ts : Ts} {sh : SH} {ρ : Inj} {w : World} {a : Act} {un : Nat → Nat → Prop}
    (hl : ∀ j ∈ l1, un j i ∧ ∀ oj, ops[j]? = some oj → detO oj.op = true ∧ oi.apart ops oj = true)
    (h : Tr P ops un K (l1 ++ i :: l2) [] ts sh) (h1 : Rep ρ sh w.heap) (h2 : TRel ρ ts a.tmps) (h3 : a.tmps.size = nt) {next : Act → World → Prop}
    (hn : ∀ v v' sh' ρ' w', Tr P ops un K (l1 ++ l2) [] (putS oi.dst v ts) sh' → Rep ρ' sh' w'.heap → TRel ρ' (putS oi.dst v ts) (a.put oi.dst v').tmps → (a.put oi.dst v').tmps.size = nt → (a.put oi.dst v').defers = a.defers → Step ρ sh w ρ' sh' w' → next (a.put oi.dst v') w') :
    wpOp P ops Q i next a w := by
  have hdst : ∀ (v' : Value), (a.put oi.dst v').tmps.size = nt := fun v' => by
    unfold Act.put
    cases oi.dst <;> simp [h3]
  have hdf : ∀ (v' : Value), (a.put oi.dst v').defers = a.defers := fun v' => by
    unfold Act.put
    cases oi.dst <;> rfl
  have hput : ∀ {ρ' : Inj} {v v'}, TRel ρ' ts a.tmps → VRel ρ' v v' → TRel ρ' (putS oi.dst v ts) (a.put oi.dst v').tmps := by
    intro ρ' v v' ht hv
    cases hod : oi.dst with
    | none => exact ht
    | some d => exact ht.set hv (by rw [h3]; exact hd oi (by
        rw [Array.mem_toList_iff]; exact Array.mem_of_getElem? hi) d hod)
  unfold wpOp
  simp only [hi]
  cases hdet : detO oi.op with
  | true =>
    obtain ⟨v, k1, k2⟩ := Tr.moveF P ops hi hdet (fun j hj => (hl j hj).2) h
    obtain ⟨v', k3, k4⟩ := k1 ρ w a h1 (h2.on _)
    have fin := hn v v' sh ρ w k2 h1 (hput h2 k3) (hdst v') (hdf v') (Step.refl _ _ _)
    rcases k4 with ⟨k4, k5⟩ | ⟨k4, rfl⟩
    · simp only [k4, if_true]
      left
      simp only [Oper.wp, k5, Oper.upon_value]
      exact fin
    · simp only [k4, Bool.false_eq_true, if_false]
      exact fin
  | false =>
    have k := Tr.moveE P ops hi hdet hl h ρ w a h1 (h2.on _) next Q ?_
    · rcases k with ⟨k4, k5⟩ | ⟨k4, k5⟩
      · simp only [k4, if_true]
        exact .inl k5
      · simp only [k4, Bool.false_eq_true, if_false]
        exact k5
    · intro v v' sh' ρ' w' ⟨_, k2⟩ k3 k6 k7
      exact hn v v' sh' ρ' w' k2 k6 (hput (h2.mono k7.le) k3) (hdst v') (hdf v') k7

/-! ### what was made ahead -/

theorem look_bindA {ds : List Nat} : ∀ {n : Nat} {ts ts' : Ts}, (∀ t, look ts t = look ts' t) → ∀ t, look (bindA ds n ts) t = look (bindA ds n ts') t := by
  induction ds with
  | nil => intro n ts ts' h t; exact h t
  | cons d ds ih =>
    intro n ts ts' h t
    refine ih (fun u => ?_) t
    simp only [look]
    split
    · rfl
    · exact h u

theorem look_bindA_out {ds : List Nat} : ∀ {n : Nat} {ts : Ts} {t : Nat}, t ∉ ds → look (bindA ds n ts) t = look ts t := by
  induction ds with
  | nil => intro n ts t _; rfl
  | cons d ds ih =>
    intro n ts t h
    simp only [List.mem_cons, not_or] at h
    refine (ih h.2).trans ?_
    simp only [look]
    rw [if_neg (fun e => h.1 e.symm)]

theorem look_bindA_put {ds : List Nat} {dst : Option Nat} {v : SV} (hd : ∀ d, dst = some d → d ∉ ds) : ∀ {n : Nat} {ts : Ts} (t : Nat), look (bindA ds n (putS dst v ts)) t = look (putS dst v (bindA ds n ts)) t := by
  cases dst with
  | none => intro n ts t; rfl
  | some d =>
    have hd' := hd d rfl
    clear hd
    induction ds with
    | nil => intro n ts t; rfl
    | cons e ds ih =>
      intro n ts t
      simp only [List.mem_cons, not_or] at hd'
      refine Eq.trans (b := look (bindA ds (n + 1) (putS (some d) v ((e, SV.ptr n 0 0 0) :: ts))) t) ?_ (ih hd'.2 t)
      show look (bindA ds (n + 1) ((e, SV.ptr n 0 0 0) :: putS (some d) v ts)) t = _
      refine look_bindA (fun u => ?_) t
      simp only [putS, look]
      by_cases h1 : e = u
      · subst h1; simp [hd'.1]
      · simp [h1]

theorem allocO_dsts {nt : Nat} : ∀ {al : List Nat} {ds zs}, allocO P nt ops al = some (ds, zs) → dstsOf ops al = ds ∧ ds.length = zs.length
  | [], ds, zs, h => by
    simp only [allocO, Option.some.injEq, Prod.mk.injEq] at h
    obtain ⟨rfl, rfl⟩ := h
    exact ⟨rfl, rfl⟩
  | i :: l, ds, zs, h => by
    unfold allocO at h
    split at h
    · rename_i o ho
      split at h
      · rename_i t d hop hdst hg
        split at h
        · rename_i z ds' zs' hz hl
          split at h
          · cases h
            obtain ⟨h1, h2⟩ := allocO_dsts hl
            exact ⟨by simp only [dstsOf, ho, hdst, h1], by simp [h2]⟩
          · cases h
        · cases h
      · cases h
    · cases h

/-- behind what is left of the first part, free all of it, the second part goes on -/
theorem tr_free {nt : Nat} {ms : List Nat} {G : CTab} (hG : GOk P G) {al : List Nat} {B : List (Nat × List Nat)} {ds : List Nat} {zs : List SObj} (hal : allocO P nt ops al = some (ds, zs)) (hB : okRe ops ms B [] = true) : ∀ (l : List Nat) (p : Pend) (ts : Ts) (sh : SH),
    Tr P ops (unB ms) (thenA P nt ops al (fun ts2 sh2 => ordW P G nt ops B [] ts2 sh2 K)) l p ts sh → (∀ j ∈ l, isFree ops j = true ∧ ∀ oj, ops[j]? = some oj → (∀ d, oj.dst = some d → d ∉ ds) ∧ ∀ t ∈ oj.looksAt ops, t ∉ ds) →
    Tr P ops (unB ms) K (l ++ B.map (·.1)) [] (bindA ds sh.length ts) (sh ++ zs)
  | [], p, ts, sh, ⟨ts0, h1, h2⟩, _ => by
    unfold thenA at h2
    rw [hal] at h2
    exact (ordW_tr hG B [] [] _ _ h2 hB (by simp)).of P ops (PEq.refl ops _) (look_bindA fun t => (h1 t).symm)
  | j :: l, p, ts, sh, ⟨oj, hj, h⟩, hf => by
    obtain ⟨f1, f2⟩ := hf j (List.mem_cons_self ..)
    obtain ⟨f3, f4⟩ := f2 oj hj
    have hfr : freeO oj.op = true := by unfold isFree at f1; rw [hj] at f1; exact f1
    rcases h with ⟨hd, v, hv, hvf, h⟩ | ⟨hd, _⟩
    · have hrest : ∃ p', Tr P ops (unB ms) (thenA P nt ops al (fun ts2 sh2 => ordW P G nt ops B [] ts2 sh2 K)) l p' (putS oj.dst v ts) sh := by
        rcases h with ⟨_, h⟩ | h
        · exact ⟨_, h⟩
        · exact ⟨_, h⟩
      obtain ⟨p', hr⟩ := hrest
      have e : ∀ t ∈ oj.looksAt ops, look ts t = look (bindA ds sh.length ts) t := fun t ht => (look_bindA_out (f4 t ht)).symm
      refine ⟨oj, hj, .inl ⟨hd, v, (hvf hfr _).congr P ops e, fun _ sh' => (hvf hfr sh').congr P ops e, .inl ⟨fun sh' => (hvf hfr sh').congr P ops e, ?_⟩⟩⟩
      exact (tr_free hG hal hB l p' _ sh hr (fun k hk => hf k (List.mem_cons_of_mem _ hk))).of P ops (PEq.refl ops _) (look_bindA_put f3)
    · exfalso
      have : detO oj.op = true := by
        cases hop : oj.op <;> rw [hop] at hfr <;> first | rfl | (simp [freeO] at hfr)
      rw [this] at hd; cases hd

/-- a variable that was made: its slot and its block -/
def Made (P : Program) (ops : Array Oper) (B0 : Nat) (sh : SH) (ρ : Inj) (w : World) (a : Act) (i b : Nat) : Prop :=
  ∃ o t d z, ops[i]? = some o ∧ o.op = .alloc t ∧ o.dst = some d ∧ (∀ w, (zeroValue t).run P w = .ok z w) ∧ a.tmps[d]? = some (.pointer (some ⟨b, 0, none⟩)) ∧
    w.heap[b]? = some (.cells z.cells t (0, 0)) ∧ (∀ id p e, sh[id]? = some p → p.live = true → ρ id = some e → e.b ≠ b) ∧ B0 ≤ b

theorem Made.not_owned {B0 sh ρ w a i b} (h : Made P ops B0 sh ρ w a i b) : ¬ Owns ρ sh b := by
  obtain ⟨_, _, _, _, _, _, _, _, _, _, h, _⟩ := h
  rintro ⟨id, p, e, h1, h2, _, h3, h4⟩
  exact h id p e h1 h2 h3 h4

theorem Made.step {B0 : Nat} {sh sh' : SH} {ρ ρ' : Inj} {w w' : World} {a a' : Act} {i b : Nat} (h : Made P ops B0 sh ρ w a i b) (hs : Step ρ sh w ρ' sh' w') (ha : ∀ d o, ops[i]? = some o → o.dst = some d → a'.tmps[d]? = a.tmps[d]?) : Made P ops B0 sh' ρ' w' a' i b := by
  have hno := h.not_owned
  obtain ⟨o, t, d, z, h1, h2, h3, h4, h5, h6, h7, h8⟩ := h
  have hlt : b < w.heap.size := (Array.getElem?_eq_some_iff.1 h6).1
  refine ⟨o, t, d, z, h1, h2, h3, h4, (ha d o h1 h3).trans h5, (hs.same b hlt hno).trans h6, ?_, h8⟩
  intro id p e k1 k2 k3 k4
  cases hr : p.ro with
  | false =>
    exact hno (hs.owns b hlt ⟨id, p, e, k1, k2, hr, k3, k4⟩)
  | true =>
    have hp := hs.ro id p k1 k2 hr
    have hid : id < sh.length := (List.getElem?_eq_some_iff.1 hp).1
    exact h7 id p e hp k2 (by rw [← hs.keep id hid]; exact k3) k4

/-- the blocks, known at last -/
theorem realize {nt B0 : Nat} {ρ0 : Inj} {sh0 : SH} {w0 w : World} {a : Act} (hw0 : B0 = w0.heap.size) (hnt : a.tmps.size = nt) : ∀ (al : List Nat) (ds : List Nat) (zs : List SObj) (bs : List Nat) (ρ : Inj) (sh : SH) (ts : Ts), allocO P nt ops al = some (ds, zs) → bs.length = al.length →
    (∀ (k i b : Nat), al[k]? = some i → bs[k]? = some b → Made P ops B0 sh ρ w a i b) → bs.Nodup → Rep ρ sh w.heap → TRel ρ ts a.tmps → Step ρ0 sh0 w0 ρ sh w →
    ∃ ρ', Rep ρ' (sh ++ zs) w.heap ∧ TRel ρ' (bindA ds sh.length ts) a.tmps ∧ Step ρ0 sh0 w0 ρ' (sh ++ zs) w
  | [], ds, zs, bs, ρ, sh, ts, h, hb, hm, hnd, h1, h2, h3 => by
    simp only [allocO, Option.some.injEq, Prod.mk.injEq] at h
    obtain ⟨rfl, rfl⟩ := h
    exact ⟨ρ, by simpa using h1, h2, by simpa using h3⟩
  | i :: al, ds, zs, [], ρ, sh, ts, h, hb, hm, hnd, h1, h2, h3 => by simp at hb
  | i :: al, ds, zs, b :: bs, ρ, sh, ts, h, hb, hm, hnd, h1, h2, h3 => by
    unfold allocO at h
    split at h
    · rename_i o ho
      split at h
      · rename_i t d hop hdst hg
        split at h
        · rename_i z0 ds' zs' hz hl
          split at h
          · rename_i hdn
            cases h
            obtain ⟨o', t', d', z, m1, m2, m3, m4, m5, m6, m7, m8⟩ := hm 0 i b rfl rfl
            rw [ho] at m1; cases m1
            rw [hop] at m2; cases m2
            rw [hdst] at m3; cases m3
            obtain ⟨z2, hz2, hlen, hcell⟩ := zeroS_spec hz
            have hzz : z2 = z := by
              have e1 := hz2 w
              have e2 := m4 w
              rw [e1] at e2; cases e2; rfl
            subst hzz
            have hfr : ρ sh.length = none := h1.fresh _ (Nat.le_refl _)
            have hrep := h1.new (.cells z0 t) ⟨b, 0, 1, z2.cells.size⟩ w.heap m7 (fun _ _ => rfl) (by
              refine ⟨rfl, z2.cells, t, (0, 0), m6, Nat.le_refl _, fun _ => ⟨rfl, rfl, rfl⟩, fun i j v hv => ?_⟩
              simp only [SObj.cell] at hv
              split at hv
              · rename_i hi
                subst hi
                obtain ⟨g1, v', g2, g3⟩ := hcell (ρ.add sh.length ⟨b, 0, 1, z2.cells.size⟩) j v hv
                exact ⟨g1, v', by simpa using g2, g3⟩
              · cases hv)
            have hle : ρ.le (ρ.add sh.length ⟨b, 0, 1, z2.cells.size⟩) := Inj.le_add hfr
            have hlen0 : sh0.length ≤ sh.length := h3.len
            have hst : Step ρ0 sh0 w0 (ρ.add sh.length ⟨b, 0, 1, z2.cells.size⟩) (sh ++ [.cells z0 t]) w := by
              refine ⟨Inj.le_trans h3.le hle, by simp; omega, fun id hid => ?_, fun id o ho hlv hro => ?_, h3.size, h3.tape, h3.os, h3.out, h3.same, fun c hc hown => ?_⟩
              · rw [Inj.add_ne (by omega)]; exact h3.keep id hid
              · by_cases hid : id = sh.length
                · subst hid; rw [get_push_self] at ho; cases ho; simp [SObj.ro] at hro
                · rw [get_push_lt hid] at ho; exact h3.ro id o ho hlv hro
              · obtain ⟨id, p, e, g1, g2, g3, g4, g5⟩ := hown
                by_cases hid : id = sh.length
                · subst hid
                  rw [Inj.add_self] at g4; cases g4
                  simp only at g5
                  omega
                · rw [get_push_lt hid] at g1
                  rw [Inj.add_ne hid] at g4
                  exact h3.owns c hc ⟨id, p, e, g1, g2, g3, g4, g5⟩
            have htr : TRel (ρ.add sh.length ⟨b, 0, 1, z2.cells.size⟩) ((d, .ptr sh.length 0 0 0) :: ts) a.tmps := by
              intro u v hv
              simp only [look] at hv
              split at hv
              · rename_i hu; subst hu; cases hv
                exact ⟨_, m5, .ptr Inj.add_self (by simp)⟩
              · exact (h2.mono hle) u v hv
            obtain ⟨hnb, hnd'⟩ := List.nodup_cons.1 hnd
            obtain ⟨ρ', r1, r2, r3⟩ := realize hw0 hnt al ds' zs' bs _ (sh ++ [.cells z0 t]) _ hl (by simpa using hb) (fun k i' b' g1 g2 => by
              obtain ⟨o', t', d', z', q1, q2, q3, q4, q5, q6, q7, q8⟩ := hm (k + 1) i' b' (by simpa using g1) (by simpa using g2)
              refine ⟨o', t', d', z', q1, q2, q3, q4, q5, q6, ?_, q8⟩
              intro id p e k1 k2 k3
              by_cases hid : id = sh.length
              · subst hid
                rw [Inj.add_self] at k3; cases k3
                rintro rfl
                exact hnb (List.mem_of_getElem? g2)
              · rw [get_push_lt hid] at k1
                rw [Inj.add_ne hid] at k3
                exact q7 id p e k1 k2 k3) hnd' hrep htr hst
            refine ⟨ρ', by simpa using r1, ?_, by simpa using r3⟩
            have hl1 : (sh ++ [SObj.cells z0 t]).length = sh.length + 1 := by simp
            rw [hl1] at r2
            exact r2
          · cases h
        · cases h
      · cases h
    · cases h
end
end Go.Rv
