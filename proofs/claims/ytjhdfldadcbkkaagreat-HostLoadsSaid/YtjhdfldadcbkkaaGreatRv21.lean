/- A part of the evaluator of the model's code, or of its tables: what is proved is said in the claim's last text. -/
import Derived.Test.YtjhdfldadcbkkaaGreatRv20
import Derived.RangeFuncLeaves
import Derived.RangeFuncRecord
namespace Go.Rv
set_option linter.unusedVariables false

/-! ## deferred calls, marks of ranges, panics -/

inductive DS where
  | fn (f : FuncId) (args : List SV)
  | col
abbrev Dx := List DS

inductive XRel (B : Nat) (ρ : Inj) (w : World) : Dx → List Deferred → Prop where
  | nil : XRel B ρ w [] []
  | fn {f args cap dargs ds ds'} : VRels ρ args ((dargs ++ cap : Array Value).toList) → XRel B ρ w ds ds' → XRel B ρ w (.fn f args :: ds) (⟨.fn (.func f) cap, dargs⟩ :: ds')
  | col {b ds ds'} : B ≤ b → w.heap[b]? = some (.deferred (some [])) → (∀ d ∈ ds', d.target ≠ .collected b) → XRel B ρ w ds ds' → XRel B ρ w (.col :: ds) (⟨.collected b, #[]⟩ :: ds')

/-- what is no row of cells and no map is nobody's -/
theorem not_owned {ρ : Inj} {sh : SH} {heap : Array Obj} (hρ : Rep ρ sh heap) {b : Nat} {o : Obj} (h : heap[b]? = some o) (h1 : ∀ c t f, o ≠ .cells c t f) (h2 : (∀ e c, o ≠ .map e c) ∧ ∀ a b c d, o ≠ .mapIter a b c d) :
    ∀ id p e, sh[id]? = some p → p.live = true → ρ id = some e → e.b ≠ b := by
  intro id p e hp hl he hb
  obtain ⟨e', he', s⟩ := hρ.obj id p hp hl
  rw [he] at he'; cases he'
  subst hb
  cases p <;> simp only [OSat] at s
  case dead => cases hl
  case map => obtain ⟨es, cl, k, _⟩ := s; rw [h] at k; cases k; exact h2.1 _ _ rfl
  case iter => obtain ⟨_, m', k, _⟩ := s; rw [h] at k; cases k; exact h2.2 _ _ _ _ rfl
  all_goals obtain ⟨_, c, t, fr, k, _⟩ := s; rw [h] at k; cases k; exact h1 _ _ _ rfl

theorem not_owns {ρ : Inj} {sh : SH} {heap : Array Obj} (hρ : Rep ρ sh heap) {b : Nat} {o : Obj} (h : heap[b]? = some o) (h1 : ∀ c t f, o ≠ .cells c t f) (h2 : (∀ e c, o ≠ .map e c) ∧ ∀ a b c d, o ≠ .mapIter a b c d) : ¬ Owns ρ sh b := by
  rintro ⟨id, p, e, hp, hl, _, he, hb⟩
  exact not_owned hρ h h1 h2 id p e hp hl he hb

theorem heap_lt {w : World} {b : Nat} {o : Obj} (h : w.heap[b]? = some o) : b < w.heap.size := (Array.getElem?_eq_some_iff.1 h).1

theorem XRel.step {B : Nat} {ρ ρ' : Inj} {sh sh' : SH} {w w' : World} (hρ : Rep ρ sh w.heap) (hs : Step ρ sh w ρ' sh' w') {ds ds'} (r : XRel B ρ w ds ds') : XRel B ρ' w' ds ds' := by
  induction r with
  | nil => exact .nil
  | fn a _ ih => exact .fn (a.mono hs.le) ih
  | col hB hb hn _ ih => exact .col hB ((hs.same _ (heap_lt hb) (not_owns hρ hb (by intros; simp) (by simp))).trans hb) hn ih

theorem put_same (w : World) (b : Nat) (o : Obj) {c : Nat} (hc : c ≠ b) : (w.putObj b o).heap[c]? = w.heap[c]? := by
  simp only [World.putObj]
  rw [Array.getElem?_setIfInBounds_ne (Ne.symm hc)]

/-- a world that differs in a block that is nobody's -/
theorem Rep.putObj {ρ : Inj} {sh : SH} {w : World} (hρ : Rep ρ sh w.heap) {b : Nat} {o : Obj} (h : w.heap[b]? = some o) (h1 : ∀ c t f, o ≠ .cells c t f) (h2 : (∀ e c, o ≠ .map e c) ∧ ∀ a b c d, o ≠ .mapIter a b c d) (o' : Obj) :
    Rep ρ sh (w.putObj b o').heap := by
  refine ⟨?_, ?_, hρ.fresh⟩
  · intro id p hp hl
    obtain ⟨e, he, s⟩ := hρ.obj id p hp hl
    exact ⟨e, he, s.congr (put_same w b o' (not_owned hρ h h1 h2 id p e hp hl he))⟩
  · intro i j p q e f a1 a2 a3 a4 a5 a6 a7 a8
    exact hρ.inj i j p q e f a1 a2 a3 a4 a5 a6 a7 a8

theorem Step.putObj {ρ0 ρ : Inj} {sh0 sh : SH} {w0 w : World} (hs : Step ρ0 sh0 w0 ρ sh w) {b : Nat} (hb : w0.heap.size ≤ b) (o' : Obj) : Step ρ0 sh0 w0 ρ sh (w.putObj b o') where
  le := hs.le
  len := hs.len
  keep := hs.keep
  ro := hs.ro
  size := by simpa [World.putObj] using hs.size
  tape := hs.tape
  os := hs.os
  out := hs.out
  same c hc hn := (put_same w b o' (by omega)).trans (hs.same c hc hn)
  owns := hs.owns

theorem XRel.putObj {B : Nat} {ρ : Inj} {w : World} {b : Nat} {ds ds'} (r : XRel B ρ w ds ds') (hn : ∀ d ∈ ds', d.target ≠ .collected b) (o : Obj) : XRel B ρ (w.putObj b o) ds ds' := by
  induction r with
  | nil => exact .nil
  | fn a _ ih => exact .fn a (ih fun d hd => hn d (List.mem_cons_of_mem _ hd))
  | @col c _ _ hB hb hd _ ih =>
    refine .col hB ?_ hd (ih fun d hd => hn d (List.mem_cons_of_mem _ hd))
    rw [put_same]
    · exact hb
    · intro e
      exact hn _ (List.mem_cons_self ..) (by rw [e])

/-- a new block that is nobody's -/
theorem alloc_same (w : World) (o : Obj) {c : Nat} (hc : c < w.heap.size) : (w.alloc o).heap[c]? = w.heap[c]? := by
  show (w.heap.push o)[c]? = _
  rw [Array.getElem?_push, if_neg (by omega)]

theorem OSat.lt' {ρ : Inj} {o e} {heap : Array Obj} (s : OSat ρ o e heap) (hl : o.live = true) : e.b < heap.size := s.lt hl

theorem Rep.allocN {ρ : Inj} {sh : SH} {w : World} (hρ : Rep ρ sh w.heap) (o : Obj) : Rep ρ sh (w.alloc o).heap := by
  refine ⟨?_, ?_, hρ.fresh⟩
  · intro id p hp hl
    obtain ⟨e, he, s⟩ := hρ.obj id p hp hl
    exact ⟨e, he, s.congr (alloc_same w o (s.lt hl))⟩
  · intro i j p q e f a1 a2 a3 a4 a5 a6 a7 a8
    exact hρ.inj i j p q e f a1 a2 a3 a4 a5 a6 a7 a8

theorem Step.allocN {ρ0 ρ : Inj} {sh0 sh : SH} {w0 w : World} (hs : Step ρ0 sh0 w0 ρ sh w) (o : Obj) : Step ρ0 sh0 w0 ρ sh (w.alloc o) where
  le := hs.le
  len := hs.len
  keep := hs.keep
  ro := hs.ro
  size := by simp; have := hs.size; omega
  tape := hs.tape
  os := hs.os
  out := hs.out
  same c hc hn := (alloc_same w o (Nat.lt_of_lt_of_le hc hs.size)).trans (hs.same c hc hn)
  owns := hs.owns

theorem XRel.allocN {B : Nat} {ρ : Inj} {w : World} {ds ds'} (r : XRel B ρ w ds ds') (o : Obj) : XRel B ρ (w.alloc o) ds ds' := by
  induction r with
  | nil => exact .nil
  | fn a _ ih => exact .fn a ih
  | col hB hb hd _ ih => exact .col hB ((alloc_same w o (heap_lt hb)).trans hb) hd ih

theorem XRel.low {B : Nat} {ρ : Inj} {w : World} {ds ds'} (r : XRel B ρ w ds ds') : ∀ d ∈ ds', ∀ b, d.target = .collected b → b < w.heap.size := by
  induction r with
  | nil => intro d hd; simp at hd
  | fn a _ ih =>
    intro d hd b hb
    rcases List.mem_cons.1 hd with rfl | hd
    · simp at hb
    · exact ih d hd b hb
  | col hB hb hn _ ih =>
    intro d hd c hc
    rcases List.mem_cons.1 hd with rfl | hd
    · simp at hc; subst hc; exact heap_lt hb
    · exact ih d hd c hc

abbrev XK := Ex → Ts → SH → Dx → Prop
abbrev PK := SV → Ts → SH → Dx → Prop

def PostX (B nt : Nat) (K : XK) (KP : PK) (ρ : Inj) (sh : SH) (w : World) : Exit → Act → World → Prop := fun ex a' w' =>
  (∃ e ts' sh' ds' ρ', ex = e.to ∧ K e ts' sh' ds' ∧ TRel ρ' ts' a'.tmps ∧ a'.tmps.size = nt ∧ XRel B ρ' w' ds' a'.defers ∧ Rep ρ' sh' w'.heap ∧ Step ρ sh w ρ' sh' w') ∨
  (∃ p p' ts' sh' ds' ρ', ex = .panic (pan1 p') ∧ KP p ts' sh' ds' ∧ VRel ρ' p p' ∧ TRel ρ' ts' a'.tmps ∧ a'.tmps.size = nt ∧ XRel B ρ' w' ds' a'.defers ∧ Rep ρ' sh' w'.heap ∧ Step ρ sh w ρ' sh' w')

def CodeX (P : Program) (nt : Nat) (c : Code) (ts : Ts) (sh : SH) (ds : Dx) (K : XK) (KP : PK) : Prop :=
  ∀ (B : Nat) (ρ : Inj) (w : World) (a : Act), B ≤ w.heap.size → Rep ρ sh w.heap → TRel ρ ts a.tmps → a.tmps.size = nt → XRel B ρ w ds a.defers → c.wp P (PostX B nt K KP ρ sh w) a w

theorem CodeT.x {P nt c ts sh ds} {K : XK} {KP : PK} (h : CodeT P nt c ts sh (fun e ts sh => K e ts sh ds)) : CodeX P nt c ts sh ds K KP := by
  intro B ρ w a hB h1 h2 h3 h4
  refine wp_mono (h ρ w a h1 h2 h3) ?_
  rintro ex a' w' ⟨e, ts', sh', ρ', rfl, k1, k2, k3, k4, k5, k6⟩
  exact .inl ⟨e, ts', sh', ds, ρ', rfl, k1, k2, k3, k4 ▸ h4.step h1 k6, k5, k6⟩

theorem PostX.trans {B nt K KP} {ρ0 ρ : Inj} {sh0 sh : SH} {w0 w : World} (hs : Step ρ0 sh0 w0 ρ sh w) {ex a' w'} (h : PostX B nt K KP ρ sh w ex a' w') : PostX B nt K KP ρ0 sh0 w0 ex a' w' := by
  rcases h with ⟨e, ts', sh', ds', ρ', h1, h2, h3, h4, h5, h6, h7⟩ | ⟨p, p', ts', sh', ds', ρ', h1, h2, h3, h4, h5, h6, h7, h8⟩
  · exact .inl ⟨e, ts', sh', ds', ρ', h1, h2, h3, h4, h5, h6, hs.trans h7⟩
  · exact .inr ⟨p, p', ts', sh', ds', ρ', h1, h2, h3, h4, h5, h6, h7, hs.trans h8⟩

/-! ### regions -/
def opsX (P : Program) (G : CTabP) (nt : Nat) (ops : Array Oper) : List Oper → Ts → SH → Dx → (Ts → SH → Dx → Prop) → PK → Prop
  | [], ts, sh, ds, K, _ => K ts sh ds
  | o :: l, ts, sh, ds, K, KP => guardS ops ts o.guard
    (fun ts => match o.op with
      | .defer c => match c.callee with
        | .value x => ev1 ts x (fun v => match v with
          | .func (.func f) first cap => evL ts c.args.toList (fun vs => bindS nt o.dst (.tuple []) ts (fun ts' => opsX P G nt ops l ts' sh (.fn f (first ++ vs ++ cap) :: ds) K KP))
          | _ => False)
        | _ => False
      | op => opP P G ts sh op (fun v sh' => bindS nt o.dst v ts (fun ts' => opsX P G nt ops l ts' sh' ds K KP)) (fun p sh' => KP p ts sh' ds))
    (fun ts => bindS nt o.dst (.tuple []) ts (fun ts' => opsX P G nt ops l ts' sh ds K KP))

theorem xput {B ρ w ds} {a : Act} {dst v} (h : XRel B ρ w ds a.defers) : XRel B ρ w ds (a.put dst v).defers := by
  unfold Act.put
  cases dst <;> exact h

theorem opsX_sound {P : Program} {G : CTabP} (hG : GPOk P G) {nt B : Nat} {ops : Array Oper} {Q : Exit → Act → World → Prop} : ∀ (l : List Oper) (ts : Ts) (sh : SH) (ds : Dx) (K : Ts → SH → Dx → Prop) (KP : PK) (ρ : Inj) (w : World) (a : Act),
    opsX P G nt ops l ts sh ds K KP → Rep ρ sh w.heap → TRel ρ ts a.tmps → a.tmps.size = nt → XRel B ρ w ds a.defers →
    (∀ ex a' w', PostX B nt (fun e ts sh ds => match e with | .normal => K ts sh ds | _ => False) KP ρ sh w ex a' w' → Q ex a' w') → wpList P ops Q l a w
  | [], ts, sh, ds, K, KP, ρ, w, a, h, hρ, ht, hs, hd, hq => hq _ _ _ (.inl ⟨.normal, ts, sh, ds, ρ, rfl, h, ht, hs, hd, hρ, Step.refl _ _ _⟩)
  | o :: l, ts, sh, ds, K, KP, ρ, w, a, h, hρ, ht, hs, hd, hq => by
    simp only [opsX] at h
    obtain ⟨ts1, ht1, ⟨hw, h⟩ | ⟨hw, h⟩⟩ := guardS_spec h ht o rfl
    · unfold wpList
      rw [if_pos hw]
      left
      split at h
      · rename_i c hop
        split at h
        · rename_i x hcal
          obtain ⟨v, h1, h2⟩ := ev1_spec ht1 h
          split at h1
          · rename_i f first cap
            obtain ⟨vs, h3, h4⟩ := evL_spec ht1 _ _ h1
            generalize hu : a.eval x = u at h2
            cases h2 with
            | func f1 f2 f3 f4 =>
            rename_i fs cs
            have hA := ((VRels.of_get _ _ f1 f2).append h4).append (VRels.of_get _ _ f3 f4)
            have hx : execOp a.eval o = (pure (.defer ⟨.fn (.func f) cs, fs ++ c.args.map a.eval⟩) : Sem Next) := by
              simp [execOp, hop, resolve, hcal, hu, Deferred.ofValue]
            simp only [Oper.wp, hx, Sem.run_pure, Oper.upon_defer]
            obtain ⟨ts', k1, k2, k3, k4⟩ := bindS_spec (a := { a with defers := ⟨.fn (.func f) cs, fs ++ c.args.map a.eval⟩ :: a.defers }) (v' := undef) h3 ht1 (.tuple rfl (by simp)) hs
            refine opsX_sound hG l ts' sh _ K KP ρ w _ k1 hρ k2 k3 (xput (XRel.fn ?_ hd)) hq
            simpa using hA
          · exact h1.elim
        · exact h.elim
      · refine opP_sound hG h hρ ht1 ?_ ?_
        · intro v v' sh' ρ' w' hk hv hρ' hst
          obtain ⟨ts', k1, k2, k3, k4⟩ := bindS_spec hk (ht1.mono hst.le) hv hs
          refine opsX_sound hG l ts' sh' ds K KP ρ' w' _ k1 hρ' k2 k3 (xput (hd.step hρ hst)) ?_
          intro ex a' w2 hp
          exact hq _ _ _ (hp.trans hst)
        · intro p p' sh' ρ' w' hk hv hρ' hst
          exact hq _ _ _ (.inr ⟨p, p', ts1, sh', ds, ρ', rfl, hk, hv, ht1.mono hst.le, hs, hd.step hρ hst, hρ', hst⟩)
    · unfold wpList
      rw [if_neg (by simp [hw])]
      obtain ⟨ts', k1, k2, k3, k4⟩ := bindS_spec (a := a) (v' := undef) h ht1 (.tuple rfl (by simp)) hs
      exact opsX_sound hG l ts' sh ds K KP ρ w _ k1 hρ k2 k3 (xput hd) hq
end Go.Rv
