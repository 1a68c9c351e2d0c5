/- A part of the evaluator of the model's code, or of its tables: what is proved is said in the claim's last text. -/
import Derived.Test.YtjhdfldadcbkkaaGreatRv23
namespace Go.Rv
set_option linter.unusedVariables false

/-! ## what a deferred call finds: the caller returns, or panics -/
inductive PM where
  | ret
  | pan (p : SV) (r : Bool)

inductive URel (ρ : Inj) : PM → FrameMode → Prop where
  | ret : URel ρ .ret .returning
  | pan {p p' r} : VRel ρ p p' → URel ρ (.pan p r) (.panicking [{ v := p', recovered := r }])

theorem URel.mono {ρ ρ' : Inj} (h : ρ.le ρ') {u u'} (r : URel ρ u u') : URel ρ' u u' := by
  cases r with
  | ret => exact .ret
  | pan a => exact .pan (a.mono h)

theorem URel.run {ρ : Inj} {u u'} (r : URel ρ u u') : u' ≠ .run := by cases r <;> simp

def settleS : PM → PM
  | .pan p true => .ret
  | u => u

theorem URel.settle {ρ : Inj} {u u'} (r : URel ρ u u') : URel ρ (settleS u) (settle u') := by
  cases r with
  | ret => exact .ret
  | @pan p p' r a =>
    cases r
    · exact .pan a
    · exact .ret

def PostS (nt : Nat) (K : Ex → Ts → SH → PM → Prop) (ρ : Inj) (sh : SH) (w : World) (c₀ : Frame) (cs : List Frame) : Exit → Act → List Frame → World → Prop := fun ex a' cs' w' =>
  ∃ e ts' sh' ρ' u u', ex = e.to ∧ K e ts' sh' u ∧ TRel ρ' ts' a'.tmps ∧ a'.tmps.size = nt ∧ a'.defers = [] ∧ URel ρ' u u' ∧ cs' = { c₀ with mode := u' } :: cs ∧ Rep ρ' sh' w'.heap ∧ Step ρ sh w ρ' sh' w'

abbrev SK := Ex → Ts → SH → PM → Prop

def CodeS (P : Program) (nt : Nat) (c : Code) (ts : Ts) (sh : SH) (u : PM) (K : SK) : Prop :=
  ∀ (ρ : Inj) (w : World) (a : Act) (c₀ : Frame) (cs : List Frame) (u' : FrameMode), Rep ρ sh w.heap → TRel ρ ts a.tmps → a.tmps.size = nt → a.defers = [] → URel ρ u u' →
    c.wpS P (PostS nt K ρ sh w c₀ cs) a ({ c₀ with mode := u' } :: cs) w

def isRec : Op → Bool
  | .call c => match c.callee with
    | .builtin .recover => true
    | _ => false
  | _ => false

def opsS (P : Program) (G : CTabP) (nt : Nat) (ops : Array Oper) : List Oper → Ts → SH → PM → (Ts → SH → PM → Prop) → Prop
  | [], ts, sh, u, K => K ts sh u
  | o :: l, ts, sh, u, K => guardS ops ts o.guard
    (fun ts => if isRec o.op = true then (match u with
        | .pan p false => bindS nt o.dst p ts (fun ts' => opsS P G nt ops l ts' sh (.pan p true) K)
        | u => bindS nt o.dst .nili ts (fun ts' => opsS P G nt ops l ts' sh u K))
      else opP P G ts sh o.op (fun v sh' => bindS nt o.dst v ts (fun ts' => opsS P G nt ops l ts' sh' u K)) (fun _ _ => False))
    (fun ts => bindS nt o.dst (.tuple []) ts (fun ts' => opsS P G nt ops l ts' sh u K))

theorem recoverD_of {ρ : Inj} {u u'} (h : URel ρ u u') (c₀ : Frame) (cs : List Frame) :
    (∃ p p', u = .pan p false ∧ VRel ρ p p' ∧ recoverD ({ c₀ with mode := u' } :: cs) = some (p', { c₀ with mode := .panicking [{ v := p', recovered := true }] } :: cs)) ∨
    ((∀ p, u ≠ .pan p false) ∧ recoverD ({ c₀ with mode := u' } :: cs) = none) := by
  cases h with
  | ret => exact .inr ⟨by simp, rfl⟩
  | @pan p p' r a =>
    cases r with
    | true => exact .inr ⟨by simp, rfl⟩
    | false => exact .inl ⟨p, p', rfl, a, rfl⟩

theorem exec_rec {o : Oper} (h : isRec o.op = true) (a : Act) (P : Program) (w : World) : (execOp a.eval o).run P w = .ok .recover w := by
  unfold isRec at h
  split at h
  · rename_i c hop
    split at h
    · rename_i hcal
      simp [execOp, hop, resolve, hcal, invoke, builtin]
    · cases h
  · cases h

theorem opsS_sound {P : Program} {G : CTabP} (hG : GPOk P G) {nt : Nat} {ops : Array Oper} {Q : Exit → Act → List Frame → World → Prop} {c₀ : Frame} {cs : List Frame} {ρ0 : Inj} {sh0 : SH} {w0 : World} {K : Ts → SH → PM → Prop}
    (hq : ∀ ex a' cs' w', PostS nt (fun e ts sh u => match e with | .normal => K ts sh u | _ => False) ρ0 sh0 w0 c₀ cs ex a' cs' w' → Q ex a' cs' w') : ∀ (l : List Oper) (k : Nat), ops.toList.drop k = l → ∀ (ts : Ts) (sh : SH) (u : PM) (ρ : Inj) (w : World) (a : Act) (u' : FrameMode),
    opsS P G nt ops l ts sh u K → Rep ρ sh w.heap → TRel ρ ts a.tmps → a.tmps.size = nt → a.defers = [] → URel ρ u u' → Step ρ0 sh0 w0 ρ sh w →
    wpOpsS P ops Q (List.range' k l.length) a ({ c₀ with mode := u' } :: cs) w
  | [], k, hk, ts, sh, u, ρ, w, a, u', h, h1, h2, h3, h4, h5, h6 => hq _ _ _ _ ⟨.normal, ts, sh, ρ, u, u', rfl, h, h2, h3, h4, h5, rfl, h1, h6⟩
  | o :: l, k, hk, ts, sh, u, ρ, w, a, u', h, h1, h2, h3, h4, h5, h6 => by
    have ho : ops[k]? = some o := by
      have : (ops.toList.drop k)[0]? = some o := by rw [hk]; rfl
      simpa using this
    have hk' : ops.toList.drop (k + 1) = l := by
      have : (ops.toList.drop k).drop 1 = l := by rw [hk]; rfl
      simpa [List.drop_drop] using this
    simp only [opsS] at h
    simp only [List.length_cons, List.range'_succ, wpOpsS, ho]
    obtain ⟨ts1, ht1, ⟨hw, h⟩ | ⟨hw, h⟩⟩ := guardS_spec h h2 o rfl
    · rw [if_pos hw]
      have putd : ∀ v, (a.put o.dst v).defers = [] := fun v => by unfold Act.put; cases o.dst <;> exact h4
      split at h
      · rename_i hrec
        rw [exec_rec hrec]
        simp only
        rcases recoverD_of h5 c₀ cs with ⟨p, p', rfl, hv, hr⟩ | ⟨hn, hr⟩
        · rw [hr]
          simp only at h ⊢
          obtain ⟨ts', k1, k2, k3, k4⟩ := bindS_spec (a := a) h ht1 hv h3
          exact opsS_sound hG hq l (k + 1) hk' ts' sh _ ρ w _ _ k1 h1 k2 k3 (putd _) (.pan hv) h6
        · rw [hr]
          simp only
          have h' : bindS nt o.dst .nili ts1 (fun ts' => opsS P G nt ops l ts' sh u K) := by
            split at h
            · exact absurd rfl (hn _)
            · exact h
          obtain ⟨ts', k1, k2, k3, k4⟩ := bindS_spec (a := a) h' ht1 (VRel.nili (ρ := ρ)) h3
          exact opsS_sound hG hq l (k + 1) hk' ts' sh _ ρ w _ _ k1 h1 k2 k3 (putd _) h5 h6
      · have hwp : o.wp P a w (fun a' w' => wpOpsS P ops Q (List.range' (k + 1) l.length) a' ({ c₀ with mode := u' } :: cs) w') (fun e a' w' => Q e a' ({ c₀ with mode := u' } :: cs) w') := by
          refine opP_sound hG h h1 ht1 ?_ (fun _ _ _ _ _ hf => hf.elim)
          intro v v' sh' ρ' w' hkk hv hρ' hst
          obtain ⟨ts', k1, k2, k3, k4⟩ := bindS_spec hkk (ht1.mono hst.le) hv h3
          exact opsS_sound hG hq l (k + 1) hk' ts' sh' u ρ' w' _ _ k1 hρ' k2 k3 (putd _) (h5.mono hst.le) (h6.trans hst)
        unfold Oper.wp at hwp
        generalize (execOp a.eval o).run P w = r at hwp ⊢
        split
        · exact hwp.elim
        · exact hwp
    · rw [if_neg (by simp [hw])]
      obtain ⟨ts', k1, k2, k3, k4⟩ := bindS_spec (a := a) (v' := undef) h ht1 (.tuple rfl (by simp)) h3
      exact opsS_sound hG hq l (k + 1) hk' ts' sh u ρ w _ _ k1 h1 k2 k3 (k4.trans h4) h5 h6

def hasRec : Code → Bool
  | .region _ ops _ => ops.toList.any fun o => isRec o.op
  | .seq a b => hasRec a || hasRec b
  | .block _ b => hasRec b
  | .loop b => hasRec b
  | .cond _ a b => hasRec a || hasRec b
  | _ => false

def codeS (P : Program) (G : CTabP) (R : RTab) (nt : Nat) : Nat → Code → Ts → SH → PM → SK → Prop
  | 0, _, _, _, _, _ => False
  | n + 1, c, ts, sh, u, K => if hasRec c = true then (match c with
    | .region _ ops false => opsS P G nt ops ops.toList ts sh u (fun ts sh u => K .normal ts sh u)
    | .seq x y => codeS P G R nt n x ts sh u (fun e ts sh u => match e with
      | .normal => codeS P G R nt n y ts sh u K
      | e => K e ts sh u)
    | .cond c x y => ev1 ts c (fun v => match v with
      | .bool b => ifB b (codeS P G R nt n x ts sh u K) (codeS P G R nt n y ts sh u K)
      | _ => False)
    | _ => False) else codeX P G R (fun _ => none) nt 100000 c ts sh [] (fun e ts sh ds => match ds with
      | [] => K e ts sh u
      | _ => False) (fun _ _ _ _ => False)

theorem PostS.trans {nt K} {ρ0 ρ : Inj} {sh0 sh : SH} {w0 w : World} {c₀ cs} (hs : Step ρ0 sh0 w0 ρ sh w) {ex a' cs' w'} (h : PostS nt K ρ sh w c₀ cs ex a' cs' w') : PostS nt K ρ0 sh0 w0 c₀ cs ex a' cs' w' := by
  obtain ⟨e, ts', sh', ρ', u, u', h1, h2, h3, h4, h5, h6, h7, h8, h9⟩ := h
  exact ⟨e, ts', sh', ρ', u, u', h1, h2, h3, h4, h5, h6, h7, h8, hs.trans h9⟩

theorem wpS_mono {P : Program} {Q Q' : Exit → Act → List Frame → World → Prop} {a : Act} {cs : List Frame} {w : World} {c : Code} (h : c.wpS P Q a cs w) (hq : ∀ e a cs w, Q e a cs w → Q' e a cs w) : c.wpS P Q' a cs w :=
  fun b k h1 h2 => let ⟨e, a', cs', w', q, r⟩ := h b k h1 h2; ⟨e, a', cs', w', hq _ _ _ _ q, r⟩

theorem codeS_sound {P : Program} {G : CTabP} (hG : GPOk P G) {R : RTab} {nt : Nat} : ∀ (n : Nat) (c : Code), ROk P nt R (drawsOf c) → ∀ ts sh u K, codeS P G R nt n c ts sh u K → CodeS P nt c ts sh u K := by
  intro n
  induction n with
  | zero => intro c _ ts sh u K h; exact h.elim
  | succ n ih =>
    intro c hR ts sh u K h
    by_cases hd : hasRec c = true
    · unfold codeS at h
      rw [if_pos hd] at h
      cases c <;> (try exact h.elim)
      case region id ops draw =>
        cases draw with
        | true => exact h.elim
        | false =>
          intro ρ w a c₀ cs u' h1 h2 h3 h4 h5
          refine wpS_region ?_
          rw [List.range_eq_range']
          have hlen : ops.size = ops.toList.length := by simp
          rw [hlen]
          refine opsS_sound hG ?_ ops.toList 0 rfl ts sh u ρ w a u' h h1 h2 h3 h4 h5 (Step.refl _ _ _)
          rintro ex a' cs' w' ⟨e, ts', sh', ρ', u, u', rfl, k1, k⟩
          cases e with
          | normal => exact ⟨.normal, ts', sh', ρ', u, u', rfl, k1, k⟩
          | ret => exact k1.elim
          | exit id => exact k1.elim
      case seq x y =>
        have rx : ROk P nt R (drawsOf x) := hR.sub fun b hb => List.mem_append_left _ hb
        have ry : ROk P nt R (drawsOf y) := hR.sub fun b hb => List.mem_append_right _ hb
        intro ρ w a c₀ cs u' h1 h2 h3 h4 h5
        refine wpS_seq (wpS_mono (ih x rx _ _ _ _ h ρ w a c₀ cs u' h1 h2 h3 h4 h5) ?_)
        rintro ex a1 cs1 w1 ⟨e, ts1, sh1, ρ1, u1, u1', rfl, k1, k2, k3, k4, k5, rfl, k7, k8⟩
        cases e with
        | normal =>
          refine wpS_mono (ih y ry _ _ _ _ k1 ρ1 w1 a1 c₀ cs u1' k7 k2 k3 k4 k5) ?_
          intro ex a2 cs2 w2 hp
          exact hp.trans k8
        | ret => exact ⟨.ret, ts1, sh1, ρ1, u1, u1', rfl, k1, k2, k3, k4, k5, rfl, k7, k8⟩
        | exit id => exact ⟨.exit id, ts1, sh1, ρ1, u1, u1', rfl, k1, k2, k3, k4, k5, rfl, k7, k8⟩
      case cond c x y =>
        have rx : ROk P nt R (drawsOf x) := hR.sub fun b hb => List.mem_append_left _ hb
        have ry : ROk P nt R (drawsOf y) := hR.sub fun b hb => List.mem_append_right _ hb
        intro ρ w a c₀ cs u' h1 h2 h3 h4 h5
        obtain ⟨v, k1, k2⟩ := ev1_spec h2 h
        split at k1
        · rename_i b
          have hc : a.eval c = .bool b := by generalize a.eval c = u at k2; cases k2; rfl
          rcases ifB_or k1 with ⟨rfl, k1⟩ | ⟨rfl, k1⟩
          · exact wpS_cond hc (ih x rx _ _ _ _ k1 ρ w a c₀ cs u' h1 h2 h3 h4 h5)
          · exact wpS_cond hc (ih y ry _ _ _ _ k1 ρ w a c₀ cs u' h1 h2 h3 h4 h5)
        · exact k1.elim
    · unfold codeS at h
      rw [if_neg hd] at h
      intro ρ w a c₀ cs u' h1 h2 h3 h4 h5
      refine wpS_of_wp (wp_mono (codeX_sound hG 100000 c hR (fun b _ spec hs => by cases hs) _ _ _ _ _ h w.heap.size ρ w a (Nat.le_refl _) h1 h2 h3 (h4 ▸ .nil)) ?_)
      rintro ex a' w' (⟨e, ts', sh', ds', ρ', rfl, k1, k2, k3, k4, k5, k6⟩ | ⟨p, p', ts', sh', ds', ρ', rfl, k1, _⟩)
      · cases ds' with
        | cons d ds => exact k1.elim
        | nil =>
          generalize hdf : a'.defers = df at k4
          cases k4
          exact ⟨e, ts', sh', ρ', u, u', rfl, k1, k2, k3, hdf, h5.mono k6.le, rfl, k5, k6⟩
      · exact k1.elim

/-- a deferred call -/
def DCP (P : Program) (f : FuncId) (args : List SV) (sh : SH) (u : PM) (K : PM → SH → Prop) : Prop :=
  enterable P f = true ∧ ∀ (ρ : Inj) (w : World) (args' : List Value) (u' : FrameMode), Rep ρ sh w.heap → VRels ρ args args' → URel ρ u u' →
    CallsD P f args'.toArray u' w (fun e u2' w' => ∃ v u2 sh' ρ', e = .returned v ∧ K u2 sh' ∧ URel ρ' u2 u2' ∧ Rep ρ' sh' w'.heap ∧ Step ρ sh w ρ' sh' w')

abbrev DTab := FuncId → List SV → SH → PM → (PM → SH → Prop) → Prop
def DOk (P : Program) (D : DTab) : Prop := ∀ f args sh u K, D f args sh u K → DCP P f args sh u K

def finS (P : Program) (res : List ResultVar) (K : PM → SH → Prop) : SK := fun e ts sh u => match e with
  | .exit _ => False
  | _ => resW P ts sh res (fun _ => K u sh)

theorem DCP.of_code {P : Program} {f : FuncId} {fn : Func} {c : Code} {G : CTabP} {R : RTab} {n : Nat} {args : List SV} {sh : SH} {u : PM} {K : PM → SH → Prop} (hG : GPOk P G) (hen : enterable P f = true) (hf : P.funcs[f]? = some fn) (hb : fn.body = some c)
    (hR : ROk P fn.ntmps R (drawsOf c)) (hlen : args.length ≤ fn.ntmps) (h : codeS P G R fn.ntmps n c (argTs 0 args) sh u (finS P fn.results.toList K)) : DCP P f args sh u K := by
  refine ⟨hen, ?_⟩
  intro ρ w args' u' hρ hargs hu
  have hal := hargs.length
  refine callsD_of_wpS hf hb ?_
  intro c₀ cs hc₀
  have hmode : c₀ = { c₀ with mode := u' } := by rw [← hc₀]
  have key := codeS_sound hG n c hR _ _ _ _ h ρ w { tmps := args'.toArray ++ Array.replicate (fn.ntmps - args'.toArray.size) undef, defers := [] } c₀ cs u' hρ (args_rel hargs) (by simp; omega) rfl hu
  rw [← hmode] at key
  refine wpS_mono key ?_
  rintro ex a' cs' w' ⟨e, ts', sh', ρ', u2, u2', rfl, k1, k2, k3, k4, k5, rfl, k7, k8⟩
  have fin : resW P ts' sh' fn.results.toList (fun _ => K u2 sh') → a'.defers = [] ∧ ∃ u', ({ c₀ with mode := u2' } : Frame) :: cs = { c₀ with mode := u' } :: cs ∧ ∃ v, (results fn a'.tmps).run P w' = .ok v w' ∧
      ∃ v1 u2 sh' ρ', Ending.returned v = .returned v1 ∧ K u2 sh' ∧ URel ρ' u2 u' ∧ Rep ρ' sh' w'.heap ∧ Step ρ sh w ρ' sh' w' := by
    intro hr
    obtain ⟨vs, vs', g1, g2, g3⟩ := resW_run (P := P) k7 k2 _ _ hr
    obtain ⟨v', g4, g5⟩ := results_run g2 g3
    exact ⟨k4, u2', rfl, v', g4, v', u2, sh', ρ', rfl, g1, k5, k7, k8⟩
  cases e with
  | normal => exact fin k1
  | ret => exact fin k1
  | exit id => exact k1.elim

/-- the deferred calls, and then the results or the panic -/
def runX (P : Program) (D : DTab) (ts : Ts) (res : List ResultVar) (K KP : SV → SH → Prop) : PM → Dx → SH → Prop
  | u, [], sh => match u with
    | .ret => resW P ts sh res (fun vs => K (resV vs) sh)
    | .pan p false => KP p sh
    | .pan _ true => False
  | u, .col :: ds, sh => runX P D ts res K KP u ds sh
  | u, .fn f args :: ds, sh => D f args sh u (fun u' sh' => runX P D ts res K KP (settleS u') ds sh')

theorem runX_sound {P : Program} {D : DTab} (hD : DOk P D) {B : Nat} {fn : Func} {ts : Ts} {tmps : Array Value} {K KP : SV → SH → Prop} {ρ0 : Inj} {sh0 : SH} {w0 : World} (hB : B = w0.heap.size) : ∀ (ds : Dx) (ds' : List Deferred) (u : PM) (u' : FrameMode) (sh : SH) (ρ : Inj) (w : World),
    runX P D ts fn.results.toList K KP u ds sh → XRel B ρ w ds ds' → URel ρ u u' → Rep ρ sh w.heap → TRel ρ ts tmps → Step ρ0 sh0 w0 ρ sh w →
    LeavesX P fn tmps (PostC ρ0 sh0 w0 K KP) ds' u' w
  | [], _, u, u', sh, ρ, w, h, .nil, hu, h1, h2, h3 => by
    cases hu with
    | ret =>
      simp only [runX] at h
      obtain ⟨vs, vs', g1, g2, g3⟩ := resW_run (P := P) h1 h2 _ _ h
      obtain ⟨v', g4, g5⟩ := results_run g2 g3
      exact ⟨v', g4, .inl ⟨_, v', sh, ρ, rfl, g1, g5, h1, h3⟩⟩
    | @pan p p' r hv =>
      cases r with
      | true => simp only [runX] at h
      | false =>
        simp only [runX] at h
        exact .inr ⟨p, p', sh, ρ, rfl, h, hv, h1, h3⟩
  | .col :: ds, _, u, u', sh, ρ, w, h, .col (b := b) (ds' := ds') hb hk hn hr, hu, h1, h2, h3 => by
    simp only [runX] at h
    refine ⟨hu.run, .inl ⟨b, _, rfl, run_takeDeferred hk, ?_⟩⟩
    exact runX_sound hD hB ds ds' u u' sh ρ _ h (hr.putObj hn _) hu (h1.putObj hk (by intros; simp) (by simp) _) h2 (h3.putObj (by omega) _)
  | .fn f args :: ds, _, u, u', sh, ρ, w, h, .fn (cap := cap) (dargs := dargs) (ds' := ds') hv hr, hu, h1, h2, h3 => by
    simp only [runX] at h
    obtain ⟨hen, hc⟩ := hD _ _ _ _ _ h
    have hc' := hc ρ w _ u' h1 hv hu
    simp only [Array.toArray_toList] at hc'
    refine ⟨hu.run, .inr ⟨.func f, cap, f, dargs ++ cap, rfl, by simp only [invoke]; exact run_callFunc w hen, ?_⟩⟩
    refine hc'.mono ?_
    rintro e u2' w' ⟨v, u2, sh', ρ', rfl, k1, k2, k3, k4⟩
    exact runX_sound hD hB ds ds' _ _ sh' ρ' w' k1 (hr.step h1 k4) k2.settle k3 (h2.mono k4.le) (h3.trans k4)

def finX (P : Program) (D : DTab) (res : List ResultVar) (K KP : SV → SH → Prop) : XK := fun e ts sh ds => match e with
  | .exit _ => False
  | _ => runX P D ts res K KP .ret ds sh

def finP (P : Program) (D : DTab) (res : List ResultVar) (K KP : SV → SH → Prop) : PK := fun p ts sh ds => runX P D ts res K KP (.pan p false) ds sh

theorem CallP.of_codeX {P : Program} {f : FuncId} {fn : Func} {c : Code} {G : CTabP} {D : DTab} {R : RTab} {L : LTab} {n : Nat} {args : List SV} {sh : SH} {K KP : SV → SH → Prop} (hG : GPOk P G) (hD : DOk P D) (hf : P.funcs[f]? = some fn) (hb : fn.body = some c)
    (hR : ROk P fn.ntmps R (drawsOf c)) (hL : LOk P fn.ntmps L (loopsOf c)) (hlen : args.length ≤ fn.ntmps) (h : codeX P G R L fn.ntmps n c (argTs 0 args) sh [] (finX P D fn.results.toList K KP) (finP P D fn.results.toList K KP)) : CallP P f args sh K KP := by
  intro ρ w args' hρ hargs
  have hal := hargs.length
  refine calls_of_wp_leaves hf hb ?_
  refine wp_mono (codeX_sound hG n c hR hL _ _ _ _ _ h w.heap.size ρ w _ (Nat.le_refl _) hρ (args_rel hargs) (by simp; omega) .nil) ?_
  rintro ex a' w' (⟨e, ts', sh', ds', ρ', rfl, k1, k2, k3, k4, k5, k6⟩ | ⟨p, p', ts', sh', ds', ρ', rfl, k1, k2, k3, k4, k5, k6, k7⟩)
  · cases e with
    | normal => exact runX_sound hD rfl _ _ _ _ _ _ _ k1 k4 .ret k5 k2 k6
    | ret => exact runX_sound hD rfl _ _ _ _ _ _ _ k1 k4 .ret k5 k2 k6
    | exit id => exact k1.elim
  · exact runX_sound hD rfl _ _ _ _ _ _ _ k1 k5 (.pan k2) k6 k3 k7

/-! ## calls that are walked into -/
abbrev TPTab := List (Nat × PTP)
def findTP : TPTab → Nat → Option PTP
  | [], _ => none
  | (k, o) :: l, id => if k = id then some o else findTP l id
def TPOk (P : Program) (T : TPTab) : Prop := ∀ f pt, findTP T f = some pt → ∀ args sh K KP, pt args sh K KP → CTP P f args sh K KP
theorem TPOk.nil (P : Program) : TPOk P [] := fun _ _ h => by simp [findTP] at h
theorem TPOk.cons {P : Program} {f : FuncId} {pt : PTP} {T : TPTab} (h : ∀ args sh K KP, pt args sh K KP → CTP P f args sh K KP) (k : TPOk P T) : TPOk P ((f, pt) :: T) := by
  intro g q hq args sh K KP hk
  simp only [findTP] at hq
  split at hq
  · rename_i e; subst e; cases hq; exact h _ _ _ _ hk
  · exact k g q hq _ _ _ _ hk

def deferD (P : Program) (A : RAll) (G : CTabP) : DTab := fun f args sh u K => match P.funcs[f]? with
  | some fn => match fn.body with
    | some c => if args.length ≤ fn.ntmps then codeS P G (findA A f) fn.ntmps 100000 c (argTs 0 args) sh u (finS P fn.results.toList K) else False
    | none => False
  | none => False

def inX (P : Program) (T : TTab) (TP : TPTab) (A : RAll) : Nat → CTabP
  | 0, _, _, _, _, _ => False
  | n + 1, f, args, sh, K, KP => match findT T f with
    | some pt => pt args sh K
    | none => match findTP TP f with
      | some pt => pt args sh K KP
      | none => match P.funcs[f]? with
        | some fn => match fn.body with
          | some c => if args.length ≤ fn.ntmps then codeX P (inX P T TP A n) (findA A f) (fun _ => none) fn.ntmps 100000 c (argTs 0 args) sh [] (finX P (deferD P A (inX P T TP A n)) fn.results.toList K KP) (finP P (deferD P A (inX P T TP A n)) fn.results.toList K KP) else False
          | none => False
        | none => False

theorem deferD_ok {P : Program} {A : RAll} (hm : P.follows .mixedOrders = true) (hA : allIn (numbered 0 P.funcs.toList) A = true) {G : CTabP} (hG : GPOk P G) : DOk P (deferD P A G) := by
  intro f args sh u K h
  unfold deferD at h
  split at h
  · rename_i fn hf
    split at h
    · rename_i c hb
      split at h
      · rename_i hlen
        obtain ⟨h1, h2⟩ := allIn_spec hA hf hb
        exact DCP.of_code hG h1 hf hb (ROk.of hm h2) hlen h
      · exact h.elim
    · exact h.elim
  · exact h.elim

theorem inX_ok {P : Program} {T : TTab} {TP : TPTab} {A : RAll} (hm : P.follows .mixedOrders = true) (hA : allIn (numbered 0 P.funcs.toList) A = true) (hT : TOk P T) (hTP : TPOk P TP) : ∀ n, GPOk P (inX P T TP A n)
  | 0 => fun _ _ _ _ _ h => h.elim
  | n + 1 => by
    have ih := inX_ok hm hA hT hTP n
    intro f args sh K KP h
    simp only [inX] at h
    split at h
    · rename_i pt hpt; exact (hT f pt hpt args sh K h).ctp
    · split at h
      · rename_i pt hpt; exact hTP f pt hpt args sh K KP h
      · split at h
        · rename_i fn hf
          split at h
          · rename_i c hb
            split at h
            · rename_i hlen
              obtain ⟨h1, h2⟩ := allIn_spec hA hf hb
              exact (CallP.of_codeX ih (deferD_ok hm hA ih) hf hb (ROk.of hm h2) (fun b _ spec hs => by cases hs) hlen h).ctp h1
            · exact h.elim
          · exact h.elim
        · exact h.elim
end Go.Rv
