/- A part of the evaluator of the model's code, or of its tables: what is proved is said in the claim's last text. -/
import Derived.Test.YtjhdfldadcbkkaaGreatRvF
namespace Go.Rv
set_option linter.unusedVariables false

/-! ## code -/

inductive Ex where
  | normal
  | ret
  | exit (id : Nat)

def Ex.to : Ex → Exit
  | .normal => .normal
  | .ret => .ret
  | .exit id => .exit id

abbrev CK := Ex → Ts → SH → Prop

def CodeT (P : Program) (nt : Nat) (c : Code) (ts : Ts) (sh : SH) (K : CK) : Prop :=
  ∀ (ρ : Inj) (w : World) (a : Act), Rep ρ sh w.heap → TRel ρ ts a.tmps → a.tmps.size = nt →
    c.wp P (fun ex a' w' => ∃ e ts' sh' ρ', ex = e.to ∧ K e ts' sh' ∧ TRel ρ' ts' a'.tmps ∧ a'.tmps.size = nt ∧ a'.defers = a.defers ∧ Rep ρ' sh' w'.heap ∧ Step ρ sh w ρ' sh' w') a w

theorem CodeT.mono {P nt c ts sh} {K K' : CK} (h : CodeT P nt c ts sh K) (hk : ∀ e ts sh, K e ts sh → K' e ts sh) : CodeT P nt c ts sh K' :=
  fun ρ w a h1 h2 h3 => wp_mono (h ρ w a h1 h2 h3) fun _ _ _ ⟨e, ts', sh', ρ', a1, a2, a3⟩ => ⟨e, ts', sh', ρ', a1, hk _ _ _ a2, a3⟩

/-- what is known of a state may be forgotten -/
theorem CodeT.seq {P nt x y ts sh} {K : CK} (h : CodeT P nt x ts sh (fun e ts sh => match e with | .normal => CodeT P nt y ts sh K | e => K e ts sh)) : CodeT P nt (.seq x y) ts sh K := by
  intro ρ w a h1 h2 h3
  refine wp_seq (wp_mono (h ρ w a h1 h2 h3) ?_)
  rintro ex a' w' ⟨e, ts', sh', ρ', rfl, k1, k2, k3, k4, k5, k6⟩
  cases e with
  | normal =>
    refine wp_mono (k1 ρ' w' a' k5 k2 k3) ?_
    rintro ex a2 w2 ⟨e2, ts2, sh2, ρ2, rfl, g1, g2, g3, g4, g5, g6⟩
    exact ⟨e2, ts2, sh2, ρ2, rfl, g1, g2, g3, g4.trans k4, g5, k6.trans g6⟩
  | ret => exact ⟨.ret, ts', sh', ρ', rfl, k1, k2, k3, k4, k5, k6⟩
  | exit id => exact ⟨.exit id, ts', sh', ρ', rfl, k1, k2, k3, k4, k5, k6⟩

def firstR : Code → Nat
  | .region id _ _ => id
  | .seq a _ => firstR a
  | .block _ b => firstR b
  | .loop b => firstR b
  | .cond _ a _ => firstR a
  | _ => 0

abbrev LTab := Nat → Option (Ts → SH → CK → Prop)

/-- in which order a region of any order is looked at -/
inductive ROrd where
  | one (l : List (Nat × List Nat))
  | two (x y : Nat) (l m : List (Nat × List Nat))
  | al (A : List (Nat × List Nat)) (al : List Nat) (B : List (Nat × List Nat))

abbrev RTab := List (Nat × ROrd)

def findR : RTab → Nat → Option ROrd
  | [], _ => none
  | (k, o) :: l, id => if k = id then some o else findR l id

def both (X Y : Prop) : Prop := X ∧ Y

def codeW (P : Program) (G : CTab) (R : RTab) (L : LTab) (nt : Nat) : Nat → Code → Ts → SH → CK → Prop
  | 0, _, _, _, _ => False
  | n + 1, c, ts, sh, K => match c with
    | .skip => K .normal ts sh
    | .region _ ops false => opsW P G nt ops ops.toList ts sh (fun ts sh => K .normal ts sh)
    | .region id ops true => match findR R id with
      | some (.one l) => ordW P G nt ops l [] ts sh (fun ts sh => K .normal ts sh)
      | some (.two _ _ l m) => both (ordW P G nt ops l [] ts sh (fun ts sh => K .normal ts sh)) (ordW P G nt ops m [] ts sh (fun ts sh => K .normal ts sh))
      | some (.al A al B) => ordA P G nt ops A al B ts sh (fun ts sh => K .normal ts sh)
      | none => False
    | .seq x y => codeW P G R L nt n x ts sh (fun e ts sh => match e with
      | .normal => codeW P G R L nt n y ts sh K
      | e => K e ts sh)
    | .cond c x y => ev1 ts c (fun v => match v with
      | .bool b => ifB b (codeW P G R L nt n x ts sh K) (codeW P G R L nt n y ts sh K)
      | _ => False)
    | .block id b => codeW P G R L nt n b ts sh (fun e ts sh => match e with
      | .exit id' => if id' = id then K .normal ts sh else K (.exit id') ts sh
      | e => K e ts sh)
    | .loop b => match L (firstR b) with
      | some spec => spec ts sh K
      | none => codeW P G R L nt n b ts sh (fun e ts sh => match e with
        | .normal => codeW P G R L nt n (.loop b) ts sh K
        | e => K e ts sh)
    | .exit id => K (.exit id) ts sh
    | .ret => K .ret ts sh
    | _ => False

/-- the loops of a code -/
def loopsOf : Code → List Code
  | .seq a b => loopsOf a ++ loopsOf b
  | .block _ b => loopsOf b
  | .loop b => b :: loopsOf b
  | .cond _ a b => loopsOf a ++ loopsOf b
  | _ => []

def LOk (P : Program) (nt : Nat) (L : LTab) (ls : List Code) : Prop :=
  ∀ b ∈ ls, ∀ spec, L (firstR b) = some spec → ∀ ts sh K, spec ts sh K → CodeT P nt (.loop b) ts sh K

/-- the regions of a code that run in any order -/
def drawsOf : Code → List (Nat × Array Oper)
  | .region id ops true => [(id, ops)]
  | .seq a b => drawsOf a ++ drawsOf b
  | .block _ b => drawsOf b
  | .loop b => drawsOf b
  | .cond _ a b => drawsOf a ++ drawsOf b
  | _ => []

def okO (ops : Array Oper) : ROrd → Bool
  | .one l => okR ops l
  | .two x y l m => okR2 ops x y l && okR2 ops y x m
  | .al A al B => okRA ops A al B

def okDst (nt : Nat) (ops : Array Oper) : Bool := ops.toList.all fun o => match o.dst with
  | some d => decide (d < nt)
  | none => true

def rOk (nt : Nat) (R : RTab) : List (Nat × Array Oper) → Bool
  | [] => true
  | (id, ops) :: l => (match findR R id with
    | some o => okO ops o && okDst nt ops
    | none => true) && rOk nt R l

/-- what is looked at once for all the regions of a code -/
def ROk (P : Program) (nt : Nat) (R : RTab) (ls : List (Nat × Array Oper)) : Prop :=
  (ls = [] ∨ P.follows .mixedOrders = true) ∧ ∀ x ∈ ls, ∀ o, findR R x.1 = some o → okO x.2 o = true ∧ okDst nt x.2 = true

theorem ROk.of {P : Program} {nt : Nat} {R : RTab} {ls : List (Nat × Array Oper)} (h : P.follows .mixedOrders = true) (k : rOk nt R ls = true) : ROk P nt R ls := by
  refine ⟨.inr h, ?_⟩
  induction ls with
  | nil => intro x hx; cases hx
  | cons y l ih =>
    simp only [rOk, Bool.and_eq_true] at k
    intro x hx o ho
    rcases List.mem_cons.1 hx with rfl | hx
    · have := k.1
      rw [ho] at this
      simpa using this
    · exact ih k.2 x hx o ho

theorem ROk.nil (P : Program) (nt : Nat) (R : RTab) : ROk P nt R [] := ⟨.inl rfl, by simp⟩

theorem ROk.sub {P : Program} {nt : Nat} {R : RTab} {ls ms : List (Nat × Array Oper)} (h : ROk P nt R ls) (hs : ∀ x ∈ ms, x ∈ ls) : ROk P nt R ms := by
  refine ⟨?_, fun x hx => h.2 x (hs x hx)⟩
  rcases h.1 with h | h
  · left
    subst h
    cases ms with
    | nil => rfl
    | cons x l => exact absurd (hs x (List.mem_cons_self ..)) (by simp)
  · exact .inr h

theorem okDst_spec {nt : Nat} {ops : Array Oper} (h : okDst nt ops = true) : ∀ o ∈ ops.toList, ∀ d, o.dst = some d → d < nt := by
  unfold okDst at h
  rw [List.all_eq_true] at h
  intro o ho d hd
  have := h o ho
  rw [hd] at this
  simpa using this

/-- a loop's rounds, bounded -/
def Rounds (P : Program) (c : Code) (Q : Exit → Act → World → Prop) : Nat → Act → World → Prop
  | 0, _, _ => False
  | n + 1, a, w => c.wp P (Exit.then (Rounds P c Q n) Q) a w

theorem wp_of_rounds {P : Program} {c : Code} {Q : Exit → Act → World → Prop} {n : Nat} {a : Act} {w : World} (h : Rounds P c Q n a w) : (Code.loop c).wp P Q a w := by
  intro b k cs
  have key : ∀ n a w, Rounds P c Q n a w → ∃ e a' w', Q e a' w' ∧ Arrives P (lone (b.at a (.code c :: .inLoop c :: k)) cs w) b k cs e a' w' := by
    intro n
    induction n with
    | zero => intro a w h; exact h.elim
    | succ n ih =>
      intro a w h
      obtain ⟨e, a₁, w₁, hq, harr⟩ := h b (.inLoop c :: k) cs
      cases e with
      | normal =>
        obtain ⟨e₂, a₂, w₂, hq₂, harr₂⟩ := ih a₁ w₁ hq
        exact ⟨e₂, a₂, w₂, hq₂, .of_steps (Steps.trans harr (.one step_inLoop)) harr₂⟩
      | exit id => exact ⟨_, a₁, w₁, hq, .pass (x := .inLoop c) rfl (fun _ _ => .inl (by simp)) harr⟩
      | goto l => exact ⟨_, a₁, w₁, hq, .pass (x := .inLoop c) rfl (fun _ _ => .inl (by simp)) harr⟩
      | ret => exact ⟨_, a₁, w₁, hq, .pass (x := .inLoop c) rfl (fun _ _ => .inl (by simp)) harr⟩
      | panic ch => exact ⟨_, a₁, w₁, hq, .pass (x := .inLoop c) rfl (fun _ _ => .inl (by simp)) harr⟩
      | outgrown => exact ⟨_, a₁, w₁, hq, .pass (x := .inLoop c) rfl (fun _ _ => .inl (by simp)) harr⟩
  obtain ⟨e, a', w', hq, harr⟩ := key n a w h
  exact ⟨e, a', w', hq, .of_steps (.one step_loop) harr⟩

/-- what a code comes to, seen from an earlier state -/
def PostT (P : Program) (nt : Nat) (K : CK) (ρ : Inj) (sh : SH) (w : World) (df : List Deferred) : Exit → Act → World → Prop :=
  fun ex a' w' => ∃ e ts' sh' ρ', ex = e.to ∧ K e ts' sh' ∧ TRel ρ' ts' a'.tmps ∧ a'.tmps.size = nt ∧ a'.defers = df ∧ Rep ρ' sh' w'.heap ∧ Step ρ sh w ρ' sh' w'

def Sound (P : Program) (G : CTab) (R : RTab) (L : LTab) (nt n : Nat) (c : Code) : Prop := ∀ ts sh K, codeW P G R L nt n c ts sh K → CodeT P nt c ts sh K

theorem rounds_of_codeW {P : Program} {G : CTab} {R : RTab} {L : LTab} {nt : Nat} {b : Code} (hL : L (firstR b) = none) {K : CK} {ρ0 : Inj} {sh0 : SH} {w0 : World} {df : List Deferred} : ∀ (n : Nat), (∀ m, m < n → Sound P G R L nt m b) → ∀ (ts : Ts) (sh : SH) (ρ : Inj) (w : World) (a : Act),
    codeW P G R L nt n (.loop b) ts sh K → Rep ρ sh w.heap → TRel ρ ts a.tmps → a.tmps.size = nt → a.defers = df → Step ρ0 sh0 w0 ρ sh w → Rounds P b (PostT P nt K ρ0 sh0 w0 df) n a w
  | 0, _, ts, sh, ρ, w, a, h, _, _, _, _, _ => h.elim
  | n + 1, hs, ts, sh, ρ, w, a, h, h1, h2, h3, h4, h5 => by
    simp only [codeW, hL] at h
    refine wp_mono (hs n (Nat.lt_succ_self n) _ _ _ h ρ w a h1 h2 h3) ?_
    rintro ex a' w' ⟨e, ts', sh', ρ', rfl, k1, k2, k3, k4, k5, k6⟩
    cases e with
    | normal => exact rounds_of_codeW hL n (fun m hm => hs m (Nat.lt_succ_of_lt hm)) ts' sh' ρ' w' a' k1 k5 k2 k3 (k4.trans h4) (h5.trans k6)
    | ret => exact ⟨.ret, ts', sh', ρ', rfl, k1, k2, k3, k4.trans h4, k5, h5.trans k6⟩
    | exit id => exact ⟨.exit id, ts', sh', ρ', rfl, k1, k2, k3, k4.trans h4, k5, h5.trans k6⟩

theorem codeW_sound {P : Program} {G : CTab} (hG : GOk P G) {R : RTab} {L : LTab} {nt : Nat} : ∀ (n : Nat) (c : Code), ROk P nt R (drawsOf c) → LOk P nt L (loopsOf c) → Sound P G R L nt n c := by
  intro n
  induction n using Nat.strongRecOn with
  | _ n ih =>
    intro c hR hL ts sh K h
    cases n with
    | zero => exact h.elim
    | succ n =>
      have ih1 : ∀ c, ROk P nt R (drawsOf c) → LOk P nt L (loopsOf c) → Sound P G R L nt n c := ih n (Nat.lt_succ_self n)
      cases c <;> simp only [codeW] at h <;> (try exact h.elim)
      case skip => exact fun ρ w a h1 h2 h3 => wp_skip ⟨.normal, ts, sh, ρ, rfl, h, h2, h3, rfl, h1, Step.refl _ _ _⟩
      case exit id => exact fun ρ w a h1 h2 h3 => wp_exit ⟨.exit id, ts, sh, ρ, rfl, h, h2, h3, rfl, h1, Step.refl _ _ _⟩
      case ret => exact fun ρ w a h1 h2 h3 => wp_ret ⟨.ret, ts, sh, ρ, rfl, h, h2, h3, rfl, h1, Step.refl _ _ _⟩
      case region id ops draw =>
        cases draw with
        | true =>
          simp only at h
          have fin : ∀ {ρ : Inj} {w : World} {a : Act}, ∀ (ts' : Ts) (sh' : SH) (ρ' : Inj) (w' : World) (a' : Act), K .normal ts' sh' → TRel ρ' ts' a'.tmps → a'.tmps.size = nt → a'.defers = a.defers → Rep ρ' sh' w'.heap → Step ρ sh w ρ' sh' w' → (PostT P nt K ρ sh w a.defers) .normal a' w' :=
            fun {ρ w a} ts' sh' ρ' w' a' k1 k2 k3 k4 k5 k6 => ⟨.normal, ts', sh', ρ', rfl, k1, k2, k3, k4, k5, k6⟩
          have hm : P.follows .mixedOrders = true := by
            rcases hR.1 with hh | hh
            · simp [drawsOf] at hh
            · exact hh
          split at h
          · rename_i l hf
            obtain ⟨g1, g2⟩ := hR.2 (id, ops) (by simp [drawsOf]) _ hf
            intro ρ w a h1 h2 h3
            exact ordW_sound hG hm g1 (okDst_spec g2) h h1 h2 h3 fin
          · rename_i x y l m hf
            obtain ⟨g1, g2⟩ := hR.2 (id, ops) (by simp [drawsOf]) _ hf
            simp only [okO, Bool.and_eq_true] at g1
            intro ρ w a h1 h2 h3
            exact ord2_sound hG hm g1.1 g1.2 (okDst_spec g2) h.1 h.2 h1 h2 h3 fin
          · rename_i A al B hf
            obtain ⟨g1, g2⟩ := hR.2 (id, ops) (by simp [drawsOf]) _ hf
            intro ρ w a h1 h2 h3
            exact ordA_sound hG hm g1 (okDst_spec g2) h h1 h2 h3 fin
          · exact h.elim
        | false =>
          intro ρ w a h1 h2 h3
          refine wp_region_list (opsW_sound hG _ _ _ _ ρ w a h h1 h2 h3 ?_)
          intro ts' sh' ρ' w' a' k1 k2 k3 k4 k5 k6
          exact ⟨.normal, ts', sh', ρ', rfl, k1, k2, k3, k4, k5, k6⟩
      case seq x y =>
        have hx : LOk P nt L (loopsOf x) := fun b hb => hL b (List.mem_append_left _ hb)
        have hy : LOk P nt L (loopsOf y) := fun b hb => hL b (List.mem_append_right _ hb)
        have rx : ROk P nt R (drawsOf x) := hR.sub fun b hb => List.mem_append_left _ hb
        have ry : ROk P nt R (drawsOf y) := hR.sub fun b hb => List.mem_append_right _ hb
        refine CodeT.seq ((ih1 x rx hx _ _ _ h).mono ?_)
        intro e ts' sh' hk
        cases e with
        | normal => exact ih1 y ry hy _ _ _ hk
        | ret => exact hk
        | exit id => exact hk
      case cond c x y =>
        have hx : LOk P nt L (loopsOf x) := fun b hb => hL b (List.mem_append_left _ hb)
        have hy : LOk P nt L (loopsOf y) := fun b hb => hL b (List.mem_append_right _ hb)
        have rx : ROk P nt R (drawsOf x) := hR.sub fun b hb => List.mem_append_left _ hb
        have ry : ROk P nt R (drawsOf y) := hR.sub fun b hb => List.mem_append_right _ hb
        intro ρ w a h1 h2 h3
        obtain ⟨v, k1, k2⟩ := ev1_spec h2 h
        split at k1
        · rename_i b
          have hc : a.eval c = .bool b := by generalize a.eval c = u at k2; cases k2; rfl
          rcases ifB_or k1 with ⟨rfl, k1⟩ | ⟨rfl, k1⟩
          · exact wp_cond_true hc (ih1 x rx hx _ _ _ k1 ρ w a h1 h2 h3)
          · exact wp_cond_false hc (ih1 y ry hy _ _ _ k1 ρ w a h1 h2 h3)
        · exact k1.elim
      case block id b =>
        intro ρ w a h1 h2 h3
        refine wp_block (wp_mono (ih1 b hR hL _ _ _ h ρ w a h1 h2 h3) ?_)
        rintro ex a' w' ⟨e, ts', sh', ρ', rfl, k1, k2, k3, k4, k5, k6⟩
        cases e with
        | normal => exact ⟨.normal, ts', sh', ρ', rfl, k1, k2, k3, k4, k5, k6⟩
        | ret => exact ⟨.ret, ts', sh', ρ', rfl, k1, k2, k3, k4, k5, k6⟩
        | exit id' =>
          simp only [Ex.to, Exit.inBlock] at k1 ⊢
          split
          · rename_i hid
            rw [if_pos hid] at k1
            exact ⟨.normal, ts', sh', ρ', rfl, k1, k2, k3, k4, k5, k6⟩
          · rename_i hid
            rw [if_neg hid] at k1
            exact ⟨.exit id', ts', sh', ρ', rfl, k1, k2, k3, k4, k5, k6⟩
      case loop b =>
        split at h
        · rename_i spec hsp
          exact hL b (List.mem_cons_self ..) spec hsp ts sh K h
        · rename_i hnone
          intro ρ w a h1 h2 h3
          have hb : LOk P nt L (loopsOf b) := fun c hc => hL c (List.mem_cons_of_mem _ hc)
          have hr := rounds_of_codeW (P := P) (G := G) (K := K) hnone (df := a.defers) (n + 1) (fun m hm => ih m hm b hR hb) ts sh ρ w a (by simp only [codeW, hnone]; exact h) h1 h2 h3 rfl (Step.refl ρ sh w)
          exact wp_of_rounds hr

/-! ## functions -/

def argTs : Nat → List SV → Ts
  | _, [] => []
  | n, v :: l => (n, v) :: argTs (n + 1) l

theorem argTs_look : ∀ (l : List SV) (n t : Nat) (v : SV), look (argTs n l) t = some v → n ≤ t ∧ l[t - n]? = some v
  | [], n, t, v, h => by simp [argTs, look] at h
  | u :: l, n, t, v, h => by
    simp only [argTs, look] at h
    split at h
    · rename_i hn; subst hn; cases h; simp
    · rename_i hn
      obtain ⟨h1, h2⟩ := argTs_look l (n + 1) t v h
      refine ⟨by omega, ?_⟩
      rw [show t - n = (t - (n + 1)) + 1 by omega]
      simpa using h2

def resW (P : Program) (ts : Ts) (sh : SH) : List ResultVar → (List SV → Prop) → Prop
  | [], K => K []
  | .tmp t :: l, K => match look ts t with
    | some v => resW P ts sh l (fun vs => K (v :: vs))
    | none => False
  | .cell t ty :: l, K => match look ts t with
    | some a => loadS P ty sh a (fun v => resW P ts sh l (fun vs => K (v :: vs)))
    | none => False

def resV : List SV → SV
  | [v] => v
  | l => .tuple l

def finW (P : Program) (res : List ResultVar) (K : SV → SH → Prop) : CK := fun e ts sh => match e with
  | .exit _ => False
  | _ => resW P ts sh res (fun vs => K (resV vs) sh)

theorem resW_run {P : Program} {ρ : Inj} {ts sh} {tmps : Array Value} {w : World} (hρ : Rep ρ sh w.heap) (ht : TRel ρ ts tmps) : ∀ (l : List ResultVar) (K : List SV → Prop), resW P ts sh l K →
    ∃ vs vs', K vs ∧ VRels ρ vs vs' ∧ (l.mapM (m := Sem) fun
      | .tmp t => pure (tmps.getD t undef)
      | .cell a t => do loadVar t (← asAddr (tmps.getD a undef))).run P w = .ok vs' w
  | [], K, h => ⟨[], [], h, .nil, rfl⟩
  | .tmp t :: l, K, h => by
    simp only [resW] at h
    split at h
    · rename_i v hv
      obtain ⟨v', h1, h2⟩ := ht t v hv
      obtain ⟨vs, vs', h3, h4, h5⟩ := resW_run hρ ht l _ h
      refine ⟨v :: vs, v' :: vs', h3, .cons h2 h4, ?_⟩
      have hg : tmps.getD t undef = v' := by simp [Array.getD_eq_getD_getElem?, h1]
      simp only [List.mapM_cons, Sem.run_bind, Sem.run_pure, Result.andThen_ok, h5, hg]
    · exact h.elim
  | .cell t ty :: l, K, h => by
    simp only [resW] at h
    split at h
    · rename_i u hu
      obtain ⟨u', h1, h2⟩ := ht t u hu
      obtain ⟨v, v', h3, h4, h5⟩ := load_sound (P := P) h hρ h2
      obtain ⟨vs, vs', h6, h7, h8⟩ := resW_run hρ ht l _ h3
      refine ⟨v :: vs, v' :: vs', h6, .cons h4 h7, ?_⟩
      have hg : tmps.getD t undef = u' := by simp [Array.getD_eq_getD_getElem?, h1]
      unfold loadS at h
      split at h
      · cases h2 with
        | ptr he ho =>
        have h5' : ∀ b o, (Instr.loadAt ty (.pointer (some ⟨b, o, none⟩))) = loadVar ty ⟨b, o, none⟩ := fun b o => rfl
        rw [h5'] at h5
        have ha : ∀ b o, asAddr (.pointer (some ⟨b, o, none⟩)) = pure ⟨b, o, none⟩ := fun b o => rfl
        simp only [List.mapM_cons, Sem.run_bind, Sem.run_pure, Result.andThen_ok, h8, hg, ha, h5]
      · exact h.elim
    · exact h.elim

theorem results_run {P : Program} {fn : Func} {tmps : Array Value} {w : World} {ρ vs vs'} (hv : VRels ρ vs vs')
    (h : (fn.results.toList.mapM (m := Sem) fun
      | .tmp t => pure (tmps.getD t undef)
      | .cell a t => do loadVar t (← asAddr (tmps.getD a undef))).run P w = .ok vs' w) :
    ∃ v', (results fn tmps).run P w = .ok v' w ∧ VRel ρ (resV vs) v' := by
  have hm : (fn.results.mapM (m := Sem) fun
      | .tmp t => pure (tmps.getD t undef)
      | .cell a t => do loadVar t (← asAddr (tmps.getD a undef))).run P w = .ok vs'.toArray w := by
    conv => lhs; rw [← Array.toArray_toList (xs := fn.results), List.mapM_toArray]
    simp only [Sem.run_map]
    refine (congrArg (fun r : Result (List Value) => r.andThen (fun a w' => Result.ok a.toArray w')) h).trans rfl
  unfold results
  simp only [Sem.run_bind]
  refine ⟨if h : vs'.toArray.size = 1 then vs'.toArray[0] else .tuple vs'.toArray, ?_, ?_⟩
  · refine (congrArg (fun r : Result (Array Value) => r.andThen (fun a w' => Sem.run P (pure (if h : a.size = 1 then a[0] else .tuple a)) w')) hm).trans rfl
  · cases hv with
    | nil => exact VRels.nil.tuple
    | cons h1 h2 =>
      cases h2 with
      | nil => simpa [resV] using h1
      | cons h2 h3 =>
        have := ((VRels.cons h1 (.cons h2 h3))).tuple
        simpa [resV] using this

theorem CallT.of_code {P : Program} {f : FuncId} {fn : Func} {c : Code} {G : CTab} {R : RTab} {L : LTab} {n : Nat} {args : List SV} {sh : SH} {K : SV → SH → Prop} (hG : GOk P G) (hf : P.funcs[f]? = some fn) (hb : fn.body = some c)
    (hR : ROk P fn.ntmps R (drawsOf c)) (hL : LOk P fn.ntmps L (loopsOf c)) (hlen : args.length ≤ fn.ntmps) (h : codeW P G R L fn.ntmps n c (argTs 0 args) sh (finW P fn.results.toList K)) : CallT P f args sh K := by
  intro ρ w args' hρ hargs
  have hal := hargs.length
  refine calls_of_wp hf hb ?_
  have ht : TRel ρ (argTs 0 args) (args'.toArray ++ Array.replicate (fn.ntmps - args'.toArray.size) undef) := by
    intro t v hv
    obtain ⟨_, h2⟩ := argTs_look args 0 t v hv
    obtain ⟨v', h3, h4⟩ := hargs.get t v (by simpa using h2)
    refine ⟨v', ?_, h4⟩
    have hlt := (List.getElem?_eq_some_iff.1 h3).1
    rw [Array.getElem?_append_left (by simpa using hlt)]
    simpa using h3
  refine wp_mono (codeW_sound hG n c hR hL _ _ _ h ρ w _ hρ ht (by simp; omega)) ?_
  rintro ex a' w' ⟨e, ts', sh', ρ', rfl, k1, k2, k3, k4, k5, k6⟩
  have fin : resW P ts' sh' fn.results.toList (fun vs => K (resV vs) sh') → a'.defers = [] ∧ ∃ v, (results fn a'.tmps).run P w' = .ok v w' ∧
      ∃ u v' sh' ρ', Ending.returned v = .returned v' ∧ K u sh' ∧ VRel ρ' u v' ∧ Rep ρ' sh' w'.heap ∧ Step ρ sh w ρ' sh' w' := by
    intro hr
    obtain ⟨vs, vs', g1, g2, g3⟩ := resW_run (P := P) k5 k2 _ _ hr
    obtain ⟨v', g4, g5⟩ := results_run g2 g3
    exact ⟨k4, v', g4, _, v', sh', ρ', rfl, g1, g5, k5, k6⟩
  cases e with
  | normal => exact fin k1
  | ret => exact fin k1
  | exit id => exact k1.elim

end Go.Rv
