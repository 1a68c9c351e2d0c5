/- A part of the evaluator of the model's code, or of its tables: what is proved is said in the claim's last text. -/
import Derived.Test.YtjhdfldadcbkkaaGreatRv21
namespace Go.Rv
set_option linter.unusedVariables false

def codeX (P : Program) (G : CTabP) (R : RTab) (L : LTab) (nt : Nat) : Nat → Code → Ts → SH → Dx → XK → PK → Prop
  | 0, _, _, _, _, _, _ => False
  | n + 1, c, ts, sh, ds, K, KP => match c with
    | .skip => K .normal ts sh ds
    | .region _ ops false => opsX P G nt ops ops.toList ts sh ds (fun ts sh ds => K .normal ts sh ds) KP
    | .region id ops true => match findR R id with
      | some (.one l) => ordW P (noP G) nt ops l [] ts sh (fun ts sh => K .normal ts sh ds)
      | some (.two _ _ l m) => both (ordW P (noP G) nt ops l [] ts sh (fun ts sh => K .normal ts sh ds)) (ordW P (noP G) nt ops m [] ts sh (fun ts sh => K .normal ts sh ds))
      | some (.al A al B) => ordA P (noP G) nt ops A al B ts sh (fun ts sh => K .normal ts sh ds)
      | none => False
    | .seq x y => codeX P G R L nt n x ts sh ds (fun e ts sh ds => match e with
      | .normal => codeX P G R L nt n y ts sh ds K KP
      | e => K e ts sh ds) KP
    | .cond c x y => ev1 ts c (fun v => match v with
      | .bool b => ifB b (codeX P G R L nt n x ts sh ds K KP) (codeX P G R L nt n y ts sh ds K KP)
      | _ => False)
    | .block id b => codeX P G R L nt n b ts sh ds (fun e ts sh ds => match e with
      | .exit id' => if id' = id then K .normal ts sh ds else K (.exit id') ts sh ds
      | e => K e ts sh ds) KP
    | .loop b => match L (firstR b) with
      | some spec => spec ts sh (fun e ts sh => K e ts sh ds)
      | none => codeX P G R L nt n b ts sh ds (fun e ts sh ds => match e with
        | .normal => codeX P G R L nt n (.loop b) ts sh ds K KP
        | e => K e ts sh ds) KP
    | .rangeFunc g _ _ _ => ev1 ts g (fun v => match v with
      | .func (.func f) first cap => if enterable P f = true then (∀ l : Nat, G f (first ++ [.any (.func (.yield l) #[] #[])] ++ cap) sh (fun _ sh' => K .normal ts sh' (.col :: ds)) (fun p sh' => KP p ts sh' (.col :: ds))) else False
      | _ => False)
    | .exit id => K (.exit id) ts sh ds
    | .ret => K .ret ts sh ds
    | _ => False

def SoundX (P : Program) (G : CTabP) (R : RTab) (L : LTab) (nt n : Nat) (c : Code) : Prop := ∀ ts sh ds K KP, codeX P G R L nt n c ts sh ds K KP → CodeX P nt c ts sh ds K KP

theorem CodeX.seq {P nt x y ts sh ds} {K : XK} {KP : PK} (h : CodeX P nt x ts sh ds (fun e ts sh ds => match e with | .normal => CodeX P nt y ts sh ds K KP | e => K e ts sh ds) KP) : CodeX P nt (.seq x y) ts sh ds K KP := by
  intro B ρ w a hB h1 h2 h3 h4
  refine wp_seq (wp_mono (h B ρ w a hB h1 h2 h3 h4) ?_)
  rintro ex a' w' (⟨e, ts', sh', ds', ρ', rfl, k1, k2, k3, k4, k5, k6⟩ | ⟨p, p', ts', sh', ds', ρ', rfl, k⟩)
  · cases e with
    | normal =>
      refine wp_mono (k1 B ρ' w' a' (Nat.le_trans hB k6.size) k5 k2 k3 k4) ?_
      intro ex a2 w2 hp
      exact hp.trans k6
    | ret => exact .inl ⟨.ret, ts', sh', ds', ρ', rfl, k1, k2, k3, k4, k5, k6⟩
    | exit id => exact .inl ⟨.exit id, ts', sh', ds', ρ', rfl, k1, k2, k3, k4, k5, k6⟩
  · exact .inr ⟨p, p', ts', sh', ds', ρ', rfl, k⟩

theorem CodeX.mono {P nt c ts sh ds} {K K' : XK} {KP KP' : PK} (h : CodeX P nt c ts sh ds K KP) (hk : ∀ e ts sh ds, K e ts sh ds → K' e ts sh ds) (hp : ∀ p ts sh ds, KP p ts sh ds → KP' p ts sh ds) : CodeX P nt c ts sh ds K' KP' := by
  intro B ρ w a hB h1 h2 h3 h4
  refine wp_mono (h B ρ w a hB h1 h2 h3 h4) ?_
  rintro ex a' w' (⟨e, ts', sh', ds', ρ', k0, k1, k⟩ | ⟨p, p', ts', sh', ds', ρ', k0, k1, k⟩)
  · exact .inl ⟨e, ts', sh', ds', ρ', k0, hk _ _ _ _ k1, k⟩
  · exact .inr ⟨p, p', ts', sh', ds', ρ', k0, hp _ _ _ _ k1, k⟩

theorem rounds_of_codeX {P : Program} {G : CTabP} {R : RTab} {L : LTab} {nt B : Nat} {b : Code} (hL : L (firstR b) = none) {K : XK} {KP : PK} {ρ0 : Inj} {sh0 : SH} {w0 : World} : ∀ (n : Nat), (∀ m, m < n → SoundX P G R L nt m b) → ∀ (ts : Ts) (sh : SH) (ds : Dx) (ρ : Inj) (w : World) (a : Act),
    codeX P G R L nt n (.loop b) ts sh ds K KP → B ≤ w.heap.size → Rep ρ sh w.heap → TRel ρ ts a.tmps → a.tmps.size = nt → XRel B ρ w ds a.defers → Step ρ0 sh0 w0 ρ sh w → Rounds P b (PostX B nt K KP ρ0 sh0 w0) n a w
  | 0, _, ts, sh, ds, ρ, w, a, h, _, _, _, _, _, _ => h.elim
  | n + 1, hs, ts, sh, ds, ρ, w, a, h, hB, h1, h2, h3, h4, h5 => by
    simp only [codeX, hL] at h
    refine wp_mono (hs n (Nat.lt_succ_self n) _ _ _ _ _ h B ρ w a hB h1 h2 h3 h4) ?_
    rintro ex a' w' (⟨e, ts', sh', ds', ρ', rfl, k1, k2, k3, k4, k5, k6⟩ | hp)
    · cases e with
      | normal => exact rounds_of_codeX hL n (fun m hm => hs m (Nat.lt_succ_of_lt hm)) ts' sh' ds' ρ' w' a' k1 (Nat.le_trans hB k6.size) k5 k2 k3 k4 (h5.trans k6)
      | ret => exact .inl ⟨.ret, ts', sh', ds', ρ', rfl, k1, k2, k3, k4, k5, h5.trans k6⟩
      | exit id => exact .inl ⟨.exit id, ts', sh', ds', ρ', rfl, k1, k2, k3, k4, k5, h5.trans k6⟩
    · obtain ⟨p, p', ts', sh', ds', ρ', rfl, k1, k2, k3, k4, k5, k6, k7⟩ := hp
      exact .inr ⟨p, p', ts', sh', ds', ρ', rfl, k1, k2, k3, k4, k5, k6, h5.trans k7⟩

/-- a range over a function that does not call its yield -/
theorem rangeX {P : Program} {G : CTabP} (hG : GPOk P G) {nt : Nat} {g : Operand} {ps : Array Tmp} {assign body : Code} {ts : Ts} {sh : SH} {ds : Dx} {K : XK} {KP : PK}
    (h : ev1 ts g (fun v => match v with
      | .func (.func f) first cap => if enterable P f = true then (∀ l : Nat, G f (first ++ [.any (.func (.yield l) #[] #[])] ++ cap) sh (fun _ sh' => K .normal ts sh' (.col :: ds)) (fun p sh' => KP p ts sh' (.col :: ds))) else False
      | _ => False)) : CodeX P nt (.rangeFunc g ps assign body) ts sh ds K KP := by
  intro B ρ w a hB h1 h2 h3 h4
  refine (wpIn_wide (n := 3)).1 (wpIn_rangeFunc ?_)
  intro fn _
  obtain ⟨v, k1, k2⟩ := ev1_spec h2 h
  split at k1
  · rename_i f first cap
    split at k1
    case isFalse => exact k1.elim
    rename_i hen
    generalize hu : a.eval g = u at k2
    cases k2 with
    | func f1 f2 f3 f4 =>
    rename_i fs cs
    obtain ⟨rec, hrec⟩ : ∃ rec : Loop, rec = { state := .ready, pending := none, fn, tmps := a.tmps, params := ps, assign, body, defers := w.heap.size } := ⟨_, rfl⟩
    obtain ⟨W1, hW1⟩ : ∃ W1, (w.alloc (.deferred (some []))).alloc (.loop rec) = W1 := ⟨_, rfl⟩
    have hr1 : Rep ρ sh W1.heap := hW1 ▸ (h1.allocN _).allocN _
    have hs1 : Step ρ sh w ρ sh W1 := hW1 ▸ ((Step.refl ρ sh w).allocN _).allocN _
    have hLoop : W1.heap[w.heap.size + 1]? = some (.loop rec) := by
      rw [← hW1]; show (((w.heap.push _).push _))[w.heap.size + 1]? = _
      rw [Array.getElem?_push, if_pos (by simp)]
    have hD : W1.heap[w.heap.size]? = some (.deferred (some [])) := by
      rw [← hW1]; show (((w.heap.push _).push _))[w.heap.size]? = _
      rw [Array.getElem?_push, if_neg (by simp), Array.getElem?_push, if_pos rfl]
    have hx1 : XRel B ρ W1 (.col :: ds) ({ target := .collected w.heap.size, args := #[] } :: a.defers) := by
      refine .col hB hD ?_ (hW1 ▸ (h4.allocN _).allocN _)
      intro d hd e
      exact absurd (h4.low d hd _ e) (Nat.lt_irrefl _)
    have hA := ((VRels.of_get _ _ f1 f2).append (VRels.cons (VRel.any (ρ := ρ) (v := .func (.yield (w.heap.size + 1)) #[] #[]) rfl) .nil)).append (VRels.of_get _ _ f3 f4)
    have hA' : VRels ρ (first ++ [.any (.func (.yield (w.heap.size + 1)) #[] #[])] ++ cap) ((fs ++ #[Value.func (.yield (w.heap.size + 1)) #[] #[]] ++ cs).toList) := by simpa using hA
    have hcall := hG _ _ _ _ _ (k1 (w.heap.size + 1)) ρ W1 _ hr1 hA'
    rcases hcall with ⟨_, hc⟩ | hc
    · simp only [Array.toArray_toList] at hc
      refine ⟨w.heap.size + 1, [{ target := .collected w.heap.size, args := #[] }], W1, { target := .fn (.func f) cs, args := fs ++ #[Value.func (.yield (w.heap.size + 1)) #[] #[]] }, W1, f, fs ++ #[Value.func (.yield (w.heap.size + 1)) #[] #[]] ++ cs, W1, ?_, ?_, fun _ _ => trivial, ?_, fun hh => by simp [Fence.wide] at hh, ?_⟩
      · rw [← hW1, hrec]; exact run_enterLoop_outer _ _ _ _ _
      · have hc0 : ∀ v, a.eval (.const v) = v := fun _ => rfl
        simp [resolve, hu, Deferred.ofValue, hc0]
      · simp only [invoke]; exact run_callFunc W1 hen
      · refine callsIn_wide.2 (hc.mono ?_)
        rintro e w3 (⟨v, v', sh', ρ', rfl, q1, q2, q3, q4⟩ | ⟨p, p', sh', ρ', rfl, q1, q2, q3, q4⟩)
        · have hL3 : w3.heap[w.heap.size + 1]? = some (.loop rec) := (q4.same _ (heap_lt hLoop) (not_owns hr1 hLoop (by intros; simp) (by simp))).trans hLoop
          refine ⟨none, w3.putObj (w.heap.size + 1) (.loop { rec with state := .exhausted }), ?_, ?_⟩
          · have := run_endLoop (P := P) hL3 (by rw [hrec]; simp)
            rw [this, hrec]
          · have hs3 := hs1.trans q4
            have hx3 := hx1.step hr1 q4
            refine .inl ⟨.normal, ts, sh', .col :: ds, ρ', rfl, q1, h2.mono hs3.le, h3, hx3.putObj ?_ _, q3.putObj hL3 (by intros; simp) (by simp) _, hs3.putObj (by omega) _⟩
            intro d hd e
            rcases List.mem_cons.1 hd with rfl | hd
            · simp at e
            · have := h4.low d hd _ e; omega
        · have hs3 := hs1.trans q4
          exact .inr ⟨p, p', ts, sh', .col :: ds, ρ', rfl, q1, q2, h2.mono hs3.le, h3, hx1.step hr1 q4, q3, hs3⟩
    · obtain ⟨v, v', sh', ρ', w', hr, q1, q2, q3, q4⟩ := hc
      rw [run_callFunc W1 hen] at hr
      cases hr
  · exact k1.elim
end Go.Rv
