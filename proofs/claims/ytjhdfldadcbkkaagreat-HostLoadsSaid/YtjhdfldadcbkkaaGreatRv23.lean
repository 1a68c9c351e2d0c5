/- A part of the evaluator of the model's code, or of its tables: what is proved is said in the claim's last text. -/
import Derived.Test.YtjhdfldadcbkkaaGreatRv22
namespace Go.Rv
set_option linter.unusedVariables false

theorem codeX_sound {P : Program} {G : CTabP} (hG : GPOk P G) {R : RTab} {L : LTab} {nt : Nat} : ∀ (n : Nat) (c : Code), ROk P nt R (drawsOf c) → LOk P nt L (loopsOf c) → SoundX P G R L nt n c := by
  intro n
  induction n using Nat.strongRecOn with
  | _ n ih =>
    intro c hR hL ts sh ds K KP h
    cases n with
    | zero => exact h.elim
    | succ n =>
      have ih1 : ∀ c, ROk P nt R (drawsOf c) → LOk P nt L (loopsOf c) → SoundX P G R L nt n c := ih n (Nat.lt_succ_self n)
      cases c <;> simp only [codeX] at h <;> (try exact h.elim)
      case skip => exact fun B ρ w a hB h1 h2 h3 h4 => wp_skip (.inl ⟨.normal, ts, sh, ds, ρ, rfl, h, h2, h3, h4, h1, Step.refl _ _ _⟩)
      case exit id => exact fun B ρ w a hB h1 h2 h3 h4 => wp_exit (.inl ⟨.exit id, ts, sh, ds, ρ, rfl, h, h2, h3, h4, h1, Step.refl _ _ _⟩)
      case ret => exact fun B ρ w a hB h1 h2 h3 h4 => wp_ret (.inl ⟨.ret, ts, sh, ds, ρ, rfl, h, h2, h3, h4, h1, Step.refl _ _ _⟩)
      case rangeFunc g ps assign body => exact rangeX hG h
      case region id ops draw =>
        cases draw with
        | true =>
          simp only at h
          have hm : P.follows .mixedOrders = true := by
            rcases hR.1 with hh | hh
            · simp [drawsOf] at hh
            · exact hh
          have key : CodeT P nt (.region id ops true) ts sh (fun e ts sh => K e ts sh ds) := by
            have fin : ∀ {ρ : Inj} {w : World} {a : Act}, ∀ (ts' : Ts) (sh' : SH) (ρ' : Inj) (w' : World) (a' : Act), K .normal ts' sh' ds → TRel ρ' ts' a'.tmps → a'.tmps.size = nt → a'.defers = a.defers → Rep ρ' sh' w'.heap → Step ρ sh w ρ' sh' w' → (PostT P nt (fun e ts sh => K e ts sh ds) ρ sh w a.defers) .normal a' w' :=
              fun {ρ w a} ts' sh' ρ' w' a' k1 k2 k3 k4 k5 k6 => ⟨.normal, ts', sh', ρ', rfl, k1, k2, k3, k4, k5, k6⟩
            split at h
            · rename_i l hf
              obtain ⟨g1, g2⟩ := hR.2 (id, ops) (by simp [drawsOf]) _ hf
              intro ρ w a h1 h2 h3
              exact ordW_sound (noP_ok hG) hm g1 (okDst_spec g2) h h1 h2 h3 fin
            · rename_i x y l m hf
              obtain ⟨g1, g2⟩ := hR.2 (id, ops) (by simp [drawsOf]) _ hf
              simp only [okO, Bool.and_eq_true] at g1
              intro ρ w a h1 h2 h3
              exact ord2_sound (noP_ok hG) hm g1.1 g1.2 (okDst_spec g2) h.1 h.2 h1 h2 h3 fin
            · rename_i A al B hf
              obtain ⟨g1, g2⟩ := hR.2 (id, ops) (by simp [drawsOf]) _ hf
              intro ρ w a h1 h2 h3
              exact ordA_sound (noP_ok hG) hm g1 (okDst_spec g2) h h1 h2 h3 fin
            · exact h.elim
          exact CodeT.x key
        | false =>
          intro B ρ w a hB h1 h2 h3 h4
          refine wp_region_list (opsX_sound hG _ _ _ _ _ _ ρ w a h h1 h2 h3 h4 ?_)
          rintro ex a' w' (⟨e, ts', sh', ds', ρ', rfl, k1, k⟩ | hp)
          · cases e with
            | normal => exact .inl ⟨.normal, ts', sh', ds', ρ', rfl, k1, k⟩
            | ret => exact k1.elim
            | exit id => exact k1.elim
          · exact .inr hp
      case seq x y =>
        have hx : LOk P nt L (loopsOf x) := fun b hb => hL b (List.mem_append_left _ hb)
        have hy : LOk P nt L (loopsOf y) := fun b hb => hL b (List.mem_append_right _ hb)
        have rx : ROk P nt R (drawsOf x) := hR.sub fun b hb => List.mem_append_left _ hb
        have ry : ROk P nt R (drawsOf y) := hR.sub fun b hb => List.mem_append_right _ hb
        refine CodeX.seq ((ih1 x rx hx _ _ _ _ _ h).mono ?_ fun _ _ _ _ k => k)
        intro e ts' sh' ds' hk
        cases e with
        | normal => exact ih1 y ry hy _ _ _ _ _ hk
        | ret => exact hk
        | exit id => exact hk
      case cond c x y =>
        have hx : LOk P nt L (loopsOf x) := fun b hb => hL b (List.mem_append_left _ hb)
        have hy : LOk P nt L (loopsOf y) := fun b hb => hL b (List.mem_append_right _ hb)
        have rx : ROk P nt R (drawsOf x) := hR.sub fun b hb => List.mem_append_left _ hb
        have ry : ROk P nt R (drawsOf y) := hR.sub fun b hb => List.mem_append_right _ hb
        intro B ρ w a hB h1 h2 h3 h4
        obtain ⟨v, k1, k2⟩ := ev1_spec h2 h
        split at k1
        · rename_i b
          have hc : a.eval c = .bool b := by generalize a.eval c = u at k2; cases k2; rfl
          rcases ifB_or k1 with ⟨rfl, k1⟩ | ⟨rfl, k1⟩
          · exact wp_cond_true hc (ih1 x rx hx _ _ _ _ _ k1 B ρ w a hB h1 h2 h3 h4)
          · exact wp_cond_false hc (ih1 y ry hy _ _ _ _ _ k1 B ρ w a hB h1 h2 h3 h4)
        · exact k1.elim
      case block id b =>
        intro B ρ w a hB h1 h2 h3 h4
        refine wp_block (wp_mono (ih1 b hR hL _ _ _ _ _ h B ρ w a hB h1 h2 h3 h4) ?_)
        rintro ex a' w' (⟨e, ts', sh', ds', ρ', rfl, k1, k⟩ | ⟨p, p', ts', sh', ds', ρ', rfl, k⟩)
        · cases e with
          | normal => exact .inl ⟨.normal, ts', sh', ds', ρ', rfl, k1, k⟩
          | ret => exact .inl ⟨.ret, ts', sh', ds', ρ', rfl, k1, k⟩
          | exit id' =>
            simp only [Ex.to, Exit.inBlock] at k1 ⊢
            split
            · rename_i hid
              rw [if_pos hid] at k1
              exact .inl ⟨.normal, ts', sh', ds', ρ', rfl, k1, k⟩
            · rename_i hid
              rw [if_neg hid] at k1
              exact .inl ⟨.exit id', ts', sh', ds', ρ', rfl, k1, k⟩
        · exact .inr ⟨p, p', ts', sh', ds', ρ', rfl, k⟩
      case loop b =>
        split at h
        · rename_i spec hsp
          exact CodeT.x (hL b (List.mem_cons_self ..) spec hsp ts sh _ h)
        · rename_i hnone
          intro B ρ w a hB h1 h2 h3 h4
          have hb : LOk P nt L (loopsOf b) := fun c hc => hL c (List.mem_cons_of_mem _ hc)
          have hr := rounds_of_codeX (P := P) (G := G) (K := K) (KP := KP) hnone (n + 1) (fun m hm => ih m hm b hR hb) ts sh ds ρ w a (by simp only [codeX, hnone]; exact h) hB h1 h2 h3 h4 (Step.refl ρ sh w)
          exact wp_of_rounds hr

/-! ## on the way out -/
def LeavesX (P : Program) (fn : Func) (tmps : Array Value) (R : Ending → World → Prop) : List Deferred → FrameMode → World → Prop
  | [], .returning, w => ∃ v, (results fn tmps).run P w = .ok v w ∧ R (.returned v) w
  | [], .panicking chain, w => R (.panicked chain) w
  | [], .run, _ => False
  | d :: ds, u, w => u ≠ .run ∧
      ((∃ r w', d.target = .collected r ∧ (Instr.takeDeferred r).run P w = .ok [] w' ∧ LeavesX P fn tmps R ds u w') ∨
       (∃ fv cap f args, d.target = .fn fv cap ∧ (invoke d.target d.args).run P w = .ok (.enter f args) w ∧
        CallsD P f args u w fun
          | .returned _, u', w' => LeavesX P fn tmps R ds (settle u') w'
          | .panicked chain, u', w' => LeavesX P fn tmps R ds (raised u' chain) w'
          | .outgrown, _, w' => R .outgrown w'))

theorem leavesX_steps {P : Program} {fn : Func} {tmps : Array Value} {R : Ending → World → Prop} : ∀ (ds : List Deferred) (u : FrameMode) (w : World) (fr : Frame)
    (cs : List Frame), fr.mode = u → fr.defers = ds → fr.tmps = tmps → P.funcs[fr.fn]? = some fn → fr.kind = .normal → LeavesX P fn tmps R ds u w →
    ∃ e w' fr', R e w' ∧ Comes P (lone fr cs w) (lone fr' cs w') e ∧ fr'.fn = fr.fn ∧ fr'.leaving P w' e := by
  intro ds
  induction ds with
  | nil =>
    intro u w fr cs hu hd ht hf hk h
    cases u with
    | run => exact h.elim
    | returning =>
      obtain ⟨v, hr, hR⟩ := h
      exact ⟨.returned v, w, fr, hR, Steps.refl P _, rfl, hu, hd, hk, fn, hf, ht ▸ hr⟩
    | panicking chain => exact ⟨.panicked chain, w, fr, h, Steps.refl P _, rfl, hu, hd, fn, hf⟩
  | cons d ds ih =>
    intro u w fr cs hu hd ht hf hk h
    obtain ⟨hrun, h⟩ := h
    rcases h with ⟨r, w', htar, htake, hrest⟩ | ⟨fv, cap, f, args, htar, hinv, hcall⟩
    · have h1 := step_collected (cs := cs) (hu ▸ hrun) hd htar htake
      obtain ⟨e', w'', fr', hR', hs', hfn', hl'⟩ := ih u w' { fr with defers := [] ++ ds } cs hu rfl ht hf hk hrest
      exact ⟨e', w'', fr', hR', Comes.of_steps (.one h1) hs', hfn', hl'⟩
    · have h1 := step_defer (cs := cs) (hu ▸ hrun) hd htar hinv
      obtain ⟨e, u', w', frX, hR, hsteps, hkX, hgo⟩ := hcall { fr with defers := ds } cs hu
      cases e with
      | returned v =>
        have h2 := step_going_returned (c := { { fr with defers := ds } with mode := u' }) (cs := cs) hkX hgo
        obtain ⟨e', w'', fr', hR', hs', hfn', hl'⟩ := ih (settle u') w' { { { fr with defers := ds } with mode := u' } with mode := settle u' } cs rfl rfl ht hf hk hR
        exact ⟨e', w'', fr', hR', Comes.of_steps (.head h1 (Steps.trans hsteps (.one h2))) hs', hfn', hl'⟩
      | panicked chain =>
        have h2 := step_going_panicked (c := { { fr with defers := ds } with mode := u' }) (cs := cs) hgo
        obtain ⟨e', w'', fr', hR', hs', hfn', hl'⟩ := ih (raised u' chain) w' { { { fr with defers := ds } with mode := u' } with mode := raised u' chain } cs rfl rfl ht hf hk hR
        exact ⟨e', w'', fr', hR', Comes.of_steps (.head h1 (Steps.trans hsteps (.one h2))) hs', hfn', hl'⟩
      | outgrown => exact ⟨.outgrown, w', fr, hR, Outgrown.of_steps (.one h1) hsteps, rfl, trivial⟩

def bodyPostL (P : Program) (fn : Func) (R : Ending → World → Prop) : Exit → Act → World → Prop
  | .normal, a, w | .ret, a, w => LeavesX P fn a.tmps R a.defers .returning w
  | .panic chain, a, w => LeavesX P fn a.tmps R a.defers (.panicking chain) w
  | .outgrown, _, w => R .outgrown w
  | _, _, _ => False

theorem calls_of_wp_leaves {P : Program} {f : FuncId} {fn : Func} {c : Code} {args : Array Value} {w : World} {R : Ending → World → Prop}
    (hf : P.funcs[f]? = some fn) (hb : fn.body = some c)
    (h : c.wp P (bodyPostL P fn R) { tmps := args ++ Array.replicate (fn.ntmps - args.size) undef, defers := [] } w) : Calls P f args w R := by
  intro cs
  let b : Frame := { (default : Frame) with fn := f, kind := .normal }
  have henter : Frame.enter P f args .normal =
      b.at { tmps := args ++ Array.replicate (fn.ntmps - args.size) undef, defers := [] } [.code c] := by
    simp [Frame.enter, Frame.at, hf, hb, b]
  obtain ⟨e, a', w', hq, harr⟩ := h b [] cs
  rw [← henter] at harr
  cases e with
  | normal =>
    obtain ⟨e', w'', fr', hR, hs, hfn, hl⟩ := leavesX_steps a'.defers .returning w' { b.at a' [] with mode := .returning } cs rfl rfl rfl hf rfl hq
    exact ⟨e', w'', fr', hR, Comes.of_steps (Steps.trans harr (.one step_end)) hs, hfn, hl⟩
  | ret =>
    obtain ⟨todo, hs₀⟩ := harr
    obtain ⟨e', w'', fr', hR, hs, hfn, hl⟩ := leavesX_steps a'.defers .returning w' { b.at a' todo with mode := .returning } cs rfl rfl rfl hf rfl hq
    exact ⟨e', w'', fr', hR, Comes.of_steps hs₀ hs, hfn, hl⟩
  | panic chain =>
    obtain ⟨todo, hs₀⟩ := harr
    obtain ⟨e', w'', fr', hR, hs, hfn, hl⟩ := leavesX_steps a'.defers (.panicking chain) w' { b.at a' todo with mode := .panicking chain } cs rfl rfl rfl hf rfl hq
    exact ⟨e', w'', fr', hR, Comes.of_steps hs₀ hs, hfn, hl⟩
  | exit id => exact hq.elim
  | goto l => exact hq.elim
  | outgrown => exact ⟨.outgrown, w', b, hq, harr.resolve_left (by simp [b]), rfl, trivial⟩
end Go.Rv
