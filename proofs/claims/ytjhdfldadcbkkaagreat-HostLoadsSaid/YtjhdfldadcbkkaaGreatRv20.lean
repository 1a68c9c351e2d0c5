/- A part of the evaluator of the model's code, or of its tables: what is proved is said in the claim's last text. -/
import Derived.Test.YtjhdfldadcbkkaaGreatRv19
import Derived.Recover
namespace Go.Rv
set_option linter.unusedVariables false

/-! ## calls that may panic -/

abbrev PTP := List SV → SH → (SV → SH → Prop) → (SV → SH → Prop) → Prop
abbrev CTabP := FuncId → PTP

/-- a panic's chain, of one panic -/
def pan1 (v : Value) : List PanicEntry := [{ v, recovered := false }]

def PostC (ρ : Inj) (sh : SH) (w : World) (K KP : SV → SH → Prop) : Ending → World → Prop := fun e w' =>
  (∃ v v' sh' ρ', e = .returned v' ∧ K v sh' ∧ VRel ρ' v v' ∧ Rep ρ' sh' w'.heap ∧ Step ρ sh w ρ' sh' w') ∨
  (∃ p p' sh' ρ', e = .panicked (pan1 p') ∧ KP p sh' ∧ VRel ρ' p p' ∧ Rep ρ' sh' w'.heap ∧ Step ρ sh w ρ' sh' w')

def CallP (P : Program) (f : FuncId) (args : List SV) (sh : SH) (K KP : SV → SH → Prop) : Prop :=
  ∀ (ρ : Inj) (w : World) (args' : List Value), Rep ρ sh w.heap → VRels ρ args args' → Calls P f args'.toArray w (PostC ρ sh w K KP)

def CTP (P : Program) (f : FuncId) (args : List SV) (sh : SH) (K KP : SV → SH → Prop) : Prop :=
  ∀ (ρ : Inj) (w : World) (args' : List Value), Rep ρ sh w.heap → VRels ρ args args' →
    (enterable P f = true ∧ Calls P f args'.toArray w (PostC ρ sh w K KP)) ∨
    (∃ v v' sh' ρ' w', (callFunc f args'.toArray).run P w = .ok (.value v') w' ∧ K v sh' ∧ VRel ρ' v v' ∧ Rep ρ' sh' w'.heap ∧ Step ρ sh w ρ' sh' w')

theorem CallP.ctp {P : Program} {f args sh K KP} (h : CallP P f args sh K KP) (he : enterable P f = true) : CTP P f args sh K KP :=
  fun ρ w args' h1 h2 => .inl ⟨he, h ρ w args' h1 h2⟩

theorem CT.ctp {P : Program} {f args sh K KP} (h : CT P f args sh K) : CTP P f args sh K KP := by
  intro ρ w args' h1 h2
  rcases h ρ w args' h1 h2 with ⟨a, b⟩ | b
  · exact .inl ⟨a, b.mono fun _ _ q => .inl q⟩
  · exact .inr b

/-- one that comes to no panic -/
theorem CTP.ct {P : Program} {f args sh K} (h : CTP P f args sh K (fun _ _ => False)) : CT P f args sh K := by
  intro ρ w args' h1 h2
  rcases h ρ w args' h1 h2 with ⟨a, b⟩ | b
  · refine .inl ⟨a, b.mono fun _ _ q => ?_⟩
    rcases q with q | ⟨p, p', sh', ρ', _, hk, _⟩
    · exact q
    · exact hk.elim
  · exact .inr b

def GPOk (P : Program) (G : CTabP) : Prop := ∀ f args sh K KP, G f args sh K KP → CTP P f args sh K KP

def noP (G : CTabP) : CTab := fun f args sh K => G f args sh K (fun _ _ => False)
theorem noP_ok {P : Program} {G : CTabP} (h : GPOk P G) : GOk P (noP G) := fun f args sh K k => (h f args sh K _ k).ct

def noC : CTab := fun _ _ _ _ => False
theorem noC_ok (P : Program) : GOk P noC := fun _ _ _ _ h => h.elim

def opP (P : Program) (G : CTabP) (ts : Ts) (sh : SH) (o : Op) (K KP : SV → SH → Prop) : Prop :=
  match o with
  | .panic x => ev1 ts x (fun v => match v with
    | .iface _ _ => KP v sh
    | _ => False)
  | .call c => match c.callee with
    | .value x => ev1 ts x (fun v => match v with
      | .func (.func f) first cap => evL ts c.args.toList (fun vs => G f (first ++ vs ++ cap) sh K KP)
      | _ => False)
    | _ => opW P noC ts sh (.call c) K
  | o => opW P noC ts sh o K

theorem opP_sound {P : Program} {G : CTabP} (hG : GPOk P G) {ts sh} {o : Oper} {K KP : SV → SH → Prop} {ρ} {w : World} {a : Act} {next : Act → World → Prop} {Q : Exit → Act → World → Prop} (h : opP P G ts sh o.op K KP) (hρ : Rep ρ sh w.heap) (ht : TRel ρ ts a.tmps)
    (hn : Nexts ρ sh w o a K next) (hq : ∀ p p' sh' ρ' w', KP p sh' → VRel ρ' p p' → Rep ρ' sh' w'.heap → Step ρ sh w ρ' sh' w' → Q (.panic (pan1 p')) a w') : o.wp P a w next Q := by
  unfold opP at h
  split at h
  · rename_i x hop
    obtain ⟨v, h1, h2⟩ := ev1_spec ht h
    split at h1
    · rename_i t u
      generalize hx : a.eval x = y at h2
      cases h2 with
      | iface h3 =>
      rename_i u'
      have he : (execOp a.eval o).run P w = .halt (.panic (.iface t u')) w := by
        simp [execOp, hop, hx, Instr.panic, goPanic]
      simp only [Oper.wp, he, Oper.upon_panic]
      exact hq _ _ _ ρ w h1 (.iface h3) hρ (Step.refl _ _ _)
    · exact h1.elim
  · rename_i c hop
    split at h
    · rename_i x hcal
      obtain ⟨v, h1, h2⟩ := ev1_spec ht h
      split at h1
      · rename_i f first cap
        obtain ⟨vs, h3, h4⟩ := evL_spec ht _ _ h1
        generalize hu : a.eval x = u at h2
        cases h2 with
        | func f1 f2 f3 f4 =>
        rename_i fs cs
        have hA := ((VRels.of_get _ _ f1 f2).append h4).append (VRels.of_get _ _ f3 f4)
        have hA' : VRels ρ (first ++ vs ++ cap) ((fs ++ (c.args.map a.eval) ++ cs).toList) := by simpa using hA
        have hx : execOp a.eval o = callFunc f (fs ++ (c.args.map a.eval) ++ cs) := by
          simp [execOp, hop, resolve, hcal, hu, Deferred.ofValue, invoke]
        rcases hG _ _ _ _ _ h3 ρ w _ hρ hA' with ⟨hen, hc⟩ | ⟨v, v', sh', ρ', w', hr, k1, k2, k3, k4⟩
        · simp only [Array.toArray_toList] at hc
          simp only [Oper.wp, hx, run_callFunc w hen, Oper.upon_enter]
          refine hc.mono ?_
          rintro e w' (⟨v, v', sh', ρ', rfl, k1, k2, k3, k4⟩ | ⟨p, p', sh', ρ', rfl, k1, k2, k3, k4⟩)
          · exact hn v v' sh' ρ' w' k1 k2 k3 k4
          · exact hq p p' sh' ρ' w' k1 k2 k3 k4
        · simp only [Array.toArray_toList] at hr
          simp only [Oper.wp, hx, hr, Oper.upon_value]
          exact hn v v' sh' ρ' w' k1 k2 k3 k4
      · exact h1.elim
    · have h' : opW P noC ts sh o.op K := by rw [hop]; exact h
      exact opW_sound (noC_ok P) h' hρ ht hn
  · exact opW_sound (noC_ok P) h hρ ht hn
end Go.Rv
