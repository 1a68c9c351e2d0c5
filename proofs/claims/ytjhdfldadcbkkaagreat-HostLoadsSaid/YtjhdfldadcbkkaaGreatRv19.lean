/- A part of the evaluator of the model's code, or of its tables: what is proved is said in the claim's last text. -/
import Derived.Test.YtjhdfldadcbkkaaGreatRv18
import Derived.Defers
namespace Go.Rv
set_option linter.unusedVariables false

/-! ## deferred calls -/

abbrev Ds := List (FuncId × List SV)

inductive DRel (ρ : Inj) : Ds → List Deferred → Prop where
  | nil : DRel ρ [] []
  | cons {f args cap dargs ds ds'} : VRels ρ args ((dargs ++ cap : Array Value).toList) → DRel ρ ds ds' → DRel ρ ((f, args) :: ds) (⟨.fn (.func f) cap, dargs⟩ :: ds')

theorem DRel.mono {ρ ρ' : Inj} (h : ρ.le ρ') {ds ds'} (r : DRel ρ ds ds') : DRel ρ' ds ds' := by
  induction r with
  | nil => exact .nil
  | cons a _ ih => exact .cons (a.mono h) ih

abbrev DK := Ex → Ts → SH → Ds → Prop

def PostD (P : Program) (nt : Nat) (K : DK) (ρ : Inj) (sh : SH) (w : World) : Exit → Act → World → Prop :=
  fun ex a' w' => ∃ e ts' sh' ds' ρ', ex = e.to ∧ K e ts' sh' ds' ∧ TRel ρ' ts' a'.tmps ∧ a'.tmps.size = nt ∧ DRel ρ' ds' a'.defers ∧ Rep ρ' sh' w'.heap ∧ Step ρ sh w ρ' sh' w'

def CodeD (P : Program) (nt : Nat) (c : Code) (ts : Ts) (sh : SH) (ds : Ds) (K : DK) : Prop :=
  ∀ (ρ : Inj) (w : World) (a : Act), Rep ρ sh w.heap → TRel ρ ts a.tmps → a.tmps.size = nt → DRel ρ ds a.defers → c.wp P (PostD P nt K ρ sh w) a w

theorem CodeT.d {P nt c ts sh ds} {K : DK} (h : CodeT P nt c ts sh (fun e ts sh => K e ts sh ds)) : CodeD P nt c ts sh ds K := by
  intro ρ w a h1 h2 h3 h4
  refine wp_mono (h ρ w a h1 h2 h3) ?_
  rintro ex a' w' ⟨e, ts', sh', ρ', rfl, k1, k2, k3, k4, k5, k6⟩
  exact ⟨e, ts', sh', ds, ρ', rfl, k1, k2, k3, k4 ▸ h4.mono k6.le, k5, k6⟩

def opsD (P : Program) (G : CTab) (nt : Nat) : List Oper → Ts → SH → Ds → (Ts → SH → Ds → Prop) → Prop
  | [], ts, sh, ds, K => K ts sh ds
  | o :: l, ts, sh, ds, K => match o.guard with
    | some _ => False
    | none => match o.op with
      | .defer c => match c.callee with
        | .value x => ev1 ts x (fun v => match v with
          | .func (.func f) first cap => evL ts c.args.toList (fun vs => bindS nt o.dst (.tuple []) ts (fun ts' => opsD P G nt l ts' sh ((f, first ++ vs ++ cap) :: ds) K))
          | _ => False)
        | _ => False
      | op => opW P G ts sh op (fun v sh' => bindS nt o.dst v ts (fun ts' => opsD P G nt l ts' sh' ds K))

theorem put_defers_rel {ρ ds} {a : Act} {dst v} (h : DRel ρ ds a.defers) : DRel ρ ds (a.put dst v).defers := by
  unfold Act.put
  cases dst <;> exact h

theorem opsD_sound {P : Program} {G : CTab} (hG : GOk P G) {nt : Nat} {ops : Array Oper} {Q : Exit → Act → World → Prop} : ∀ (l : List Oper) (ts : Ts) (sh : SH) (ds : Ds) (K : Ts → SH → Ds → Prop) (ρ : Inj) (w : World) (a : Act),
    opsD P G nt l ts sh ds K → Rep ρ sh w.heap → TRel ρ ts a.tmps → a.tmps.size = nt → DRel ρ ds a.defers →
    (∀ ts' sh' ds' ρ' w' a', K ts' sh' ds' → TRel ρ' ts' a'.tmps → a'.tmps.size = nt → DRel ρ' ds' a'.defers → Rep ρ' sh' w'.heap → Step ρ sh w ρ' sh' w' → Q .normal a' w') → wpList P ops Q l a w
  | [], ts, sh, ds, K, ρ, w, a, h, hρ, ht, hs, hd, hq => hq ts sh ds ρ w a h ht hs hd hρ (Step.refl _ _ _)
  | o :: l, ts, sh, ds, K, ρ, w, a, h, hρ, ht, hs, hd, hq => by
    simp only [opsD] at h
    split at h
    · exact h.elim
    · rename_i hg
      have hw : Region.wanted o (yielded ops a.tmps) = true := by simp [Region.wanted, hg]
      unfold wpList
      rw [if_pos hw]
      left
      split at h
      · rename_i c hop
        split at h
        · rename_i x hcal
          obtain ⟨v, h1, h2⟩ := ev1_spec ht h
          split at h1
          · rename_i f first cap
            obtain ⟨vs, h3, h4⟩ := evL_spec ht _ _ h1
            generalize hu : a.eval x = u at h2
            cases h2 with
            | func f1 f2 f3 f4 =>
            rename_i fs cs
            have hA := ((VRels.of_get _ _ f1 f2).append h4).append (VRels.of_get _ _ f3 f4)
            have hx : execOp a.eval o = (pure (.defer ⟨.fn (.func f) cs, fs ++ c.args.map a.eval⟩) : Sem Next) := by
              simp [execOp, hop, resolve, hcal, hu, Deferred.ofValue]
            simp only [Oper.wp, hx, Sem.run_pure, Oper.upon_defer]
            obtain ⟨ts', k1, k2, k3, k4⟩ := bindS_spec (a := { a with defers := ⟨.fn (.func f) cs, fs ++ c.args.map a.eval⟩ :: a.defers }) (v' := undef) h3 ht (.tuple rfl (by simp)) hs
            refine opsD_sound hG l ts' sh _ K ρ w _ k1 hρ k2 k3 (put_defers_rel (DRel.cons ?_ hd)) ?_
            · simpa using hA
            · intro ts2 sh2 ds2 ρ2 w2 a2 g1 g2 g3 g4 g5 g6
              exact hq ts2 sh2 ds2 ρ2 w2 a2 g1 g2 g3 g4 g5 g6
          · exact h1.elim
        · exact h.elim
      · refine opW_sound hG h hρ ht ?_
        intro v v' sh' ρ' w' hk hv hρ' hst
        obtain ⟨ts', k1, k2, k3, k4⟩ := bindS_spec hk (ht.mono hst.le) hv hs
        refine opsD_sound hG l ts' sh' ds K ρ' w' _ k1 hρ' k2 k3 (put_defers_rel (hd.mono hst.le)) ?_
        intro ts2 sh2 ds2 ρ2 w2 a2 g1 g2 g3 g4 g5 g6
        exact hq ts2 sh2 ds2 ρ2 w2 a2 g1 g2 g3 g4 g5 (hst.trans g6)

def isDefer : Op → Bool
  | .defer _ => true
  | _ => false

def hasD : Code → Bool
  | .region _ ops _ => ops.toList.any fun o => isDefer o.op
  | .seq a b => hasD a || hasD b
  | .block _ b => hasD b
  | .cond _ a b => hasD a || hasD b
  | _ => false

def codeD (P : Program) (G : CTab) (R : RTab) (nt : Nat) : Nat → Code → Ts → SH → Ds → DK → Prop
  | 0, _, _, _, _, _ => False
  | n + 1, c, ts, sh, ds, K => if hasD c = true then (match c with
    | .region _ ops false => opsD P G nt ops.toList ts sh ds (fun ts sh ds => K .normal ts sh ds)
    | .seq x y => codeD P G R nt n x ts sh ds (fun e ts sh ds => match e with
      | .normal => codeD P G R nt n y ts sh ds K
      | e => K e ts sh ds)
    | .cond c x y => ev1 ts c (fun v => match v with
      | .bool b => ifB b (codeD P G R nt n x ts sh ds K) (codeD P G R nt n y ts sh ds K)
      | _ => False)
    | .block id b => codeD P G R nt n b ts sh ds (fun e ts sh ds => match e with
      | .exit id' => if id' = id then K .normal ts sh ds else K (.exit id') ts sh ds
      | e => K e ts sh ds)
    | _ => False) else codeW P G R (fun _ => none) nt 100000 c ts sh (fun e ts sh => K e ts sh ds)

theorem CodeD.mono {P nt c ts sh ds} {K K' : DK} (h : CodeD P nt c ts sh ds K) (hk : ∀ e ts sh ds, K e ts sh ds → K' e ts sh ds) : CodeD P nt c ts sh ds K' :=
  fun ρ w a h1 h2 h3 h4 => wp_mono (h ρ w a h1 h2 h3 h4) fun _ _ _ ⟨e, ts', sh', ds', ρ', a1, a2, a3⟩ => ⟨e, ts', sh', ds', ρ', a1, hk _ _ _ _ a2, a3⟩

theorem CodeD.seq {P nt x y ts sh ds} {K : DK} (h : CodeD P nt x ts sh ds (fun e ts sh ds => match e with | .normal => CodeD P nt y ts sh ds K | e => K e ts sh ds)) : CodeD P nt (.seq x y) ts sh ds K := by
  intro ρ w a h1 h2 h3 h4
  refine wp_seq (wp_mono (h ρ w a h1 h2 h3 h4) ?_)
  rintro ex a' w' ⟨e, ts', sh', ds', ρ', rfl, k1, k2, k3, k4, k5, k6⟩
  cases e with
  | normal =>
    refine wp_mono (k1 ρ' w' a' k5 k2 k3 k4) ?_
    rintro ex a2 w2 ⟨e2, ts2, sh2, ds2, ρ2, rfl, g1, g2, g3, g4, g5, g6⟩
    exact ⟨e2, ts2, sh2, ds2, ρ2, rfl, g1, g2, g3, g4, g5, k6.trans g6⟩
  | ret => exact ⟨.ret, ts', sh', ds', ρ', rfl, k1, k2, k3, k4, k5, k6⟩
  | exit id => exact ⟨.exit id, ts', sh', ds', ρ', rfl, k1, k2, k3, k4, k5, k6⟩

theorem codeD_sound {P : Program} {G : CTab} (hG : GOk P G) {R : RTab} {nt : Nat} : ∀ (n : Nat) (c : Code), ROk P nt R (drawsOf c) → ∀ ts sh ds K, codeD P G R nt n c ts sh ds K → CodeD P nt c ts sh ds K := by
  intro n
  induction n with
  | zero => intro c _ ts sh ds K h; exact h.elim
  | succ n ih =>
    intro c hR ts sh ds K h
    by_cases hd : hasD c = true
    · unfold codeD at h
      rw [if_pos hd] at h
      cases c <;> (try exact h.elim)
      case region id ops draw =>
        cases draw with
        | true => exact h.elim
        | false =>
          intro ρ w a h1 h2 h3 h4
          refine wp_region_list (opsD_sound hG _ _ _ _ _ ρ w a h h1 h2 h3 h4 ?_)
          intro ts' sh' ds' ρ' w' a' k1 k2 k3 k4 k5 k6
          exact ⟨.normal, ts', sh', ds', ρ', rfl, k1, k2, k3, k4, k5, k6⟩
      case seq x y =>
        have rx : ROk P nt R (drawsOf x) := hR.sub fun b hb => List.mem_append_left _ hb
        have ry : ROk P nt R (drawsOf y) := hR.sub fun b hb => List.mem_append_right _ hb
        refine CodeD.seq ((ih x rx _ _ _ _ h).mono ?_)
        intro e ts' sh' ds' hk
        cases e with
        | normal => exact ih y ry _ _ _ _ hk
        | ret => exact hk
        | exit id => exact hk
      case cond c x y =>
        have rx : ROk P nt R (drawsOf x) := hR.sub fun b hb => List.mem_append_left _ hb
        have ry : ROk P nt R (drawsOf y) := hR.sub fun b hb => List.mem_append_right _ hb
        intro ρ w a h1 h2 h3 h4
        obtain ⟨v, k1, k2⟩ := ev1_spec h2 h
        split at k1
        · rename_i b
          have hc : a.eval c = .bool b := by generalize a.eval c = u at k2; cases k2; rfl
          rcases ifB_or k1 with ⟨rfl, k1⟩ | ⟨rfl, k1⟩
          · exact wp_cond_true hc (ih x rx _ _ _ _ k1 ρ w a h1 h2 h3 h4)
          · exact wp_cond_false hc (ih y ry _ _ _ _ k1 ρ w a h1 h2 h3 h4)
        · exact k1.elim
      case block id b =>
        intro ρ w a h1 h2 h3 h4
        refine wp_block (wp_mono (ih b hR _ _ _ _ h ρ w a h1 h2 h3 h4) ?_)
        rintro ex a' w' ⟨e, ts', sh', ds', ρ', rfl, k1, k2, k3, k4, k5, k6⟩
        cases e with
        | normal => exact ⟨.normal, ts', sh', ds', ρ', rfl, k1, k2, k3, k4, k5, k6⟩
        | ret => exact ⟨.ret, ts', sh', ds', ρ', rfl, k1, k2, k3, k4, k5, k6⟩
        | exit id' =>
          simp only [Ex.to, Exit.inBlock] at k1 ⊢
          split
          · rename_i hid
            rw [if_pos hid] at k1
            exact ⟨.normal, ts', sh', ds', ρ', rfl, k1, k2, k3, k4, k5, k6⟩
          · rename_i hid
            rw [if_neg hid] at k1
            exact ⟨.exit id', ts', sh', ds', ρ', rfl, k1, k2, k3, k4, k5, k6⟩
    · unfold codeD at h
      rw [if_neg hd] at h
      exact (codeW_sound hG 100000 c hR (fun b _ spec hs => by cases hs) _ _ _ h).d

/-- a deferred call, of a function that has a body -/
def CallTD (P : Program) (f : FuncId) (args : List SV) (sh : SH) (K : SV → SH → Prop) : Prop :=
  enterable P f = true ∧ ∀ (ρ : Inj) (w : World) (args' : List Value) (u : FrameMode), Rep ρ sh w.heap → VRels ρ args args' →
    CallsD P f args'.toArray u w (fun e u' w' => u' = u ∧ ∃ v v' sh' ρ', e = .returned v' ∧ K v sh' ∧ VRel ρ' v v' ∧ Rep ρ' sh' w'.heap ∧ Step ρ sh w ρ' sh' w')

def GDOk (P : Program) (G : CTab) : Prop := ∀ f args sh K, G f args sh K → CallTD P f args sh K

/-- the deferred calls, and then the results -/
def runDs (P : Program) (GD : CTab) (ts : Ts) (res : List ResultVar) (K : SV → SH → Prop) : Ds → SH → Prop
  | [], sh => resW P ts sh res (fun vs => K (resV vs) sh)
  | (f, args) :: ds, sh => GD f args sh (fun _ sh' => runDs P GD ts res K ds sh')

theorem leaves_sound {P : Program} {GD : CTab} (hG : GDOk P GD) {fn : Func} {ts : Ts} {tmps : Array Value} {K : SV → SH → Prop} {ρ0 : Inj} {sh0 : SH} {w0 : World} : ∀ (ds : Ds) (ds' : List Deferred) (sh : SH) (ρ : Inj) (w : World),
    runDs P GD ts fn.results.toList K ds sh → DRel ρ ds ds' → Rep ρ sh w.heap → TRel ρ ts tmps → Step ρ0 sh0 w0 ρ sh w →
    Leaves P fn tmps (fun e w' => ∃ v v' sh' ρ', e = .returned v' ∧ K v sh' ∧ VRel ρ' v v' ∧ Rep ρ' sh' w'.heap ∧ Step ρ0 sh0 w0 ρ' sh' w') ds' .returning w
  | [], _, sh, ρ, w, h, .nil, h1, h2, h3 => by
    obtain ⟨vs, vs', g1, g2, g3⟩ := resW_run (P := P) h1 h2 _ _ h
    obtain ⟨v', g4, g5⟩ := results_run g2 g3
    exact ⟨v', g4, _, v', sh, ρ, rfl, g1, g5, h1, h3⟩
  | (f, args) :: ds, _, sh, ρ, w, h, .cons (cap := cap) (dargs := dargs) (ds' := ds') hv hr, h1, h2, h3 => by
    obtain ⟨hen, hc⟩ := hG _ _ _ _ h
    have hc' := hc ρ w _ .returning h1 hv
    refine leaves_cons (f := f) (args := dargs ++ cap) (by simp) (by simp only [invoke]; exact run_callFunc w hen) ?_
    simp only [Array.toArray_toList] at hc'
    refine hc'.mono ?_
    rintro e u' w' ⟨rfl, v, v', sh', ρ', rfl, k1, k2, k3, k4⟩
    exact leaves_sound hG ds ds' sh' ρ' w' k1 (hr.mono k4.le) k3 (h2.mono k4.le) (h3.trans k4)

def finD (P : Program) (GD : CTab) (res : List ResultVar) (K : SV → SH → Prop) : DK := fun e ts sh ds => match e with
  | .exit _ => False
  | _ => runDs P GD ts res K ds sh

theorem args_rel {ρ : Inj} {nt : Nat} {args : List SV} {args' : List Value} (hargs : VRels ρ args args') : TRel ρ (argTs 0 args) (args'.toArray ++ Array.replicate (nt - args'.toArray.size) undef) := by
  intro t v hv
  obtain ⟨_, h2⟩ := argTs_look args 0 t v hv
  obtain ⟨v', h3, h4⟩ := hargs.get t v (by simpa using h2)
  refine ⟨v', ?_, h4⟩
  have hlt := (List.getElem?_eq_some_iff.1 h3).1
  rw [Array.getElem?_append_left (by simpa using hlt)]
  simpa using h3

theorem CallT.of_codeD {P : Program} {f : FuncId} {fn : Func} {c : Code} {G GD : CTab} {R : RTab} {n : Nat} {args : List SV} {sh : SH} {K : SV → SH → Prop} (hG : GOk P G) (hGD : GDOk P GD) (hf : P.funcs[f]? = some fn) (hb : fn.body = some c)
    (hR : ROk P fn.ntmps R (drawsOf c)) (hlen : args.length ≤ fn.ntmps) (h : codeD P G R fn.ntmps n c (argTs 0 args) sh [] (finD P GD fn.results.toList K)) : CallT P f args sh K := by
  intro ρ w args' hρ hargs
  have hal := hargs.length
  refine calls_of_wp_defers hf hb ?_
  refine wp_mono (codeD_sound hG n c hR _ _ _ _ h ρ w _ hρ (args_rel hargs) (by simp; omega) .nil) ?_
  rintro ex a' w' ⟨e, ts', sh', ds', ρ', rfl, k1, k2, k3, k4, k5, k6⟩
  cases e with
  | normal => exact leaves_sound hGD _ _ _ _ _ k1 k4 k5 k2 k6
  | ret => exact leaves_sound hGD _ _ _ _ _ k1 k4 k5 k2 k6
  | exit id => exact k1.elim

theorem CallTD.of_code {P : Program} {f : FuncId} {fn : Func} {c : Code} {G : CTab} {R : RTab} {L : LTab} {n : Nat} {args : List SV} {sh : SH} {K : SV → SH → Prop} (hG : GOk P G) (hen : enterable P f = true) (hf : P.funcs[f]? = some fn) (hb : fn.body = some c)
    (hR : ROk P fn.ntmps R (drawsOf c)) (hL : LOk P fn.ntmps L (loopsOf c)) (hlen : args.length ≤ fn.ntmps) (h : codeW P G R L fn.ntmps n c (argTs 0 args) sh (finW P fn.results.toList K)) : CallTD P f args sh K := by
  refine ⟨hen, ?_⟩
  intro ρ w args' u hρ hargs
  have hal := hargs.length
  refine callsD_of_wp (R := fun e w' => ∃ v v' sh' ρ', e = .returned v' ∧ K v sh' ∧ VRel ρ' v v' ∧ Rep ρ' sh' w'.heap ∧ Step ρ sh w ρ' sh' w') hf hb ?_
  refine wp_mono (codeW_sound hG n c hR hL _ _ _ h ρ w _ hρ (args_rel hargs) (by simp; omega)) ?_
  rintro ex a' w' ⟨e, ts', sh', ρ', rfl, k1, k2, k3, k4, k5, k6⟩
  have fin : resW P ts' sh' fn.results.toList (fun vs => K (resV vs) sh') → a'.defers = [] ∧ ∃ v, (results fn a'.tmps).run P w' = .ok v w' ∧
      ∃ u v' sh' ρ', Ending.returned v = .returned v' ∧ K u sh' ∧ VRel ρ' u v' ∧ Rep ρ' sh' w'.heap ∧ Step ρ sh w ρ' sh' w' := by
    intro hr
    obtain ⟨vs, vs', g1, g2, g3⟩ := resW_run (P := P) k5 k2 _ _ hr
    obtain ⟨v', g4, g5⟩ := results_run g2 g3
    exact ⟨k4, v', g4, _, v', sh', ρ', rfl, g1, g5, k5, k6⟩
  cases e with
  | normal => exact fin k1
  | ret => exact fin k1
  | exit id => exact k1.elim

/-! ## calls that are walked into -/

def deferG (P : Program) (A : RAll) (G : CTab) : CTab := fun f args sh K => match P.funcs[f]? with
  | some fn => match fn.body with
    | some c => if args.length ≤ fn.ntmps then codeW P G (findA A f) (fun _ => none) fn.ntmps 100000 c (argTs 0 args) sh (finW P fn.results.toList K) else False
    | none => False
  | none => False

def inG (P : Program) (T : TTab) (A : RAll) : Nat → CTab
  | 0, _, _, _, _ => False
  | n + 1, f, args, sh, K => match findT T f with
    | some pt => pt args sh K
    | none => match P.funcs[f]? with
      | some fn => match fn.body with
        | some c => if args.length ≤ fn.ntmps then (if hasD c = true then codeD P (inG P T A n) (findA A f) fn.ntmps 100000 c (argTs 0 args) sh [] (finD P (deferG P A (inG P T A n)) fn.results.toList K)
            else codeW P (inG P T A n) (findA A f) (fun _ => none) fn.ntmps 100000 c (argTs 0 args) sh (finW P fn.results.toList K)) else False
        | none => False
      | none => False

theorem allIn_spec {P : Program} {A : RAll} (hA : allIn (numbered 0 P.funcs.toList) A = true) {f : FuncId} {fn : Func} {c : Code} (hf : P.funcs[f]? = some fn) (hb : fn.body = some c) : enterable P f = true ∧ rOk fn.ntmps (findA A f) (drawsOf c) = true := by
  have hmem : (f, fn) ∈ numbered 0 P.funcs.toList := by
    have := mem_numbered (n := 0) (l := P.funcs.toList) (i := f) (f := fn) (by rw [Array.getElem?_toList]; exact hf)
    simpa using this
  unfold allIn at hA
  rw [List.all_eq_true] at hA
  have := hA (f, fn) hmem
  simp only [hb, Bool.and_eq_true] at this
  refine ⟨?_, this.2⟩
  unfold enterable
  rw [hf]
  simp only [this.1, hb, Option.isSome_some, Bool.and_self]

theorem deferG_ok {P : Program} {A : RAll} (hm : P.follows .mixedOrders = true) (hA : allIn (numbered 0 P.funcs.toList) A = true) {G : CTab} (hG : GOk P G) : GDOk P (deferG P A G) := by
  intro f args sh K h
  unfold deferG at h
  split at h
  · rename_i fn hf
    split at h
    · rename_i c hb
      split at h
      · rename_i hlen
        obtain ⟨h1, h2⟩ := allIn_spec hA hf hb
        exact CallTD.of_code hG h1 hf hb (ROk.of hm h2) (fun b _ spec hs => by cases hs) hlen h
      · exact h.elim
    · exact h.elim
  · exact h.elim

theorem inG_ok {P : Program} {T : TTab} {A : RAll} (hm : P.follows .mixedOrders = true) (hA : allIn (numbered 0 P.funcs.toList) A = true) (hT : TOk P T) : ∀ n, GOk P (inG P T A n)
  | 0 => fun _ _ _ _ h => h.elim
  | n + 1 => by
    have ih := inG_ok hm hA hT n
    intro f args sh K h
    simp only [inG] at h
    split at h
    · rename_i pt hpt; exact hT f pt hpt args sh K h
    · split at h
      · rename_i fn hf
        split at h
        · rename_i c hb
          split at h
          · rename_i hlen
            obtain ⟨h1, h2⟩ := allIn_spec hA hf hb
            split at h
            · exact CallT.ct (CallT.of_codeD ih (deferG_ok hm hA ih) hf hb (ROk.of hm h2) hlen h) h1
            · exact CallT.ct (CallT.of_code ih hf hb (ROk.of hm h2) (fun b _ spec hs => by cases hs) hlen h) h1
          · exact h.elim
        · exact h.elim
      · exact h.elim

end Go.Rv
