/- A part of the evaluator of the model's code, or of its tables: what is proved is said in the claim's last text. -/
import Derived.Test.YtjhdfldadcbkkaaGreatRv12
import Derived.Test.YtjhdfldadcbkkaaGreatRvI
namespace Go.Rv

def ev1 (ts : Ts) (x : Operand) (K : SV → Prop) : Prop :=
  match evS ts x with
  | some v => K v
  | none => False

def evL (ts : Ts) : List Operand → (List SV → Prop) → Prop
  | [], K => K []
  | x :: l, K => ev1 ts x (fun v => evL ts l (fun vs => K (v :: vs)))

def evP (ts : Ts) : List (Nat × Operand) → (List (Nat × SV) → Prop) → Prop
  | [], K => K []
  | (i, x) :: l, K => ev1 ts x (fun v => evP ts l (fun vs => K ((i, v) :: vs)))

def evO (ts : Ts) : Option Operand → (Option SV → Prop) → Prop
  | none, K => K none
  | some x, K => ev1 ts x (fun v => K (some v))

theorem ev1_spec {ρ : Inj} {ts x K} {a : Act} (ht : TRel ρ ts a.tmps) (h : ev1 ts x K) : ∃ v, K v ∧ VRel ρ v (a.eval x) := by
  unfold ev1 at h
  split at h
  · rename_i v hv; exact ⟨v, h, evS_rel ht hv⟩
  · exact h.elim

theorem evL_spec {ρ : Inj} {ts} {a : Act} (ht : TRel ρ ts a.tmps) : ∀ (l : List Operand) (K : List SV → Prop), evL ts l K → ∃ vs, K vs ∧ VRels ρ vs (l.map a.eval)
  | [], K, h => ⟨[], h, .nil⟩
  | x :: l, K, h => by
    obtain ⟨v, h1, h2⟩ := ev1_spec ht h
    obtain ⟨vs, h3, h4⟩ := evL_spec ht l _ h1
    exact ⟨v :: vs, h3, .cons h2 h4⟩

theorem evP_spec {ρ : Inj} {ts} {a : Act} (ht : TRel ρ ts a.tmps) : ∀ (l : List (Nat × Operand)) (K : List (Nat × SV) → Prop), evP ts l K → ∃ vs, K vs ∧ PRel ρ vs (l.map fun (i, x) => (i, a.eval x))
  | [], K, h => ⟨[], h, .nil⟩
  | (i, x) :: l, K, h => by
    obtain ⟨v, h1, h2⟩ := ev1_spec ht h
    obtain ⟨vs, h3, h4⟩ := evP_spec ht l _ h1
    exact ⟨(i, v) :: vs, h3, .cons h2 h4⟩

theorem evO_spec {ρ : Inj} {ts} {a : Act} (ht : TRel ρ ts a.tmps) (x : Option Operand) (K : Option SV → Prop) (h : evO ts x K) : ∃ v, K v ∧ ORel ρ v (x.map a.eval) := by
  cases x with
  | none => exact ⟨none, h, .none⟩
  | some x =>
    obtain ⟨v, h1, h2⟩ := ev1_spec ht h
    exact ⟨some v, h1, .some h2⟩

abbrev PT := List SV → SH → (SV → SH → Prop) → Prop
abbrev CTab := FuncId → PT

/-- what a call comes to -/
def CallT (P : Program) (f : FuncId) (args : List SV) (sh : SH) (K : SV → SH → Prop) : Prop :=
  ∀ (ρ : Inj) (w : World) (args' : List Value), Rep ρ sh w.heap → VRels ρ args args' →
    Calls P f args'.toArray w (fun e w' => ∃ v v' sh' ρ', e = .returned v' ∧ K v sh' ∧ VRel ρ' v v' ∧ Rep ρ' sh' w'.heap ∧ Step ρ sh w ρ' sh' w')

def enterable (P : Program) (f : FuncId) : Bool :=
  match P.funcs[f]? with
  | some fn => !(fn.name == "runtime.NumGoroutine") && fn.body.isSome
  | none => false

theorem run_callFunc {P : Program} {f args} (w : World) (h : enterable P f = true) : (callFunc f args).run P w = .ok (.enter f args) w := by
  unfold enterable at h
  split at h
  · rename_i fn hf
    simp only [Bool.and_eq_true, Bool.not_eq_true'] at h
    have hn : ¬ fn.name = "runtime.NumGoroutine" := by simpa using h.1
    have hb : ¬ fn.body = none := by cases hh : fn.body <;> simp [hh] at h ⊢
    simp [callFunc, hf, hn, hb]
  · cases h

/-- a call, whether it enters a body or is the model's own -/
def CT (P : Program) (f : FuncId) (args : List SV) (sh : SH) (K : SV → SH → Prop) : Prop :=
  ∀ (ρ : Inj) (w : World) (args' : List Value), Rep ρ sh w.heap → VRels ρ args args' →
    (enterable P f = true ∧ Calls P f args'.toArray w (fun e w' => ∃ v v' sh' ρ', e = .returned v' ∧ K v sh' ∧ VRel ρ' v v' ∧ Rep ρ' sh' w'.heap ∧ Step ρ sh w ρ' sh' w')) ∨
    (∃ v v' sh' ρ' w', (callFunc f args'.toArray).run P w = .ok (.value v') w' ∧ K v sh' ∧ VRel ρ' v v' ∧ Rep ρ' sh' w'.heap ∧ Step ρ sh w ρ' sh' w')

theorem CallT.ct {P : Program} {f args sh K} (h : CallT P f args sh K) (he : enterable P f = true) : CT P f args sh K :=
  fun ρ w args' h1 h2 => .inl ⟨he, h ρ w args' h1 h2⟩

def GOk (P : Program) (G : CTab) : Prop := ∀ f args sh K, G f args sh K → CT P f args sh K

def arrayAtS (P : Program) (t : TypeId) (x : SV) (K : SV → Prop) : Prop :=
  match P.underlying t, x with
  | some (.array (n + 1) _), .slice id i j len _ => ifB (decide (n + 1 ≤ len)) (K (.ptr id i j 0)) False
  | _, _ => False

theorem arrayAt_sound {P t x K ρ} {w : World} {x'} (h : arrayAtS P t x K) (hx : VRel ρ x x') : Quiet P (Instr.arrayAt t x') ρ w K := by
  unfold arrayAtS at h
  split at h
  · rename_i n e id i j len cap hu
    obtain ⟨hb, h⟩ := ifB_yes h
    have hb := of_decide_eq_true hb
    obtain ⟨en, off, cap', he, rfl, ho, hc, hlen, htop⟩ := sane_slice hx
    have hn : ¬ len < n + 1 := by omega
    exact ⟨_, _, h, .ptr he (o := off) (by have := ho (by omega); omega), by simp [Instr.arrayAt, run_underlying hu, hn]⟩
  · exact h.elim

def builtinS (P : Program) (b : Builtin) (tys : List TypeId) (sh : SH) (vs : List SV) (K : SV → SH → Prop) : Prop :=
  match b, tys, vs with
  | .len, [t], [x] => lenS P t sh x (fun v => K v sh)
  | .append, [t, u], [x, y] => appendS P t u sh x y K
  | .copy, [t, _], [x, y] => copyS P t sh x y K
  | .delete, t :: _, [x, y] => deleteS P t sh x y (fun sh' => K (.tuple []) sh')
  | .max, _, vs => maxS vs (fun v => K v sh)
  | .min, _, vs => minS vs (fun v => K v sh)
  | _, _, _ => False

def opW (P : Program) (G : CTab) (ts : Ts) (sh : SH) (o : Op) (K : SV → SH → Prop) : Prop :=
  match o with
  | .move x | .assign x => ev1 ts x (fun v => K v sh)
  | .pick c a b => ev1 ts c (fun v => match v with
    | .bool r => ifB r (ev1 ts a (fun v => K v sh)) (ev1 ts b (fun v => K v sh))
    | _ => False)
  | .alloc t => allocS P t sh K
  | .box t x => ev1 ts x (fun v => boxS t v sh K)
  | .build t ps => evP ts ps.toList (fun l => buildS P t l (fun v => K v sh))
  | .buildSlice t n ps => evP ts ps.toList (fun l => buildSliceS P t n l sh K)
  | .load t x => ev1 ts x (fun v => loadS P t sh v (fun v => K v sh))
  | .store t x y => ev1 ts x (fun v => ev1 ts y (fun u => storeS P t sh v u (fun sh' => K (.tuple []) sh')))
  | .nilCheck x => ev1 ts x (fun v => nilCheckS v (fun v => K v sh))
  | .binOp op t x y _ => ev1 ts x (fun v => ev1 ts y (fun u => binS P op t x y v u (fun v => K v sh)))
  | .unOp op _ x => ev1 ts x (fun v => unS op v (fun v => K v sh))
  | .convert s d x => ev1 ts x (fun v => convertS P s d sh v (fun v => K v sh))
  | .sliceToArrayPointer t x => ev1 ts x (fun v => arrayAtS P t v (fun v => K v sh))
  | .makeInterface t x => ev1 ts x (fun v => makeIfaceS P t v (fun v => K v sh))
  | .makeFunc fn first cap => evL ts first.toList (fun l => evL ts cap.toList (fun m => K (.func fn l m) sh))
  | .makeSlice t l c => ev1 ts l (fun v => ev1 ts c (fun u => makeSliceS P t v u sh K))
  | .slice t x l h m => ev1 ts x (fun v => evO ts l (fun l => evO ts h (fun h => evO ts m (fun m => sliceS P t sh v l h m (fun v => K v sh)))))
  | .fieldAddr t x f => ev1 ts x (fun v => fieldAddrS P t v f (fun v => K v sh))
  | .field t x f => ev1 ts x (fun v => fieldS P t v f (fun v => K v sh))
  | .indexAddr t x i => ev1 ts x (fun v => ev1 ts i (fun u => indexAddrS P t sh v u (fun v => K v sh)))
  | .index t x i => ev1 ts x (fun v => ev1 ts i (fun u => indexS P t v u (fun v => K v sh)))
  | .lookup t m k ok => ev1 ts m (fun v => ev1 ts k (fun u => lookupS P t sh v u ok (fun v => K v sh)))
  | .makeMap _ none => makeMapS sh none K
  | .mapUpdate t m k x => ev1 ts m (fun v => ev1 ts k (fun u => ev1 ts x (fun z => mapUpdateS P t sh v u z (fun sh' => K (.tuple []) sh'))))
  | .typeAssert x _ t ok => ev1 ts x (fun v => typeAssertS P v t ok (fun v => K v sh))
  | .range t x => ev1 ts x (fun v => rangeS P t sh v K)
  | .next x false => ev1 ts x (fun v => nextS sh v (fun v => K v sh))
  | .extract x i => ev1 ts x (fun v => extractS v i (fun v => K v sh))
  | .call c => match c.callee with
    | .builtin b => evL ts c.args.toList (fun vs => builtinS P b c.argTypes.toList sh vs K)
    | .value x => ev1 ts x (fun v => match v with
      | .func (.func f) first cap => evL ts c.args.toList (fun vs => G f (first ++ vs ++ cap) sh K)
      | _ => False)
    | .invoke _ _ => False
  | _ => False

/-- what follows an operation -/
def Nexts (ρ : Inj) (sh : SH) (w : World) (o : Oper) (a : Act) (K : SV → SH → Prop) (next : Act → World → Prop) : Prop :=
  ∀ v v' sh' ρ' w', K v sh' → VRel ρ' v v' → Rep ρ' sh' w'.heap → Step ρ sh w ρ' sh' w' → next (a.put o.dst v') w'

theorem of_res {P : Program} {s : Sem Value} {ρ sh w o a K next Q} (h : Res P s ρ sh w K) (hn : Nexts ρ sh w o a K next) (he : (execOp a.eval o) = (do pure (.value (← s)))) : o.wp P a w next Q := by
  obtain ⟨v, v', sh', ρ', w', h1, h2, h3, h4, h5⟩ := h
  have := hn v v' sh' ρ' w' h2 h3 h4 h5
  simp only [Oper.wp, he, Sem.run_bind, h1, Result.andThen_ok, Sem.run_pure, Oper.upon_value]
  exact this

theorem of_quiet {P : Program} {s : Sem Value} {ρ sh w o a} {K : SV → SH → Prop} {next Q} (h : Quiet P s ρ w (fun v => K v sh)) (hρ : Rep ρ sh w.heap) (hn : Nexts ρ sh w o a K next) (he : (execOp a.eval o) = (do pure (.value (← s)))) : o.wp P a w next Q := by
  obtain ⟨v, v', h1, h2, h3⟩ := h
  exact of_res ⟨v, v', sh, ρ, w, h3, h1, h2, hρ, Step.refl _ _ _⟩ hn he

theorem VRels.append {ρ : Inj} {a b a' b'} (h : VRels ρ a a') (k : VRels ρ b b') : VRels ρ (a ++ b) (a' ++ b') := by
  induction h with
  | nil => exact k
  | cons x _ ih => exact .cons x ih

theorem VRels.of_get {ρ : Inj} : ∀ (l : List SV) (vs : Array Value), vs.size = l.length → (∀ i v, l[i]? = some v → VRel ρ v (vs.getD i undef)) → VRels ρ l vs.toList := by
  intro l vs
  obtain ⟨vs⟩ := vs
  induction l generalizing vs with
  | nil => intro h _; simp at h; subst h; exact .nil
  | cons v l ih =>
    intro h hv
    cases vs with
    | nil => simp at h
    | cons u vs =>
      refine .cons (by simpa using hv 0 v rfl) (ih vs (by simpa using h) (fun i w hw => ?_))
      have := hv (i + 1) w (by simpa using hw)
      simpa [Array.getD_eq_getD_getElem?] using this

set_option maxHeartbeats 4000000 in
theorem opW_sound {P : Program} {G : CTab} (hG : GOk P G) {ts sh} {o : Oper} {K ρ} {w : World} {a : Act} {next Q} (h : opW P G ts sh o.op K) (hρ : Rep ρ sh w.heap) (ht : TRel ρ ts a.tmps)
    (hn : Nexts ρ sh w o a K next) : o.wp P a w next Q := by
  obtain ⟨dst, op, type, pos, after, guard⟩ := o
  cases op <;> simp only [opW] at h <;> (try exact h.elim)
  case move x =>
    obtain ⟨v, h1, h2⟩ := ev1_spec ht h
    have := hn _ _ _ _ _ h1 h2 hρ (Step.refl _ _ _)
    simpa only [Oper.wp, execOp, Sem.run_pure, Oper.upon_value] using this
  case assign x =>
    obtain ⟨v, h1, h2⟩ := ev1_spec ht h
    have := hn _ _ _ _ _ h1 h2 hρ (Step.refl _ _ _)
    simpa only [Oper.wp, execOp, Sem.run_pure, Oper.upon_value] using this
  case pick c x y =>
    obtain ⟨v, h1, h2⟩ := ev1_spec ht h
    split at h1
    · rename_i r
      have hc : a.eval c = .bool r := by generalize a.eval c = u at h2; cases h2; rfl
      rcases ifB_or h1 with ⟨hr, h1⟩ | ⟨hr, h1⟩
      · obtain ⟨u, h3, h4⟩ := ev1_spec ht h1
        have := hn _ _ _ _ _ h3 h4 hρ (Step.refl _ _ _)
        simpa only [Oper.wp, execOp, hc, hr, asBool, Sem.run_bind, Sem.run_pure, Result.andThen_ok, if_true, Oper.upon_value] using this
      · obtain ⟨u, h3, h4⟩ := ev1_spec ht h1
        have := hn _ _ _ _ _ h3 h4 hρ (Step.refl _ _ _)
        simpa only [Oper.wp, execOp, hc, hr, asBool, Sem.run_bind, Sem.run_pure, Result.andThen_ok, Bool.false_eq_true, if_false, Oper.upon_value] using this
    · exact h1.elim
  case alloc t => exact of_res (alloc_sound h hρ) hn rfl
  case box t x =>
    obtain ⟨v, h1, h2⟩ := ev1_spec ht h
    exact of_res (box_sound h1 hρ h2) hn rfl
  case build t ps =>
    obtain ⟨l, h1, h2⟩ := evP_spec ht _ _ h
    obtain ⟨v, v', h3, h4, h5⟩ := build_sound (P := P) (w := w) (ps' := ps.map fun (i, x) => (i, a.eval x)) h1 (by simpa using h2)
    exact of_quiet ⟨v, v', h3, h4, h5⟩ hρ hn rfl
  case buildSlice t n ps =>
    obtain ⟨l, h1, h2⟩ := evP_spec ht _ _ h
    exact of_res (buildSlice_sound (P := P) (ps' := ps.map fun (i, x) => (i, a.eval x)) h1 hρ (by simpa using h2)) hn rfl
  case load t x =>
    obtain ⟨v, h1, h2⟩ := ev1_spec ht h
    exact of_quiet (load_sound h1 hρ h2) hρ hn rfl
  case store t x y =>
    obtain ⟨v, h1, h2⟩ := ev1_spec ht h
    obtain ⟨u, h3, h4⟩ := ev1_spec ht h1
    obtain ⟨sh', w', h5, h6, h7, h8⟩ := store_sound h3 hρ h2 h4
    have := hn _ undef _ _ _ h5 (.tuple rfl (by simp)) h7 h8
    simpa only [Oper.wp, execOp, Sem.run_bind, h6, Result.andThen_ok, Sem.run_pure, Oper.upon_skip] using this
  case nilCheck x =>
    obtain ⟨v, h1, h2⟩ := ev1_spec ht h
    unfold nilCheckS at h1
    split at h1
    · rename_i id i j k
      have hv := h2
      generalize hu : a.eval x = u at h2
      cases h2 with
      | ptr he ho =>
      have := hn _ _ _ _ _ h1 hv hρ (Step.refl _ _ _)
      rw [hu] at this
      simpa only [Oper.wp, execOp, hu, Sem.run_pure, Oper.upon_value] using this
    · exact h1.elim
  case binOp op t x y t2 =>
    obtain ⟨v, h1, h2⟩ := ev1_spec ht h
    obtain ⟨u, h3, h4⟩ := ev1_spec ht h1
    exact of_quiet (bin_sound h3 h2 h4) hρ hn rfl
  case unOp op t x =>
    obtain ⟨v, h1, h2⟩ := ev1_spec ht h
    exact of_quiet (un_sound h1 h2) hρ hn rfl
  case convert s d x =>
    obtain ⟨v, h1, h2⟩ := ev1_spec ht h
    exact of_quiet (convert_sound h1 hρ h2) hρ hn rfl
  case sliceToArrayPointer t x =>
    obtain ⟨v, h1, h2⟩ := ev1_spec ht h
    exact of_quiet (arrayAt_sound h1 h2) hρ hn rfl
  case makeInterface t x =>
    obtain ⟨v, h1, h2⟩ := ev1_spec ht h
    exact of_quiet (makeIface_sound h1 h2) hρ hn rfl
  case makeFunc fn first cap =>
    obtain ⟨l, h1, h2⟩ := evL_spec ht _ _ h
    obtain ⟨m, h3, h4⟩ := evL_spec ht _ _ h1
    refine of_quiet (s := Instr.makeFunc fn (first.map a.eval) (cap.map a.eval)) ⟨_, _, h3, .func (fs := first.map a.eval) (cs := cap.map a.eval) ?_ ?_ ?_ ?_, rfl⟩ hρ hn rfl
    · simpa using h2.length.symm
    · intro i v hv
      obtain ⟨v', e1, e2⟩ := h2.get i v hv
      have e3 : (first.map a.eval)[i]? = some v' := by rw [← e1]; simp
      rw [Array.getD_eq_getD_getElem?, e3]; exact e2
    · simpa using h4.length.symm
    · intro i v hv
      obtain ⟨v', e1, e2⟩ := h4.get i v hv
      have e3 : (cap.map a.eval)[i]? = some v' := by rw [← e1]; simp
      rw [Array.getD_eq_getD_getElem?, e3]; exact e2
  case makeSlice t l c =>
    obtain ⟨v, h1, h2⟩ := ev1_spec ht h
    obtain ⟨u, h3, h4⟩ := ev1_spec ht h1
    exact of_res (makeSlice_sound h3 hρ h2 h4) hn rfl
  case slice t x lo hi mx =>
    obtain ⟨v, h1, h2⟩ := ev1_spec ht h
    obtain ⟨l, h3, h4⟩ := evO_spec ht _ _ h1
    obtain ⟨hh, h5, h6⟩ := evO_spec ht _ _ h3
    obtain ⟨m, h7, h8⟩ := evO_spec ht _ _ h5
    exact of_quiet (slice_sound h7 hρ h2 h4 h6 h8) hρ hn rfl
  case fieldAddr t x f =>
    obtain ⟨v, h1, h2⟩ := ev1_spec ht h
    exact of_quiet (fieldAddr_sound h1 h2) hρ hn rfl
  case field t x f =>
    obtain ⟨v, h1, h2⟩ := ev1_spec ht h
    exact of_quiet (field_sound h1 h2) hρ hn rfl
  case indexAddr t x i =>
    obtain ⟨v, h1, h2⟩ := ev1_spec ht h
    obtain ⟨u, h3, h4⟩ := ev1_spec ht h1
    exact of_quiet (indexAddr_sound h3 hρ h2 h4) hρ hn rfl
  case index t x i =>
    obtain ⟨v, h1, h2⟩ := ev1_spec ht h
    obtain ⟨u, h3, h4⟩ := ev1_spec ht h1
    exact of_quiet (index_sound h3 h2 h4) hρ hn rfl
  case lookup t m k ok =>
    obtain ⟨v, h1, h2⟩ := ev1_spec ht h
    obtain ⟨u, h3, h4⟩ := ev1_spec ht h1
    exact of_quiet (lookup_sound h3 hρ h2 h4) hρ hn rfl
  case makeMap t r =>
    cases r with
    | none => exact of_res (makeMap_sound (t := t) h hρ) hn rfl
    | some r => exact h.elim
  case mapUpdate t m k x =>
    obtain ⟨v, h1, h2⟩ := ev1_spec ht h
    obtain ⟨u, h3, h4⟩ := ev1_spec ht h1
    obtain ⟨z, h5, h6⟩ := ev1_spec ht h3
    obtain ⟨sh', w', h7, h8, h9, h10⟩ := mapUpdate_sound h5 hρ h2 h4 h6
    have := hn _ undef _ _ _ h7 (.tuple rfl (by simp)) h9 h10
    simpa only [Oper.wp, execOp, Sem.run_bind, h8, Result.andThen_ok, Sem.run_pure, Oper.upon_skip] using this
  case range t x =>
    obtain ⟨v, h1, h2⟩ := ev1_spec ht h
    exact of_res (range_sound h1 hρ h2) hn rfl
  case next x str =>
    cases str with
    | true => exact h.elim
    | false =>
      obtain ⟨v, h1, h2⟩ := ev1_spec ht h
      exact of_quiet (next_sound (ty := type) h1 hρ h2) hρ hn rfl
  case typeAssert x xt t ok =>
    obtain ⟨v, h1, h2⟩ := ev1_spec ht h
    exact of_quiet (typeAssert_sound h1 h2) hρ hn rfl
  case extract x i =>
    obtain ⟨v, h1, h2⟩ := ev1_spec ht h
    exact of_quiet (extract_sound h1 h2) hρ hn rfl
  case call c =>
    obtain ⟨callee, args, argTypes⟩ := c
    cases callee with
    | builtin b =>
      simp only at h
      obtain ⟨vs, h1, h2⟩ := evL_spec ht _ _ h
      have hargs : args.map a.eval = (args.toList.map a.eval).toArray := by apply Array.ext'; simp
      generalize args.toList.map a.eval = as at h2 hargs
      have hty : argTypes = argTypes.toList.toArray := by simp
      generalize argTypes.toList = tys at h1 hty
      unfold builtinS at h1
      split at h1
      · cases h2 with
        | cons h3 h4 =>
        cases h4
        exact of_quiet (s := Builtin.len_ argTypes type (args.map a.eval)) (by rw [hargs, hty]; exact len_sound h1 hρ h3) hρ hn rfl
      · cases h2 with
        | cons h3 h4 => cases h4 with
          | cons h4 h5 =>
          cases h5
          exact of_res (s := Builtin.append_ argTypes type (args.map a.eval)) (by rw [hargs, hty]; exact append_sound h1 hρ h3 h4) hn rfl
      · cases h2 with
        | cons h3 h4 => cases h4 with
          | cons h4 h5 =>
          cases h5
          exact of_res (s := Builtin.copy_ argTypes type (args.map a.eval)) (by rw [hargs, hty]; exact copy_sound h1 hρ h3 h4) hn rfl
      · cases h2 with
        | cons h3 h4 => cases h4 with
          | cons h4 h5 =>
          cases h5
          obtain ⟨sh', w', k1, k2, k3, k4⟩ := delete_sound (ty := type) h1 hρ h3 h4
          exact of_res (s := Builtin.delete_ argTypes type (args.map a.eval)) ⟨_, _, sh', _, w', by rw [hargs]; exact k2 argTypes (by rw [hty]; rfl), k1, .tuple rfl (by simp), k3, k4⟩ hn rfl
      · exact of_quiet (s := Builtin.max_ _ type (args.map a.eval)) (by rw [hargs]; exact max_sound h1 h2) hρ hn rfl
      · exact of_quiet (s := Builtin.min_ _ type (args.map a.eval)) (by rw [hargs]; exact min_sound h1 h2) hρ hn rfl
      · exact h1.elim
    | value x =>
      simp only at h
      obtain ⟨v, h1, h2⟩ := ev1_spec ht h
      split at h1
      · rename_i f first cap
        obtain ⟨vs, h3, h4⟩ := evL_spec ht _ _ h1
        generalize hu : a.eval x = u at h2
        cases h2 with
        | func f1 f2 f3 f4 =>
        rename_i fs cs
        have hA := ((VRels.of_get _ _ f1 f2).append h4).append (VRels.of_get _ _ f3 f4)
        have hcall := hG _ _ _ _ h3 ρ w _ hρ hA
        have hargs : (fs.toList ++ args.toList.map a.eval ++ cs.toList).toArray = fs ++ args.map a.eval ++ cs := by
          apply Array.ext'; simp
        rw [hargs] at hcall
        rcases hcall with ⟨hen, hcall⟩ | ⟨v, v', sh', ρ', w', hrun, k1, k2, k3, k4⟩
        · simp only [Oper.wp, execOp, resolve, hu, Deferred.ofValue, Sem.run_bind, Sem.run_pure, Result.andThen_ok, invoke, run_callFunc w hen, Oper.upon_enter]
          refine hcall.mono ?_
          rintro e w' ⟨v, v', sh', ρ', rfl, k1, k2, k3, k4⟩
          exact hn v v' sh' ρ' w' k1 k2 k3 k4
        · simp only [Oper.wp, execOp, resolve, hu, Deferred.ofValue, Sem.run_bind, Sem.run_pure, Result.andThen_ok, invoke, hrun, Oper.upon_value]
          exact hn v v' sh' ρ' w' k1 k2 k3 k4
      · exact h1.elim
    | invoke r m => exact h.elim

end Go.Rv
