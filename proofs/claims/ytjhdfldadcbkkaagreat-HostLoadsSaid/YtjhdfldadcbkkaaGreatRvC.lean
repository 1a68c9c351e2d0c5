/- A part of the evaluator of the model's code, or of its tables: what is proved is said in the claim's last text. -/
import Derived.Test.YtjhdfldadcbkkaaGreatRvB
namespace Go.Rv
set_option linter.unusedVariables false

/-- the same value, as far as the eye sees -/
def sameC : SV → SV → Bool
  | .int k a, .int k' b => decide (k = k') && eqI a b
  | .bool a, .bool b => a == b
  | .nilp, .nilp => true
  | .ptr a b c d, .ptr a' b' c' d' => a == a' && b == b' && c == c' && d == d'
  | .nils, .nils => true
  | .slice a b c d e, .slice a' b' c' d' e' => a == a' && b == b' && c == c' && d == d' && (match e, e' with
    | none, none => true
    | some x, some y => x == y
    | _, _ => false)
  | .nilm, .nilm => true
  | .map a, .map b => a == b
  | .nilf, .nilf => true
  | .nili, .nili => true
  | _, _ => false

theorem sameC_eq {u v : SV} (h : sameC u v = true) : u = v := by
  unfold sameC at h
  split at h <;> simp_all [eqI]
  split at h <;> simp_all

def sameL : List SV → List SV → Bool
  | [], [] => true
  | a :: l, b :: m => sameC a b && sameL l m
  | _, _ => false

theorem sameL_eq : ∀ {l m : List SV}, sameL l m = true → l = m
  | [], [], _ => rfl
  | a :: l, b :: m, h => by
    simp only [sameL, Bool.and_eq_true] at h
    rw [sameC_eq h.1, sameL_eq h.2]
  | [], _ :: _, h => by cases h
  | _ :: _, [], h => by cases h

def sameB (u v : SV) : Bool :=
  match u, v with
  | .agg l, .agg m => sameL l m
  | u, v => sameC u v

theorem sameB_eq {u v : SV} (h : sameB u v = true) : u = v := by
  unfold sameB at h
  split at h
  · rw [sameL_eq h]
  · exact sameC_eq h

def same (u v : SV) (R : Prop) : Prop := ifB (sameB u v) R (u = v ∧ R)

theorem same_iff {u v : SV} {R : Prop} (h : same u v R) : u = v ∧ R := by
  rcases ifB_or h with ⟨h1, h2⟩ | ⟨_, h2⟩
  · exact ⟨sameB_eq h1, h2⟩
  · exact h2

theorem same_rfl (v : SV) (R : Prop) : same v v R = R := by
  unfold same
  cases sameB v v <;> simp [ifB]

/-- what was loaded ahead is looked at again -/
def recW (P : Program) (G : CTab) (ops : Array Oper) (re : List Nat) : Pend → SH → Prop → Prop
  | [], _, R => R
  | p :: l, sh, R => if re.contains p.1 = true then (match ops[p.1]? with
    | some o => opW P G (restr p.2.1 (o.looksAt ops)) sh o.op (fun u _ => same u p.2.2 (recW P G ops re l sh R))
    | none => False) else recW P G ops re l sh R

def ordW (P : Program) (G : CTab) (nt : Nat) (ops : Array Oper) : List (Nat × List Nat) → Pend → Ts → SH → (Ts → SH → Prop) → Prop
  | [], _, ts, sh, K => K ts sh
  | (i, re) :: l, pend, ts, sh, K => match ops[i]? with
    | some o => guardS ops ts o.guard
      (fun ts1 => opW P G (restr ts1 (o.looksAt ops)) sh o.op (fun v sh' => bindS nt o.dst v ts1 (fun ts' =>
        if detO o.op = true then (if freeO o.op = true then ordW P G nt ops l pend ts' sh' K else ordW P G nt ops l ((i, ts1, v) :: pend) ts' sh' K)
        else recW P G ops re pend sh' (ordW P G nt ops l pend ts' sh' K))))
      (fun ts1 => bindS nt o.dst (.tuple []) ts1 (fun ts' =>
        if detO o.op = true then ordW P G nt ops l pend ts' sh K else recW P G ops re pend sh (ordW P G nt ops l pend ts' sh K)))
    | none => False

/-- whether an operation is wanted, as the shadow knows it -/
def Wants (ops : Array Oper) (o : Oper) (ts : Ts) (b : Bool) : Prop :=
  ∀ (ρ : Inj) (tmps : Array Value), TRelOn ρ (o.looksAt ops) ts tmps → Region.wanted o (yielded ops tmps) = b

theorem guardS_wants {ops : Array Oper} {ts : Ts} {o : Oper} {yes no : Ts → Prop} (h : guardS ops ts o.guard yes no) :
    ∃ ts1, (∀ t, look ts1 t = look ts t) ∧ ((Wants ops o ts true ∧ yes ts1) ∨ (Wants ops o ts false ∧ no ts1)) := by
  unfold guardS at h
  unfold Wants Region.wanted
  split at h
  · rename_i hg
    exact ⟨ts, fun _ => rfl, .inl ⟨fun _ _ _ => by simp [hg], h⟩⟩
  · rename_i j want hg
    split at h
    · rename_i d hd
      have hin : d ∈ o.looksAt ops := by simp [Oper.looksAt, hg, hd]
      split at h
      · rename_i b hb
        have hy : ∀ (ρ : Inj) (tmps : Array Value), TRelOn ρ (o.looksAt ops) ts tmps → yielded ops tmps j = some b := by
          intro ρ tmps ht
          obtain ⟨v', h1, h2⟩ := ht d hin _ hb
          cases h2
          simp [yielded, hd, h1]
        have hl : ∀ c : Bool, b = c → ∀ t, look ((d, SV.bool c) :: ts) t = look ts t := by
          intro c hc t
          simp only [look]
          split
          · rename_i hdt; subst hdt; subst hc; exact hb.symm
          · rfl
        rcases ifB_or h with ⟨hb', h⟩ | ⟨hb', h⟩
        · refine ⟨_, hl true hb', ?_⟩
          split at h
          · rename_i hw; exact .inl ⟨fun ρ tmps ht => by simp [hg, hy ρ tmps ht, hb', hw], h⟩
          · rename_i hw; exact .inr ⟨fun ρ tmps ht => by simp [hg, hy ρ tmps ht, hb', hw], h⟩
        · refine ⟨_, hl false hb', ?_⟩
          split at h
          · rename_i hw; exact .inr ⟨fun ρ tmps ht => by simp [hg, hy ρ tmps ht, hb', hw], h⟩
          · rename_i hw; exact .inl ⟨fun ρ tmps ht => by simp [hg, hy ρ tmps ht, hb', hw], h⟩
      · rename_i l hb
        refine ⟨ts, fun _ => rfl, .inr ⟨fun ρ tmps ht => ?_, h⟩⟩
        obtain ⟨v', h1, h2⟩ := ht d hin _ hb
        have hy : yielded ops tmps j = none := by
          cases h2
          simp [yielded, hd, h1]
        simp [hg, hy]
      · exact h.elim
    · exact h.elim

theorem value_of {P : Program} {s : Sem Value} {ρ : Inj} {sh : SH} {w : World} {o : Oper} {a : Act} {K : SV → SH → Prop} (h : Quiet P s ρ w (fun v => K v sh)) (he : (execOp a.eval o) = (do pure (.value (← s)))) :
    ∃ v v', K v sh ∧ VRel ρ v v' ∧ (execOp a.eval o).run P w = .ok (.value v') w := by
  obtain ⟨v, v', h1, h2, h3⟩ := h
  exact ⟨v, v', h1, h2, by simp only [he, Sem.run_bind, h3, Result.andThen_ok, Sem.run_pure]⟩

theorem value_pure {P : Program} {ρ : Inj} {sh : SH} {w : World} {o : Oper} {a : Act} {K : SV → SH → Prop} {v : SV} {v' : Value} (h1 : K v sh) (h2 : VRel ρ v v') (he : (execOp a.eval o).run P w = .ok (.value v') w) :
    ∃ v v', K v sh ∧ VRel ρ v v' ∧ (execOp a.eval o).run P w = .ok (.value v') w := ⟨v, v', h1, h2, he⟩

set_option maxHeartbeats 4000000 in
theorem opW_quiet {P : Program} {G : CTab} {ts sh} {o : Oper} {K ρ} {w : World} {a : Act} (hd : detO o.op = true) (h : opW P G ts sh o.op K) (hρ : Rep ρ sh w.heap) (ht : TRel ρ ts a.tmps) :
    ∃ v v', K v sh ∧ VRel ρ v v' ∧ (execOp a.eval o).run P w = .ok (.value v') w := by
  obtain ⟨dst, op, type, pos, after, guard⟩ := o
  cases op <;> simp only [detO] at hd <;> (try cases hd) <;> simp only [opW] at h
  case move x =>
    obtain ⟨v, h1, h2⟩ := ev1_spec ht h
    exact value_pure h1 h2 (by simp only [execOp, Sem.run_pure])
  case assign x =>
    obtain ⟨v, h1, h2⟩ := ev1_spec ht h
    exact value_pure h1 h2 (by simp only [execOp, Sem.run_pure])
  case pick c x y =>
    obtain ⟨v, h1, h2⟩ := ev1_spec ht h
    split at h1
    · rename_i r
      have hc : a.eval c = .bool r := by generalize a.eval c = u at h2; cases h2; rfl
      rcases ifB_or h1 with ⟨hr, h1⟩ | ⟨hr, h1⟩
      · obtain ⟨u, h3, h4⟩ := ev1_spec ht h1
        exact value_pure h3 h4 (by simp only [execOp, hc, hr, asBool, Sem.run_bind, Sem.run_pure, Result.andThen_ok, if_true])
      · obtain ⟨u, h3, h4⟩ := ev1_spec ht h1
        exact value_pure h3 h4 (by simp only [execOp, hc, hr, asBool, Sem.run_bind, Sem.run_pure, Result.andThen_ok, Bool.false_eq_true, if_false])
    · exact h1.elim
  case build t ps =>
    obtain ⟨l, h1, h2⟩ := evP_spec ht _ _ h
    obtain ⟨v, v', h3, h4, h5⟩ := build_sound (P := P) (w := w) (ps' := ps.map fun (i, x) => (i, a.eval x)) h1 (by simpa using h2)
    exact value_of ⟨v, v', h3, h4, h5⟩ rfl
  case load t x =>
    obtain ⟨v, h1, h2⟩ := ev1_spec ht h
    exact value_of (load_sound h1 hρ h2) rfl
  case nilCheck x =>
    obtain ⟨v, h1, h2⟩ := ev1_spec ht h
    unfold nilCheckS at h1
    split at h1
    · rename_i id i j k
      have hv := h2
      generalize hu : a.eval x = u at h2
      rw [hu] at hv
      cases h2 with
      | ptr he ho => exact value_pure h1 hv (by simp only [execOp, hu, Sem.run_pure])
    · exact h1.elim
  case binOp op t x y t2 =>
    obtain ⟨v, h1, h2⟩ := ev1_spec ht h
    obtain ⟨u, h3, h4⟩ := ev1_spec ht h1
    exact value_of (bin_sound h3 h2 h4) rfl
  case unOp op t x =>
    obtain ⟨v, h1, h2⟩ := ev1_spec ht h
    exact value_of (un_sound h1 h2) rfl
  case convert s d x =>
    obtain ⟨v, h1, h2⟩ := ev1_spec ht h
    exact value_of (convert_sound h1 hρ h2) rfl
  case sliceToArrayPointer t x =>
    obtain ⟨v, h1, h2⟩ := ev1_spec ht h
    exact value_of (arrayAt_sound h1 h2) rfl
  case makeInterface t x =>
    obtain ⟨v, h1, h2⟩ := ev1_spec ht h
    exact value_of (makeIface_sound h1 h2) rfl
  case makeFunc fn first cap =>
    obtain ⟨l, h1, h2⟩ := evL_spec ht _ _ h
    obtain ⟨m, h3, h4⟩ := evL_spec ht _ _ h1
    refine value_of (s := Instr.makeFunc fn (first.map a.eval) (cap.map a.eval)) ⟨_, _, h3, .func (fs := first.map a.eval) (cs := cap.map a.eval) ?_ ?_ ?_ ?_, rfl⟩ rfl
    · simpa using h2.length.symm
    · intro i v hv
      obtain ⟨v', e1, e2⟩ := h2.get i v hv
      have e3 : (first.map a.eval)[i]? = some v' := by rw [← e1]; simp
      rw [Array.getD_eq_getD_getElem?, e3]; exact e2
    · simpa using h4.length.symm
    · intro i v hv
      obtain ⟨v', e1, e2⟩ := h4.get i v hv
      have e3 : (cap.map a.eval)[i]? = some v' := by rw [← e1]; simp
      rw [Array.getD_eq_getD_getElem?, e3]; exact e2
  case slice t x lo hi mx =>
    obtain ⟨v, h1, h2⟩ := ev1_spec ht h
    obtain ⟨l, h3, h4⟩ := evO_spec ht _ _ h1
    obtain ⟨hh, h5, h6⟩ := evO_spec ht _ _ h3
    obtain ⟨m, h7, h8⟩ := evO_spec ht _ _ h5
    exact value_of (slice_sound h7 hρ h2 h4 h6 h8) rfl
  case fieldAddr t x f =>
    obtain ⟨v, h1, h2⟩ := ev1_spec ht h
    exact value_of (fieldAddr_sound h1 h2) rfl
  case field t x f =>
    obtain ⟨v, h1, h2⟩ := ev1_spec ht h
    exact value_of (field_sound h1 h2) rfl
  case indexAddr t x i =>
    obtain ⟨v, h1, h2⟩ := ev1_spec ht h
    obtain ⟨u, h3, h4⟩ := ev1_spec ht h1
    exact value_of (indexAddr_sound h3 hρ h2 h4) rfl
  case index t x i =>
    obtain ⟨v, h1, h2⟩ := ev1_spec ht h
    obtain ⟨u, h3, h4⟩ := ev1_spec ht h1
    exact value_of (index_sound h3 h2 h4) rfl
  case lookup t m k ok =>
    obtain ⟨v, h1, h2⟩ := ev1_spec ht h
    obtain ⟨u, h3, h4⟩ := ev1_spec ht h1
    exact value_of (lookup_sound h3 hρ h2 h4) rfl
  case typeAssert x xt t ok =>
    obtain ⟨v, h1, h2⟩ := ev1_spec ht h
    exact value_of (typeAssert_sound h1 h2) rfl
  case extract x i =>
    obtain ⟨v, h1, h2⟩ := ev1_spec ht h
    exact value_of (extract_sound h1 h2) rfl
  case call c =>
    obtain ⟨callee, args, argTypes⟩ := c
    cases callee <;> simp only at hd h <;> (try cases hd)
    rename_i b
    obtain ⟨vs, h1, h2⟩ := evL_spec ht _ _ h
    have hargs : args.map a.eval = (args.toList.map a.eval).toArray := by apply Array.ext'; simp
    generalize args.toList.map a.eval = as at h2 hargs
    have hty : argTypes = argTypes.toList.toArray := by simp
    generalize argTypes.toList = tys at h1 hty
    unfold builtinS at h1
    split at h1
    · cases h2 with
      | cons h3 h4 =>
      cases h4
      exact value_of (s := Builtin.len_ argTypes type (args.map a.eval)) (by rw [hargs, hty]; exact len_sound h1 hρ h3) rfl
    · cases hd
    · cases hd
    · cases hd
    · exact value_of (s := Builtin.max_ _ type (args.map a.eval)) (by rw [hargs]; exact max_sound h1 h2) rfl
    · exact value_of (s := Builtin.min_ _ type (args.map a.eval)) (by rw [hargs]; exact min_sound h1 h2) rfl
    · exact h1.elim

theorem opW_value {P : Program} {G : CTab} {ts sh} {o : Oper} {ρ} {w : World} {a : Act} {v : SV} (hd : detO o.op = true) (h : opW P G ts sh o.op (fun u s => u = v ∧ s = sh)) (hρ : Rep ρ sh w.heap) (ht : TRel ρ ts a.tmps) :
    ∃ v', VRel ρ v v' ∧ (execOp a.eval o).run P w = .ok (.value v') w := by
  obtain ⟨u, v', ⟨rfl, _⟩, h2, h3⟩ := opW_quiet hd h hρ ht
  exact ⟨v', h2, h3⟩

section
variable {P : Program} {G : CTab} {ops : Array Oper}

theorem val_of {o : Oper} {ts ts1 : Ts} {sh : SH} {v : SV} (hw : Wants ops o ts true) (hl : ∀ t, look ts1 t = look ts t)
    (h : ∀ K' : SV → SH → Prop, K' v sh → opW P G (restr ts1 (o.looksAt ops)) sh o.op K') (hd : detO o.op = true) : Val P ops o ts sh v := by
  intro ρ w a h1 h2
  have h3 : TRel ρ (restr ts1 (o.looksAt ops)) a.tmps := (h2.congr fun t _ => hl t).restr
  have h4 := h (fun u s => u = v ∧ s = sh) ⟨rfl, rfl⟩
  obtain ⟨v', k1, k2⟩ := opW_value hd h4 h1 h3
  exact ⟨v', k1, .inl ⟨hw ρ a.tmps h2, k2⟩⟩

theorem bindS_put {nt : Nat} {dst : Option Nat} {v : SV} {ts : Ts} {K : Ts → Prop} (h : bindS nt dst v ts K) : K (putS dst v ts) := by
  unfold bindS at h
  split at h
  · split at h
    · exact h
    · exact h.elim
  · exact h

theorem recW_spec {re : List Nat} {sh : SH} {R : Prop} : ∀ {pend : Pend}, (∀ p ∈ pend, ∀ oj, ops[p.1]? = some oj → Wants ops oj p.2.1 true ∧ detO oj.op = true) → recW P G ops re pend sh R →
    R ∧ ∀ p ∈ pend, re.contains p.1 = true → ∀ oj, ops[p.1]? = some oj → Val P ops oj p.2.1 sh p.2.2
  | [], _, h => ⟨h, by simp⟩
  | p :: pend, hp, h => by
    unfold recW at h
    have hp' : ∀ p ∈ pend, ∀ oj, ops[p.1]? = some oj → Wants ops oj p.2.1 true ∧ detO oj.op = true := fun p h => hp p (List.mem_cons_of_mem _ h)
    split at h
    · rename_i hc
      split at h
      · rename_i o ho
        obtain ⟨hw, hd⟩ := hp p (List.mem_cons_self ..) o ho
        obtain ⟨u, k0, k2⟩ := opW_det hd h
        obtain ⟨rfl, k1⟩ := same_iff k0
        obtain ⟨k3, k4⟩ := recW_spec hp' k1
        refine ⟨k3, fun q hq => ?_⟩
        rcases List.mem_cons.1 hq with rfl | hq
        · intro _ oj hoj
          rw [ho] at hoj; cases hoj
          exact val_of hw (fun _ => rfl) k2 hd
        · exact k4 q hq
      · exact h.elim
    · rename_i hc
      obtain ⟨k3, k4⟩ := recW_spec hp' h
      refine ⟨k3, fun q hq => ?_⟩
      rcases List.mem_cons.1 hq with rfl | hq
      · intro hh; exact absurd hh hc
      · exact k4 q hq

theorem ordW_tr (hG : GOk P G) {nt : Nat} {ms : List Nat} {K : Ts → SH → Prop} : ∀ (l : List (Nat × List Nat)) (pend : Pend) (seen : List Nat) (ts : Ts) (sh : SH), ordW P G nt ops l pend ts sh K → okRe ops ms l seen = true →
    (∀ p ∈ pend, p.1 ∈ seen ∧ ∀ oj, ops[p.1]? = some oj → Wants ops oj p.2.1 true ∧ detO oj.op = true) → Tr P ops (unB ms) K (l.map (·.1)) pend ts sh
  | [], _, _, ts, _, h, _, _ => ⟨ts, fun _ => rfl, h⟩
  | (i, re) :: l, pend, seen, ts, sh, h, hr, hp => by
    simp only [ordW] at h
    simp only [okRe] at hr
    split at h
    · rename_i o ho
      rw [ho] at hr
      simp only at hr
      obtain ⟨ts1, hl, h⟩ := guardS_wants h
      refine ⟨o, ho, ?_⟩
      have chk : ∀ {sh' : SH} {R : Prop}, detO o.op = false → recW P G ops re pend sh' R → R ∧ Chk P ops (unB ms) i pend sh' := by
        intro sh' R hdet hrec
        simp only [hdet, Bool.false_eq_true, if_false, Bool.and_eq_true, List.all_eq_true, Bool.or_eq_true] at hr
        obtain ⟨k1, k2⟩ := recW_spec (fun p hpp => (hp p hpp).2) hrec
        refine ⟨k1, fun p hpp hun oj hoj => k2 p hpp ?_ oj hoj⟩
        rcases hr.1 p.1 (hp p hpp).1 with hh | hh
        · unfold unB at hun; rw [hun] at hh; cases hh
        · exact hh
      have hse : ∀ q : Nat, q ∈ seen → q ∈ (if freeO o.op = true then seen else i :: seen) := by
        intro q hq
        split
        · exact hq
        · exact List.mem_cons_of_mem _ hq
      rcases h with ⟨hw, h⟩ | ⟨hw, h⟩
      · cases hdet : detO o.op with
        | true =>
          obtain ⟨v, h1, h2⟩ := opW_det hdet h
          have h3 := bindS_put h1
          simp only [hdet, if_true] at h3 hr
          have hv := val_of hw hl h2 hdet
          refine .inl ⟨rfl, v, hv, fun hfr sh' => val_of hw hl (fun K' k => opW_free hfr h2 sh' K' k) hdet, ?_⟩
          cases hf : freeO o.op with
          | true =>
            simp only [hf, if_true] at h3 hr
            refine .inl ⟨fun sh' => val_of hw hl (fun K' k => opW_free hf h2 sh' K' k) hdet, ?_⟩
            exact (ordW_tr hG l pend seen _ sh h3 hr hp).of P ops (PEq.refl ops _) (look_putS_congr hl)
          | false =>
            simp only [hf, Bool.false_eq_true, if_false] at h3 hr
            refine .inr ?_
            refine (ordW_tr hG l ((i, ts1, v) :: pend) (i :: seen) _ sh h3 hr ?_).of P ops ((PEq.refl ops _).cons ops i _ _ v fun _ _ t _ => hl t) (look_putS_congr hl)
            intro p hpp
            rcases List.mem_cons.1 hpp with rfl | hpp
            · refine ⟨List.mem_cons_self .., fun oj hoj => ?_⟩
              rw [ho] at hoj; cases hoj
              exact ⟨fun ρ tmps ht => hw ρ tmps (ht.congr fun t _ => (hl t).symm), hdet⟩
            · exact ⟨List.mem_cons_of_mem _ (hp p hpp).1, (hp p hpp).2⟩
        | false =>
          refine .inr ⟨rfl, fun ρ w a h1 h2 next Q hn => .inl ⟨hw ρ a.tmps h2, ?_⟩⟩
          refine opW_sound hG h h1 (h2.congr fun t _ => hl t).restr ?_
          intro v v' sh' ρ' w' k1 k2 k3 k4
          have k5 := bindS_put k1
          simp only [hdet, Bool.false_eq_true, if_false] at k5
          obtain ⟨k6, k7⟩ := chk hdet k5
          simp only [hdet, Bool.false_eq_true, if_false, Bool.and_eq_true] at hr
          exact hn v v' sh' ρ' w' ⟨k7, (ordW_tr hG l pend seen _ sh' k6 hr.2 hp).of P ops (PEq.refl ops _) (look_putS_congr hl)⟩ k2 k3 k4
      · have h3 := bindS_put h
        cases hdet : detO o.op with
        | true =>
          simp only [hdet, if_true] at h3 hr
          have hv : ∀ sh', Val P ops o ts sh' (.tuple []) := fun sh' ρ w a _ h2 => ⟨undef, .tuple rfl (by simp), .inr ⟨hw ρ a.tmps h2, rfl⟩⟩
          refine .inl ⟨rfl, .tuple [], hv sh, fun _ => hv, .inl ⟨hv, ?_⟩⟩
          exact (ordW_tr hG l pend _ _ sh h3 hr (fun p hpp => ⟨hse _ (hp p hpp).1, (hp p hpp).2⟩)).of P ops (PEq.refl ops _) (look_putS_congr hl)
        | false =>
          simp only [hdet, Bool.false_eq_true, if_false] at h3
          obtain ⟨k6, k7⟩ := chk hdet h3
          simp only [hdet, Bool.false_eq_true, if_false, Bool.and_eq_true] at hr
          refine .inr ⟨rfl, fun ρ w a h1 h2 next Q hn => .inr ⟨hw ρ a.tmps h2, ?_⟩⟩
          exact hn (.tuple []) undef sh ρ w ⟨k7, (ordW_tr hG l pend seen _ sh k6 hr.2 hp).of P ops (PEq.refl ops _) (look_putS_congr hl)⟩ (.tuple rfl (by simp)) h1 (Step.refl _ _ _)
    · exact h.elim

/-- the list holds what is not listed -/
theorem mem_start {l : List Nat} (e1 : l.length = ops.size) (e2 : ∀ x < ops.size, x ∈ l) (e4 : ∀ i ∈ l, i < ops.size) (i : Nat) : i ∈ l ↔ i < ops.size ∧ (Array.replicate ops.size false).getD i false = false := by
  have hrep : (Array.replicate ops.size false).getD i false = false := by
    rw [Array.getD_eq_getD_getElem?]
    by_cases hi : i < ops.size
    · simp [hi]
    · simp [hi]
  exact ⟨fun hi => ⟨e4 i hi, hrep⟩, fun hi => e2 i hi.1⟩

theorem down_start : Down (masks ops) (Array.replicate ops.size false) := by
  intro i hi
  rw [Array.getD_eq_getD_getElem?] at hi
  by_cases h : i < ops.size
  · simp [h] at hi
  · simp [h] at hi

/-- what is looked at once for a region of one order -/
theorem okR_spec {l : List (Nat × List Nat)} (hok : okR ops l = true) : (l.map (·.1)).length = ops.size ∧ (∀ x < ops.size, x ∈ l.map (·.1)) ∧ okEdges 0 ops.toList = true ∧ okPairs ops (masks ops) (l.map (·.1)) = true ∧ okRe ops (masks ops) l [] = true ∧ (∀ i ∈ l.map (·.1), i < ops.size) := by
  unfold okR at hok
  simp only [Bool.and_eq_true, beq_iff_eq, List.all_eq_true, List.mem_range, List.contains_iff_mem, decide_eq_true_eq] at hok
  obtain ⟨⟨⟨⟨⟨e1, e2⟩, e6⟩, e3⟩, e4⟩, e5⟩ := hok
  exact ⟨e1, e2, e3, e4, e5, e6⟩

theorem okR2_spec {x y : Nat} {l : List (Nat × List Nat)} (hok : okR2 ops x y l = true) : (l.map (·.1)).length = ops.size ∧ (∀ x < ops.size, x ∈ l.map (·.1)) ∧ okEdges 0 ops.toList = true ∧ okPairs2 ops (masks ops) x y (l.map (·.1)) = true ∧ okRe ops (masks ops) l [] = true ∧ (∀ i ∈ l.map (·.1), i < ops.size) ∧ ((ops[x]?).map fun o => detO o.op).getD true = false := by
  unfold okR2 at hok
  simp only [Bool.and_eq_true, beq_iff_eq, List.all_eq_true, List.mem_range, List.contains_iff_mem, decide_eq_true_eq, Bool.not_eq_true'] at hok
  obtain ⟨⟨⟨⟨⟨⟨e1, e2⟩, e6⟩, e3⟩, e4⟩, e5⟩, e7⟩ := hok
  exact ⟨e1, e2, e3, e4, e5, e6, e7⟩

theorem ordW_sound (hG : GOk P G) (hm : P.follows .mixedOrders = true) {nt id : Nat} {l : List (Nat × List Nat)} {ts : Ts} {sh : SH} {K : Ts → SH → Prop} {ρ : Inj} {w : World} {a : Act} {Q : Exit → Act → World → Prop}
    (hok : okR ops l = true) (hd : ∀ o ∈ ops.toList, ∀ d, o.dst = some d → d < nt) (h : ordW P G nt ops l [] ts sh K) (h1 : Rep ρ sh w.heap) (h2 : TRel ρ ts a.tmps) (h3 : a.tmps.size = nt)
    (hq : ∀ ts' sh' ρ' w' a', K ts' sh' → TRel ρ' ts' a'.tmps → a'.tmps.size = nt → a'.defers = a.defers → Rep ρ' sh' w'.heap → Step ρ sh w ρ' sh' w' → Q .normal a' w') : (Code.region id ops true).wp P Q a w := by
  obtain ⟨e1, e2, e3, e4, e5, e6⟩ := okR_spec hok
  refine wp_region_any hm ?_
  have hT := ordW_tr (P := P) hG (ms := masks ops) l [] [] ts sh h e5 (by simp)
  exact bubble (ρ0 := ρ) (sh0 := sh) (w0 := w) (df := a.defers) e3 hq hd ops.size (l.map (·.1)) _ ts sh ρ _ a e1 (by simp) (mem_start e1 e2 e6) e4 down_start hT h1 h2 h3 rfl (Step.drew _)

theorem ord2_sound (hG : GOk P G) (hm : P.follows .mixedOrders = true) {nt id x y : Nat} {l1 l2 : List (Nat × List Nat)} {ts : Ts} {sh : SH} {K : Ts → SH → Prop} {ρ : Inj} {w : World} {a : Act} {Q : Exit → Act → World → Prop}
    (hok1 : okR2 ops x y l1 = true) (hok2 : okR2 ops y x l2 = true) (hd : ∀ o ∈ ops.toList, ∀ d, o.dst = some d → d < nt) (h : ordW P G nt ops l1 [] ts sh K) (h' : ordW P G nt ops l2 [] ts sh K) (h1 : Rep ρ sh w.heap) (h2 : TRel ρ ts a.tmps) (h3 : a.tmps.size = nt)
    (hq : ∀ ts' sh' ρ' w' a', K ts' sh' → TRel ρ' ts' a'.tmps → a'.tmps.size = nt → a'.defers = a.defers → Rep ρ' sh' w'.heap → Step ρ sh w ρ' sh' w' → Q .normal a' w') : (Code.region id ops true).wp P Q a w := by
  obtain ⟨e1, e2, e3, e4, e5, e6, e7⟩ := okR2_spec hok1
  obtain ⟨f1, f2, f3, f4, f5, f6, f7⟩ := okR2_spec hok2
  refine wp_region_any hm ?_
  have hT := ordW_tr (P := P) hG (ms := masks ops) l1 [] [] ts sh h e5 (by simp)
  have hU := ordW_tr (P := P) hG (ms := masks ops) l2 [] [] ts sh h' f5 (by simp)
  exact bubble2 e7 f7 (ρ0 := ρ) (sh0 := sh) (w0 := w) (df := a.defers) e3 hq hd ops.size (l1.map (·.1)) (l2.map (·.1)) _ ts ts sh ρ _ a e1 f1 (by simp) (mem_start e1 e2 e6) (mem_start f1 f2 f6) e4 f4 down_start hT hU h1 h2 h2 h3 rfl (Step.drew _)

end

end Go.Rv
