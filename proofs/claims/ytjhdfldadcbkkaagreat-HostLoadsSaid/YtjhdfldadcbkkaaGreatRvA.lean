/- A part of the evaluator of the model's code, or of its tables: what is proved is said in the claim's last text. -/
import Derived.Test.YtjhdfldadcbkkaaGreatRv14
import Derived.Test.YtjhdfldadcbkkaaGreatRvD
import Derived.Orders
namespace Go.Rv

/-! ## regions of any order -/

def restr (ts : Ts) : List Nat → Ts
  | [] => []
  | t :: l => match look ts t with
    | some v => (t, v) :: restr ts l
    | none => restr ts l

theorem look_restr {ts : Ts} : ∀ {S : List Nat} {t v}, look (restr ts S) t = some v → t ∈ S ∧ look ts t = some v
  | [], t, v, h => by simp [restr, look] at h
  | s :: S, t, v, h => by
    unfold restr at h
    split at h
    · rename_i u hu
      simp only [look] at h
      split at h
      · rename_i hst
        subst hst; cases h
        exact ⟨by simp, hu⟩
      · obtain ⟨h1, h2⟩ := look_restr h
        exact ⟨List.mem_cons_of_mem _ h1, h2⟩
    · obtain ⟨h1, h2⟩ := look_restr h
      exact ⟨List.mem_cons_of_mem _ h1, h2⟩

def TRelOn (ρ : Inj) (S : List Nat) (ts : Ts) (tmps : Array Value) : Prop := ∀ t ∈ S, ∀ v, look ts t = some v → ∃ v', tmps[t]? = some v' ∧ VRel ρ v v'

theorem TRelOn.restr {ρ S ts tmps} (h : TRelOn ρ S ts tmps) : TRel ρ (restr ts S) tmps := by
  intro t v hv
  obtain ⟨h1, h2⟩ := look_restr hv
  exact h t h1 v h2

theorem TRelOn.congr {ρ S ts ts' tmps} (h : TRelOn ρ S ts tmps) (he : ∀ t ∈ S, look ts' t = look ts t) : TRelOn ρ S ts' tmps := by
  intro t ht v hv
  rw [he t ht] at hv
  exact h t ht v hv

theorem TRel.on {ρ ts tmps} (h : TRel ρ ts tmps) (S : List Nat) : TRelOn ρ S ts tmps := fun t _ v hv => h t v hv

def putS (dst : Option Nat) (v : SV) (ts : Ts) : Ts :=
  match dst with
  | some d => (d, v) :: ts
  | none => ts

theorem look_putS {dst : Option Nat} {v : SV} {ts : Ts} {t : Nat} (h : ∀ d, dst = some d → d ≠ t) : look (putS dst v ts) t = look ts t := by
  cases dst with
  | none => rfl
  | some d => simp [putS, look, h d rfl]

theorem look_putS_congr {dst : Option Nat} {v : SV} {ts ts' : Ts} (h : ∀ t, look ts t = look ts' t) (t : Nat) : look (putS dst v ts) t = look (putS dst v ts') t := by
  cases dst with
  | none => exact h t
  | some d => simp only [putS, look]; rw [h t]

theorem look_putS_swap {x y : Option Nat} {v u : SV} {ts : Ts} (h : ∀ d, x = some d → y ≠ some d) (t : Nat) : look (putS x v (putS y u ts)) t = look (putS y u (putS x v ts)) t := by
  cases x with
  | none => rfl
  | some d =>
    cases y with
    | none => rfl
    | some e =>
      have hne : d ≠ e := fun he => h d rfl (he ▸ rfl)
      simp only [putS, look]
      by_cases h1 : d = t
      · subst h1; simp [Ne.symm hne]
      · simp [h1]

section
variable (P : Program) (ops : Array Oper)

/-- an operation's value, and no more -/
def Got (o : Oper) (a : Act) (w : World) (v' : Value) : Prop :=
  (Region.wanted o (yielded ops a.tmps) = true ∧ (execOp a.eval o).run P w = .ok (.value v') w) ∨ (Region.wanted o (yielded ops a.tmps) = false ∧ v' = undef)

def Val (o : Oper) (ts : Ts) (sh : SH) (v : SV) : Prop :=
  ∀ (ρ : Inj) (w : World) (a : Act), Rep ρ sh w.heap → TRelOn ρ (o.looksAt ops) ts a.tmps → ∃ v', VRel ρ v v' ∧ Got P ops o a w v'

def Eff (o : Oper) (ts : Ts) (sh : SH) (Kp : SV → SH → Prop) : Prop :=
  ∀ (ρ : Inj) (w : World) (a : Act), Rep ρ sh w.heap → TRelOn ρ (o.looksAt ops) ts a.tmps → ∀ (next : Act → World → Prop) (Q : Exit → Act → World → Prop),
    (∀ v v' sh' ρ' w', Kp v sh' → VRel ρ' v v' → Rep ρ' sh' w'.heap → Step ρ sh w ρ' sh' w' → next (a.put o.dst v') w') →
    (Region.wanted o (yielded ops a.tmps) = true ∧ o.wp P a w next Q) ∨ (Region.wanted o (yielded ops a.tmps) = false ∧ next (a.put o.dst undef) w)

theorem Val.congr {o ts ts' sh v} (h : Val P ops o ts sh v) (he : ∀ t ∈ o.looksAt ops, look ts t = look ts' t) : Val P ops o ts' sh v :=
  fun ρ w a h1 h2 => h ρ w a h1 (h2.congr he)

theorem Eff.mono {o ts ts' sh} {K K' : SV → SH → Prop} (h : Eff P ops o ts sh K) (he : ∀ t ∈ o.looksAt ops, look ts t = look ts' t) (hk : ∀ v sh, K v sh → K' v sh) : Eff P ops o ts' sh K' :=
  fun ρ w a h1 h2 next Q hn => h ρ w a h1 (h2.congr he) next Q (fun v v' sh' ρ' w' k1 => hn v v' sh' ρ' w' (hk _ _ k1))

abbrev Pend := List (Nat × Ts × SV)

/-- what was loaded ahead still is so -/
def Chk (un : Nat → Nat → Prop) (i : Nat) (pend : Pend) (sh : SH) : Prop :=
  ∀ p ∈ pend, un p.1 i → ∀ oj, ops[p.1]? = some oj → Val P ops oj p.2.1 sh p.2.2

def Tr (un : Nat → Nat → Prop) (K : Ts → SH → Prop) : List Nat → Pend → Ts → SH → Prop
  | [], _, ts, sh => ∃ ts0, (∀ t, look ts t = look ts0 t) ∧ K ts0 sh
  | i :: l, pend, ts, sh => ∃ o, ops[i]? = some o ∧
    ((detO o.op = true ∧ ∃ v, Val P ops o ts sh v ∧ (freeO o.op = true → ∀ sh', Val P ops o ts sh' v) ∧ (((∀ sh', Val P ops o ts sh' v) ∧ Tr un K l pend (putS o.dst v ts) sh) ∨ Tr un K l ((i, ts, v) :: pend) (putS o.dst v ts) sh)) ∨
     (detO o.op = false ∧ Eff P ops o ts sh (fun v sh' => Chk P ops un i pend sh' ∧ Tr un K l pend (putS o.dst v ts) sh')))

/-- one list of what is pending tells all that another does -/
def PEq (p q : Pend) : Prop := ∀ x ∈ q, ∃ y ∈ p, y.1 = x.1 ∧ y.2.2 = x.2.2 ∧ ∀ oj, ops[x.1]? = some oj → ∀ t ∈ oj.looksAt ops, look y.2.1 t = look x.2.1 t

theorem PEq.refl (p : Pend) : PEq ops p p := fun x hx => ⟨x, hx, rfl, rfl, fun _ _ _ _ => rfl⟩

theorem PEq.tail (x) (p : Pend) : PEq ops (x :: p) p := fun y hy => ⟨y, List.mem_cons_of_mem _ hy, rfl, rfl, fun _ _ _ _ => rfl⟩

theorem PEq.cons {p q : Pend} (h : PEq ops p q) (i : Nat) (ts ts' : Ts) (v : SV) (he : ∀ oj, ops[i]? = some oj → ∀ t ∈ oj.looksAt ops, look ts t = look ts' t) : PEq ops ((i, ts, v) :: p) ((i, ts', v) :: q) := by
  intro x hx
  rcases List.mem_cons.1 hx with rfl | hx
  · exact ⟨(i, ts, v), List.mem_cons_self .., rfl, rfl, he⟩
  · obtain ⟨y, h1, h2⟩ := h x hx
    exact ⟨y, List.mem_cons_of_mem _ h1, h2⟩

theorem Chk.of {un i p q sh} (h : Chk P ops un i p sh) (hp : PEq ops p q) : Chk P ops un i q sh := by
  intro x hx hu oj hj
  obtain ⟨y, h1, h2, h3, h4⟩ := hp x hx
  have := h y h1 (h2 ▸ hu) oj (h2 ▸ hj)
  rw [h3] at this
  exact this.congr P ops (h4 oj hj)

theorem Tr.of {un K} : ∀ {l : List Nat} {p q : Pend} {ts ts' sh}, Tr P ops un K l p ts sh → PEq ops p q → (∀ t, look ts t = look ts' t) → Tr P ops un K l q ts' sh
  | [], p, q, ts, ts', sh, ⟨ts0, h1, h2⟩, _, he => ⟨ts0, fun t => (he t).symm.trans (h1 t), h2⟩
  | i :: l, p, q, ts, ts', sh, ⟨o, ho, h⟩, hp, he => by
    refine ⟨o, ho, ?_⟩
    rcases h with ⟨hd, v, hv, hf, h⟩ | ⟨hd, h⟩
    · refine .inl ⟨hd, v, hv.congr P ops fun t _ => he t, fun hfr sh' => (hf hfr sh').congr P ops fun t _ => he t, ?_⟩
      rcases h with ⟨ha, h⟩ | h
      · exact .inl ⟨fun sh' => (ha sh').congr P ops fun t _ => he t, h.of hp (look_putS_congr he)⟩
      · exact .inr (h.of (hp.cons ops i ts ts' v fun _ _ t _ => he t) (look_putS_congr he))
    · exact .inr ⟨hd, h.mono P ops (fun t _ => he t) fun v sh' ⟨k1, k2⟩ => ⟨k1.of P ops hp, k2.of hp (look_putS_congr he)⟩⟩

/-- an operation that changes nothing may come ahead of others that change nothing -/
theorem Tr.moveF {un K i oi} (hi : ops[i]? = some oi) (hdi : detO oi.op = true) {l2 : List Nat} : ∀ {l1 : List Nat} {p : Pend} {ts sh},
    (∀ j ∈ l1, ∀ oj, ops[j]? = some oj → detO oj.op = true ∧ oi.apart ops oj = true) →
    Tr P ops un K (l1 ++ i :: l2) p ts sh → ∃ v, Val P ops oi ts sh v ∧ Tr P ops un K (l1 ++ l2) p (putS oi.dst v ts) sh
  | [], p, ts, sh, _, ⟨o, ho, h⟩ => by
    rw [hi] at ho; cases ho
    rcases h with ⟨_, v, hv, hf, h⟩ | ⟨hd, _⟩
    · refine ⟨v, hv, ?_⟩
      rcases h with ⟨_, h⟩ | h
      · exact h
      · exact h.of P ops (PEq.tail ops _ _) fun _ => rfl
    · rw [hdi] at hd; cases hd
  | j :: l1, p, ts, sh, hl, ⟨oj, hj, h⟩ => by
    obtain ⟨hdj, hap⟩ := hl j (List.mem_cons_self ..) oj hj
    obtain ⟨a1, a2, a3⟩ := Oper.apart_spec hap
    have hl' : ∀ j ∈ l1, ∀ oj, ops[j]? = some oj → detO oj.op = true ∧ oi.apart ops oj = true := fun j hj => hl j (List.mem_cons_of_mem _ hj)
    rcases h with ⟨_, vj, hv, hf, h⟩ | ⟨hd, _⟩
    · have e1 : ∀ vj, ∀ t ∈ oi.looksAt ops, look (putS oj.dst vj ts) t = look ts t := fun vj t ht => look_putS fun d hd hdt => a3 d hd (hdt ▸ ht)
      have e2 : ∀ vi, ∀ t ∈ oj.looksAt ops, look ts t = look (putS oi.dst vi ts) t := fun vi t ht => (look_putS fun d hd hdt => a1 d hd (hdt ▸ ht)).symm
      rcases h with ⟨ha, h⟩ | h
      · obtain ⟨vi, g1, g2⟩ := Tr.moveF hi hdi hl' h
        refine ⟨vi, g1.congr P ops (e1 vj), oj, hj, .inl ⟨hdj, vj, hv.congr P ops (e2 vi), fun hfr sh' => (hf hfr sh').congr P ops (e2 vi), .inl ⟨fun sh' => (ha sh').congr P ops (e2 vi), ?_⟩⟩⟩
        exact g2.of P ops (PEq.refl ops _) (look_putS_swap a2)
      · obtain ⟨vi, g1, g2⟩ := Tr.moveF hi hdi hl' h
        refine ⟨vi, g1.congr P ops (e1 vj), oj, hj, .inl ⟨hdj, vj, hv.congr P ops (e2 vi), fun hfr sh' => (hf hfr sh').congr P ops (e2 vi), .inr ?_⟩⟩
        refine g2.of P ops ((PEq.refl ops p).cons ops j _ _ vj ?_) (look_putS_swap a2)
        intro o ho t ht
        rw [hj] at ho; cases ho
        exact e2 vi t ht
    · rw [hdj] at hd; cases hd

theorem Tr.moveE {un K i oi} (hi : ops[i]? = some oi) (hdi : detO oi.op = false) {l2 : List Nat} : ∀ {l1 : List Nat} {p : Pend} {ts sh},
    (∀ j ∈ l1, un j i ∧ ∀ oj, ops[j]? = some oj → detO oj.op = true ∧ oi.apart ops oj = true) →
    Tr P ops un K (l1 ++ i :: l2) p ts sh → Eff P ops oi ts sh (fun v sh' => Chk P ops un i p sh' ∧ Tr P ops un K (l1 ++ l2) p (putS oi.dst v ts) sh')
  | [], p, ts, sh, _, ⟨o, ho, h⟩ => by
    rw [hi] at ho; cases ho
    rcases h with ⟨hd, _⟩ | ⟨_, h⟩
    · rw [hdi] at hd; cases hd
    · exact h
  | j :: l1, p, ts, sh, hl, ⟨oj, hj, h⟩ => by
    obtain ⟨hun, hl0⟩ := hl j (List.mem_cons_self ..)
    obtain ⟨hdj, hap⟩ := hl0 oj hj
    obtain ⟨a1, a2, a3⟩ := Oper.apart_spec hap
    have hl' : ∀ j ∈ l1, un j i ∧ ∀ oj, ops[j]? = some oj → detO oj.op = true ∧ oi.apart ops oj = true := fun j hj => hl j (List.mem_cons_of_mem _ hj)
    rcases h with ⟨_, vj, hv, hf, h⟩ | ⟨hd, _⟩
    · have e1 : ∀ vj, ∀ t ∈ oi.looksAt ops, look (putS oj.dst vj ts) t = look ts t := fun vj t ht => look_putS fun d hd hdt => a3 d hd (hdt ▸ ht)
      have e2 : ∀ vi, ∀ t ∈ oj.looksAt ops, look ts t = look (putS oi.dst vi ts) t := fun vi t ht => (look_putS fun d hd hdt => a1 d hd (hdt ▸ ht)).symm
      rcases h with ⟨ha, h⟩ | h
      · refine (Tr.moveE hi hdi hl' h).mono P ops (e1 vj) fun vi sh' ⟨k1, k2⟩ => ⟨k1, oj, hj, .inl ⟨hdj, vj, (ha sh').congr P ops (e2 vi), fun hfr sh' => (hf hfr sh').congr P ops (e2 vi), .inl ⟨fun sh2 => (ha sh2).congr P ops (e2 vi), ?_⟩⟩⟩
        exact k2.of P ops (PEq.refl ops _) (look_putS_swap a2)
      · refine (Tr.moveE hi hdi hl' h).mono P ops (e1 vj) fun vi sh' ⟨k1, k2⟩ => ⟨k1.of P ops (PEq.tail ops _ _), oj, hj, .inl ⟨hdj, vj, ?_, fun hfr sh' => (hf hfr sh').congr P ops (e2 vi), .inr ?_⟩⟩
        · exact (k1 (j, ts, vj) (List.mem_cons_self ..) hun oj hj).congr P ops (e2 vi)
        · refine k2.of P ops ((PEq.refl ops p).cons ops j _ _ vj ?_) (look_putS_swap a2)
          intro o ho t ht
          rw [hj] at ho; cases ho
          exact e2 vi t ht
    · rw [hdj] at hd; cases hd

end

end Go.Rv
