/- A part of the evaluator of the model's code, or of its tables: what is proved is said in the claim's last text. -/
import Derived.Test.YtjhdfldadcbkkaaGreatRv13
namespace Go.Rv

/-! ## regions -/

/-- the value of an operation, in its slot -/
def bindS (nt : Nat) (dst : Option Nat) (v : SV) (ts : Ts) (K : Ts → Prop) : Prop :=
  match dst with
  | some d => if d < nt then K ((d, v) :: ts) else False
  | none => K ts

def guardS (ops : Array Oper) (ts : Ts) (g : Option (Nat × Bool)) (yes no : Ts → Prop) : Prop :=
  match g with
  | none => yes ts
  | some (j, want) => match (ops[j]?).bind (·.dst) with
    | some d => match look ts d with
      | some (.bool b) => ifB b (if want = true then yes ((d, .bool true) :: ts) else no ((d, .bool true) :: ts)) (if want = true then no ((d, .bool false) :: ts) else yes ((d, .bool false) :: ts))
      | some (.tuple _) => no ts
      | _ => False
    | none => False

def opsW (P : Program) (G : CTab) (nt : Nat) (ops : Array Oper) : List Oper → Ts → SH → (Ts → SH → Prop) → Prop
  | [], ts, sh, K => K ts sh
  | o :: l, ts, sh, K => guardS ops ts o.guard
      (fun ts => opW P G ts sh o.op (fun v sh' => bindS nt o.dst v ts (fun ts' => opsW P G nt ops l ts' sh' K)))
      (fun ts => bindS nt o.dst (.tuple []) ts (fun ts' => opsW P G nt ops l ts' sh K))

theorem TRel.same {ρ : Inj} {ts tmps d v v'} (r : TRel ρ ts tmps) (hd : tmps[d]? = some v') (hv : VRel ρ v v') : TRel ρ ((d, v) :: ts) tmps := by
  intro t u hu
  simp only [look] at hu
  split at hu
  · rename_i h; subst h; cases hu; exact ⟨v', hd, hv⟩
  · exact r t u hu

theorem bindS_spec {ρ : Inj} {nt dst v v' ts K} {a : Act} (h : bindS nt dst v ts K) (ht : TRel ρ ts a.tmps) (hv : VRel ρ v v') (hs : a.tmps.size = nt) :
    ∃ ts', K ts' ∧ TRel ρ ts' (a.put dst v').tmps ∧ (a.put dst v').tmps.size = nt ∧ (a.put dst v').defers = a.defers := by
  unfold bindS at h
  split at h
  · rename_i d
    split at h
    · rename_i hd
      exact ⟨_, h, by simpa [Act.put] using ht.set hv (by omega), by simp [Act.put, hs], rfl⟩
    · exact h.elim
  · exact ⟨ts, h, ht, hs, rfl⟩

theorem guardS_spec {ρ : Inj} {ops : Array Oper} {ts g yes no} {a : Act} (h : guardS ops ts g yes no) (ht : TRel ρ ts a.tmps) (o : Oper) (hg : o.guard = g) :
    ∃ ts', TRel ρ ts' a.tmps ∧ ((Region.wanted o (yielded ops a.tmps) = true ∧ yes ts') ∨ (Region.wanted o (yielded ops a.tmps) = false ∧ no ts')) := by
  unfold guardS at h
  unfold Region.wanted
  rw [hg]
  split at h
  · exact ⟨ts, ht, .inl ⟨rfl, h⟩⟩
  · rename_i j want
    split at h
    · rename_i d hd
      split at h
      · rename_i b hb
        obtain ⟨v', h1, h2⟩ := ht d _ hb
        have hy : yielded ops a.tmps j = some b := by
          cases h2
          simp [yielded, hd, h1]
        cases h2
        rcases ifB_or h with ⟨hb', h⟩ | ⟨hb', h⟩
        · subst hb'
          refine ⟨_, ht.same h1 (.bool true), ?_⟩
          split at h
          · rename_i hw; exact .inl ⟨by simp [hy, hw], by assumption⟩
          · rename_i hw; exact .inr ⟨by simp [hy, hw], by assumption⟩
        · subst hb'
          refine ⟨_, ht.same h1 (.bool false), ?_⟩
          split at h
          · rename_i hw; exact .inr ⟨by simp [hy, hw], by assumption⟩
          · rename_i hw; exact .inl ⟨by simp [hy, hw], by assumption⟩
      · rename_i l hb
        obtain ⟨v', h1, h2⟩ := ht d _ hb
        have hy : yielded ops a.tmps j = none := by
          cases h2
          simp [yielded, hd, h1]
        exact ⟨ts, ht, .inr ⟨by simp [hy], h⟩⟩
      · exact h.elim
    · exact h.elim

theorem opsW_sound {P : Program} {G : CTab} (hG : GOk P G) {nt : Nat} {ops : Array Oper} {Q : Exit → Act → World → Prop} : ∀ (l : List Oper) (ts : Ts) (sh : SH) (K : Ts → SH → Prop) (ρ : Inj) (w : World) (a : Act),
    opsW P G nt ops l ts sh K → Rep ρ sh w.heap → TRel ρ ts a.tmps → a.tmps.size = nt →
    (∀ ts' sh' ρ' w' a', K ts' sh' → TRel ρ' ts' a'.tmps → a'.tmps.size = nt → a'.defers = a.defers → Rep ρ' sh' w'.heap → Step ρ sh w ρ' sh' w' → Q .normal a' w') → wpList P ops Q l a w
  | [], ts, sh, K, ρ, w, a, h, hρ, ht, hs, hq => hq ts sh ρ w a h ht hs rfl hρ (Step.refl _ _ _)
  | o :: l, ts, sh, K, ρ, w, a, h, hρ, ht, hs, hq => by
    simp only [opsW] at h
    obtain ⟨ts1, ht1, h⟩ := guardS_spec h ht o rfl
    unfold wpList
    rcases h with ⟨hw, h⟩ | ⟨hw, h⟩
    · rw [if_pos hw]
      left
      refine opW_sound hG h hρ ht1 ?_
      intro v v' sh' ρ' w' hk hv hρ' hst
      obtain ⟨ts', k1, k2, k3, k4⟩ := bindS_spec hk (ht1.mono hst.le) hv hs
      refine opsW_sound hG l ts' sh' K ρ' w' _ k1 hρ' k2 k3 ?_
      intro ts2 sh2 ρ2 w2 a2 g1 g2 g3 g4 g5 g6
      exact hq ts2 sh2 ρ2 w2 a2 g1 g2 g3 (g4.trans k4) g5 (hst.trans g6)
    · rw [if_neg (by simp [hw])]
      obtain ⟨ts', k1, k2, k3, k4⟩ := bindS_spec (v' := undef) h ht1 (.tuple rfl (by simp)) hs
      refine opsW_sound hG l ts' sh K ρ w _ k1 hρ k2 k3 ?_
      intro ts2 sh2 ρ2 w2 a2 g1 g2 g3 g4 g5 g6
      exact hq ts2 sh2 ρ2 w2 a2 g1 g2 g3 (g4.trans k4) g5 g6

end Go.Rv
