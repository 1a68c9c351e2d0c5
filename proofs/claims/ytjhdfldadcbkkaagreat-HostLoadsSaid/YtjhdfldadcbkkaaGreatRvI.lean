/- A part of the evaluator of the model's code, or of its tables: what is proved is said in the claim's last text. -/
import Derived.Test.YtjhdfldadcbkkaaGreatRvM
namespace Go.Rv
set_option linter.unusedVariables false
/-! ## ranges over maps -/
def rangeS (P : Program) (t : TypeId) (sh : SH) (x : SV) (K : SV → SH → Prop) : Prop :=
  match P.underlying t with
  | some (.map _ _) => match x with
    | .nilm => K (.ptr sh.length 0 0 0) (sh ++ [.iter none 0 [] 0])
    | .map id => match sh[id]? with
      | some (.map _) => ∀ c : Nat, K (.ptr sh.length 0 0 0) (sh ++ [.iter (some id) c [] c])
      | _ => False
    | _ => False
  | _ => False

theorem new_iter {P : Program} {ρ sh} {w : World} (hρ : Rep ρ sh w.heap) (m : Option Nat) (since last : Nat) (m' : Option Nat) (hm : ∀ ρ', ρ.le ρ' → itRel ρ' m m') {K : SV → SH → Prop} (hk : K (.ptr sh.length 0 0 0) (sh ++ [.iter m since [] last])) {s : Sem Value}
    (hs : s.run P w = .ok (.pointer (some ⟨w.heap.size, 0, none⟩)) (w.alloc (.mapIter m' since #[] last))) : Res P s ρ sh w K := by
  obtain ⟨h1, h2⟩ := hρ.alloc (.iter m since [] last) rfl (.mapIter m' since #[] last) ⟨w.heap.size, 0, 1, 0⟩ rfl (by
    intro ρ' hle
    exact ⟨rfl, m', by simp, hm ρ' hle⟩)
  exact ⟨_, _, _, _, _, hs, hk, .ptr (o := 0) Inj.add_self (by simp), h1, h2⟩

theorem range_sound {P : Program} {t sh x K ρ} {w : World} {x'} (h : rangeS P t sh x K) (hρ : Rep ρ sh w.heap) (hx : VRel ρ x x') : Res P (Instr.range t x') ρ sh w K := by
  unfold rangeS at h
  split at h
  · rename_i kt el hu
    split at h
    · cases hx
      exact new_iter hρ none 0 0 none (fun _ _ => rfl) h (by simp [Instr.range, run_underlying hu, newObj, Sem.run])
    · rename_i id
      cases hx with
      | map he =>
      rename_i e
      split at h
      · rename_i kvs hsh
        obtain ⟨e', he', es, clock, hb, _⟩ := hρ.obj id _ hsh rfl
        rw [he] at he'; cases he'
        refine new_iter hρ (some id) clock clock (some e.b) (fun ρ' hle => ⟨e, hle _ _ he, rfl⟩) (h clock) ?_
        simp [Instr.range, run_underlying hu, newObj, getObj, Sem.run, hb]
      · exact h.elim
    · exact h.elim
  · exact h.elim

def nextS (sh : SH) (x : SV) (K : SV → Prop) : Prop :=
  match x with
  | .ptr id 0 0 0 => match sh[id]? with
    | some (.iter none _ _ _) => K (.tuple [.bool false])
    | some (.iter (some m) _ _ _) => match sh[m]? with
      | some (.map []) => K (.tuple [.bool false])
      | _ => False
    | _ => False
  | _ => False

theorem next_sound {P : Program} {ty sh x K ρ} {w : World} {x'} (h : nextS sh x K) (hρ : Rep ρ sh w.heap) (hx : VRel ρ x x') : Quiet P (Instr.next x' false ty) ρ w K := by
  unfold nextS at h
  split at h
  · rename_i id
    cases hx with
    | ptr he ho =>
    rename_i e o
    have hone : ∀ ρ, VRel ρ (.tuple [.bool false]) (.tuple #[.bool false]) := fun ρ => .tuple rfl (by
      intro i v hv
      cases i with
      | zero => simp at hv; subst hv; exact .bool false
      | succ i => simp at hv)
    split at h
    · rename_i a b c hsh
      obtain ⟨e', he', h0, m', hb, hm⟩ := hρ.obj id _ hsh rfl
      rw [he] at he'; cases he'
      have hm' : m' = none := hm
      subst hm'
      have : o = 0 := by rw [ho, h0]; simp
      subst this
      exact ⟨_, _, h, hone ρ, by simp [Instr.next, getObj, Sem.run, hb]⟩
    · rename_i m a b c hsh
      split at h
      · rename_i hmap
        obtain ⟨e', he', h0, m', hb, hm⟩ := hρ.obj id _ hsh rfl
        rw [he] at he'; cases he'
        obtain ⟨em, hem, rfl⟩ := hm
        obtain ⟨e2, he2, es, clock, hb2, hes, _⟩ := hρ.obj m _ hmap rfl
        rw [hem] at he2; cases he2
        have hnil : es = #[] := by
          obtain ⟨l⟩ := es
          cases hes
          rfl
        subst hnil
        have : o = 0 := by rw [ho, h0]; simp
        subst this
        exact ⟨_, _, h, hone ρ, by simp [Instr.next, getObj, Sem.run, hb, hb2, choose, Question.forced]⟩
      · exact h.elim
    · exact h.elim
  · exact h.elim
end Go.Rv
