/- A part of the evaluator of the model's code, or of its tables: what is proved is said in the claim's last text. -/
import Derived.Test.YtjhdfldadcbkkaaGreatRv19
import Derived.Below
import GoSem.ClaimWide
namespace Go.Rv
open Go.RowKit
/-! ## from a contract to what the row asks -/
theorem CT.calls {P : Program} {f args sh K} (h : CT P f args sh K) (he : enterable P f = true) : CallT P f args sh K := by
  intro ρ w args' h1 h2
  rcases h ρ w args' h1 h2 with ⟨_, h⟩ | ⟨v, v', sh', ρ', w', hr, _⟩
  · exact h
  · rw [run_callFunc w he] at hr
    cases hr

def isTrue : SV → SH → Prop := fun v _ => match v with
  | .bool true => True
  | _ => False

theorem rep_nil (heap : Array Obj) : Rep (fun _ => none) [] heap := by
  refine ⟨?_, ?_, fun _ _ => rfl⟩
  · intro id o h; simp at h
  · intro i j o p e f h; simp at h

/-- of a law whose arguments bear no memory -/
theorem law_of {P : Program} {f : FuncId} {args : List SV} (h : CallT P f args [] isTrue) {w : World} {args' : List Value} (ha : VRels (fun _ => none) args args') :
    Calls P f args'.toArray w fun e w' => e = .returned (.bool true) ∧ Below w.heap.size w w' := by
  refine (h (fun _ => none) w args' (rep_nil _) ha).mono ?_
  rintro e w' ⟨v, v', sh', ρ', rfl, hk, hv, _, hs⟩
  unfold isTrue at hk
  split at hk
  · cases hv
    refine ⟨rfl, hs.os, hs.tape, hs.out, hs.size, fun k hk' => hs.same k hk' ?_⟩
    rintro ⟨id, o, e, h1, _⟩
    simp at h1
  · exact hk.elim

/-- of a law whose arguments' memory is only read -/
theorem law_ro {P : Program} {f : FuncId} {args : List SV} {sh : SH} (h : CallT P f args sh isTrue) {ρ : Inj} {w : World} {args' : List Value} (hρ : Rep ρ sh w.heap) (hro : ∀ o ∈ sh, o.live = true → o.ro = true) (ha : VRels ρ args args') :
    Calls P f args'.toArray w fun e w' => e = .returned (.bool true) ∧ Below w.heap.size w w' := by
  refine (h ρ w args' hρ ha).mono ?_
  rintro e w' ⟨v, v', sh', ρ', rfl, hk, hv, _, hs⟩
  unfold isTrue at hk
  split at hk
  · cases hv
    refine ⟨rfl, hs.os, hs.tape, hs.out, hs.size, fun k hk' => hs.same k hk' ?_⟩
    rintro ⟨id, o, e, h1, h2, h3, _⟩
    rw [hro o (List.mem_of_getElem? h1) h2] at h3
    cases h3
  · exact hk.elim

/-! ## arguments that are handed on unread -/
theorem cellWide_one {P : Program} {w r base t v} (h : Cell.okWide P w r base t v) : v.oneCell' = true := by
  unfold Cell.okWide at h
  split at h <;> first | rfl | skip
  unfold Cell.ok at h
  split at h <;> first | rfl | exact h.elim

theorem rowWide_one {P : Program} {w r base t} {cs : Array Value} (h : Row.okWide P w r base t cs) : ∀ (i : Nat) (v : Value), cs[i]? = some v → v.oneCell' = true := by
  obtain ⟨ts, _, _, h3⟩ := h
  intro i v hv
  obtain ⟨u, _, h4⟩ := h3 i v hv
  exact cellWide_one h4

theorem wide_one {P : Program} {w r base t v} (h : Value.okWide P w r base t v) (ha : aggT P t = some false) : v.oneCell' = true := by
  unfold Value.okWide at h
  unfold aggT at ha
  split at h
  · rename_i hu; simp [hu] at ha
  · rename_i hu; simp [hu] at ha
  · exact cellWide_one h

theorem wide_agg {P : Program} {w r base t v} (h : Value.okWide P w r base t v) (ha : aggT P t = some true) : ∃ cs : Array Value, v = .agg cs ∧ cs.size = P.cellsOf t ∧ ∀ (i : Nat) (v : Value), cs[i]? = some v → v.oneCell' = true := by
  unfold Value.okWide at h
  unfold aggT at ha
  split at h
  · obtain ⟨cs, h1, h2, h3⟩ := h; exact ⟨cs, h1, h2, rowWide_one h3⟩
  · obtain ⟨cs, h1, h2, h3⟩ := h; exact ⟨cs, h1, h2, rowWide_one h3⟩
  · rename_i h1 h2
    cases hu : P.underlying t with
    | none => simp [hu] at ha
    | some d => cases d <;> first | (simp [hu] at ha; done) | (exact absurd hu (h1 _)) | (exact absurd hu (h2 _ _))

theorem segCell_any : ∀ (l : List Value) (c : Nat), segCell (l.map SV.any) c = (l[c]?).map SV.any
  | [], c => by simp [segCell]
  | v :: l, 0 => by simp [segCell]
  | v :: l, c + 1 => by simp only [List.map_cons, segCell, segCell_any l c, List.getElem?_cons_succ]

theorem segLen_any : ∀ (l : List Value), segLen (l.map SV.any) = l.length
  | [] => rfl
  | v :: l => by simp only [List.map_cons, segLen, segLen_any l, SV.len, List.length_cons]; omega

theorem rel_any {ρ : Inj} (l : List Value) (h : ∀ (i : Nat) (v : Value), l[i]? = some v → v.oneCell' = true) : VRel ρ (.agg (l.map SV.any)) (.agg l.toArray) := by
  refine .agg (by simp [segLen_any]) ?_ ?_
  · intro c v hv
    rw [segCell_any] at hv
    cases hc : l[c]? with
    | none => simp [hc] at hv
    | some u => simp [hc] at hv; subst hv; rfl
  · intro c v hv
    rw [segCell_any] at hv
    cases hc : l[c]? with
    | none => simp [hc] at hv
    | some u =>
      simp [hc] at hv; subst hv
      have : (l.toArray).getD c undef = u := by simp [Array.getD_eq_getD_getElem?, hc]
      rw [this]
      exact .any (h c u hc)
end Go.Rv
namespace Go.Rv
/-- an array of so many values, written out -/
theorem arr2 {cs : Array Value} (h : cs.size = 2) : ∃ a b, cs = #[a, b] := by
  obtain ⟨l⟩ := cs
  match l, h with
  | [a, b], _ => exact ⟨a, b, rfl⟩
theorem arr11 {cs : Array Value} (h : cs.size = 11) : ∃ a b c d e f g i j k l, cs = #[a, b, c, d, e, f, g, i, j, k, l] := by
  obtain ⟨l⟩ := cs
  match l, h with
  | [a, b, c, d, e, f, g, i, j, k, l], _ => exact ⟨a, b, c, d, e, f, g, i, j, k, l, rfl⟩
end Go.Rv
namespace Go.Rv
theorem arr19 {cs : Array Value} (h : cs.size = 19) : ∃ a b c d e f g i j k l m n o p q r s t, cs = #[a, b, c, d, e, f, g, i, j, k, l, m, n, o, p, q, r, s, t] := by
  obtain ⟨l⟩ := cs
  match l, h with
  | [a, b, c, d, e, f, g, i, j, k, l, m, n, o, p, q, r, s, t], _ => exact ⟨a, b, c, d, e, f, g, i, j, k, l, m, n, o, p, q, r, s, t, rfl⟩
end Go.Rv
