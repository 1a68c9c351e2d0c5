/- A part of the evaluator of the model's code, or of its tables: what is proved is said in the claim's last text. -/
import Derived.Test.YtjhdfldadcbkkaaGreatRv7
namespace Go.Rv

def isConstO : Operand → Bool
  | .const _ => true
  | _ => false

/-- equality of two values of a type -/
def eqVal (P : Program) (t : TypeId) (cs : Bool) (a b : SV) : Option Bool :=
  match P.underlying t, a, b with
  | some .bool, .bool x, .bool y => some (x == y)
  | some (.pointer _), .nilp, .nilp => some true
  | some (.pointer _), .nilp, .ptr .. | some (.pointer _), .ptr .., .nilp => some false
  | some (.slice _), .nils, .nils => some true
  | some (.slice _), .nils, .slice .. | some (.slice _), .slice .., .nils => some false
  | some (.map _ _), .nilm, .nilm => some true
  | some (.map _ _), .nilm, .map _ | some (.map _ _), .map _, .nilm => some false
  | some (.func _ _ _), .nilf, .nilf => some true
  | some (.func _ _ _), .nilf, .func .. | some (.func _ _ _), .func .., .nilf => some false
  | some (.interface _), .nili, .nili => if cs = true then some true else none
  | some (.interface _), .nili, .iface .. | some (.interface _), .iface .., .nili => some false
  | some (.struct _), .agg x, .agg y | some (.array _ _), .agg x, .agg y =>
    if sizeT P t = some (segLen x) ∧ segLen x = segLen y ∧ P.eqGuardType P.depth t = false then eqAt P 30 t 0 x y else none
  | _, _, _ => none

theorem at_of_agg {P ρ t l cs} (ha : aggT P t = some true) (hs : sizeT P t = some (segLen l)) (h : VRel ρ (.agg l) (.agg cs)) : AtSeg P ρ t l 0 (.agg cs) := by
  cases h with
  | agg h1 h2 h3 =>
    refine .inl ⟨ha, _, cs, hs, rfl, h1, fun c u hc hu => ?_⟩
    simp only [Nat.zero_add] at hu
    have hlt : c < cs.size := by omega
    exact ⟨cs[c], by simp [hlt], by simpa [Array.getD_eq_getD_getElem?, hlt] using h3 c u hu⟩

set_option maxHeartbeats 4000000 in
theorem eqVal_sound {P t cs a b r ρ} {w : World} {a' b'} (h : eqVal P t cs a b = some r) (ha : VRel ρ a a') (hb : VRel ρ b b') (xo yo : Operand) (hcs : cs = (isConstO xo || isConstO yo)) (op : BinOp) :
    (eqGuard op t xo yo a' b').run P w = .ok () w ∧ (Op.equal t a' b').run P w = .ok r w := by
  unfold eqVal at h
  have g0 : ∀ {a' b' : Value}, (∀ x y, ¬ (a' = .agg x ∧ b' = .agg y)) → ¬ (a' = .nilIface ∧ b' = .nilIface) → (eqGuard op t xo yo a' b').run P w = .ok () w := by
    intro a' b' h1 h2
    cases a' <;> cases b' <;> first | exact absurd ⟨rfl, rfl⟩ h2 | exact absurd ⟨rfl, rfl⟩ (h1 _ _) | (unfold eqGuard; split <;> rfl)
  split at h
  case h_1 hu => cases h; cases ha; cases hb; exact ⟨g0 (by simp) (by simp), run_equalIn_bool' w 9999 t _ _ hu⟩
  case h_2 hu => cases h; cases ha; cases hb; exact ⟨g0 (by simp) (by simp), by rw [show Op.equal = Op.equalIn (9999 + 1) from rfl]; generalize 9999 = d; unfold Op.equalIn; simp only [Sem.run_bind, run_underlying hu, Result.andThen_ok]; rfl⟩
  case h_3 hu => cases h; cases ha; cases hb; exact ⟨g0 (by simp) (by simp), by rw [show Op.equal = Op.equalIn (9999 + 1) from rfl]; generalize 9999 = d; unfold Op.equalIn; simp only [Sem.run_bind, run_underlying hu, Result.andThen_ok]; rfl⟩
  case h_4 hu => cases h; cases ha; cases hb; exact ⟨g0 (by simp) (by simp), by rw [show Op.equal = Op.equalIn (9999 + 1) from rfl]; generalize 9999 = d; unfold Op.equalIn; simp only [Sem.run_bind, run_underlying hu, Result.andThen_ok]; rfl⟩
  case h_5 hu => cases h; cases ha; cases hb; exact ⟨g0 (by simp) (by simp), by rw [show Op.equal = Op.equalIn (9999 + 1) from rfl]; generalize 9999 = d; unfold Op.equalIn; simp only [Sem.run_bind, run_underlying hu, Result.andThen_ok]; rfl⟩
  case h_6 hu => cases h; cases ha; cases hb; exact ⟨g0 (by simp) (by simp), by rw [show Op.equal = Op.equalIn (9999 + 1) from rfl]; generalize 9999 = d; unfold Op.equalIn; simp only [Sem.run_bind, run_underlying hu, Result.andThen_ok]; rfl⟩
  case h_7 hu => cases h; cases ha; cases hb; exact ⟨g0 (by simp) (by simp), by rw [show Op.equal = Op.equalIn (9999 + 1) from rfl]; generalize 9999 = d; unfold Op.equalIn; simp only [Sem.run_bind, run_underlying hu, Result.andThen_ok]; rfl⟩
  case h_8 hu => cases h; cases ha; cases hb; exact ⟨g0 (by simp) (by simp), by rw [show Op.equal = Op.equalIn (9999 + 1) from rfl]; generalize 9999 = d; unfold Op.equalIn; simp only [Sem.run_bind, run_underlying hu, Result.andThen_ok]; rfl⟩
  case h_9 hu => cases h; cases ha; cases hb; exact ⟨g0 (by simp) (by simp), by rw [show Op.equal = Op.equalIn (9999 + 1) from rfl]; generalize 9999 = d; unfold Op.equalIn; simp only [Sem.run_bind, run_underlying hu, Result.andThen_ok]; rfl⟩
  case h_10 hu => cases h; cases ha; cases hb; exact ⟨g0 (by simp) (by simp), by rw [show Op.equal = Op.equalIn (9999 + 1) from rfl]; generalize 9999 = d; unfold Op.equalIn; simp only [Sem.run_bind, run_underlying hu, Result.andThen_ok]; rfl⟩
  case h_11 hu => cases h; cases ha; cases hb; exact ⟨g0 (by simp) (by simp), by rw [show Op.equal = Op.equalIn (9999 + 1) from rfl]; generalize 9999 = d; unfold Op.equalIn; simp only [Sem.run_bind, run_underlying hu, Result.andThen_ok]; rfl⟩
  case h_12 hu => cases h; cases ha; cases hb; exact ⟨g0 (by simp) (by simp), by rw [show Op.equal = Op.equalIn (9999 + 1) from rfl]; generalize 9999 = d; unfold Op.equalIn; simp only [Sem.run_bind, run_underlying hu, Result.andThen_ok]; rfl⟩
  case h_13 hu => cases h; cases ha; cases hb; exact ⟨g0 (by simp) (by simp), by rw [show Op.equal = Op.equalIn (9999 + 1) from rfl]; generalize 9999 = d; unfold Op.equalIn; simp only [Sem.run_bind, run_underlying hu, Result.andThen_ok]; rfl⟩
  case h_14 hu =>
    split at h
    · rename_i hc
      cases h; cases ha; cases hb
      rw [hcs] at hc
      refine ⟨?_, by rw [show Op.equal = Op.equalIn (9999 + 1) from rfl]; generalize 9999 = d; unfold Op.equalIn; simp only [Sem.run_bind, run_underlying hu, Result.andThen_ok]; rfl⟩
      cases xo <;> cases yo <;> first | (simp [isConstO] at hc; done) | (cases op <;> rfl)
    · cases h
  case h_15 hu => cases h; cases ha; cases hb; exact ⟨g0 (by simp) (by simp), by rw [show Op.equal = Op.equalIn (9999 + 1) from rfl]; generalize 9999 = d; unfold Op.equalIn; simp only [Sem.run_bind, run_underlying hu, Result.andThen_ok]; rfl⟩
  case h_16 hu => cases h; cases ha; cases hb; exact ⟨g0 (by simp) (by simp), by rw [show Op.equal = Op.equalIn (9999 + 1) from rfl]; generalize 9999 = d; unfold Op.equalIn; simp only [Sem.run_bind, run_underlying hu, Result.andThen_ok]; rfl⟩
  case h_17 hu =>
    split at h
    · rename_i hc
      obtain ⟨h1, h2, h3⟩ := hc
      have hA : aggT P t = some true := by simp [aggT, hu]
      cases ha with
      | agg a1 a2 a3 =>
      cases hb with
      | agg b1 b2 b3 =>
      exact ⟨run_eqGuard_agg w op t xo yo _ _ h3, eqAt_sound w 30 10000 t 0 _ _ r _ _ h (by omega) (at_of_agg hA h1 (.agg a1 a2 a3)) (at_of_agg hA (by rw [h1, h2]) (.agg b1 b2 b3))⟩
    · cases h
  case h_18 hu =>
    split at h
    · rename_i hc
      obtain ⟨h1, h2, h3⟩ := hc
      have hA : aggT P t = some true := by simp [aggT, hu]
      cases ha with
      | agg a1 a2 a3 =>
      cases hb with
      | agg b1 b2 b3 =>
      exact ⟨run_eqGuard_agg w op t xo yo _ _ h3, eqAt_sound w 30 10000 t 0 _ _ r _ _ h (by omega) (at_of_agg hA h1 (.agg a1 a2 a3)) (at_of_agg hA (by rw [h1, h2]) (.agg b1 b2 b3))⟩
    · cases h
  case h_19 => cases h

def binS (P : Program) (op : BinOp) (t : TypeId) (xo yo : Operand) (a b : SV) (K : SV → Prop) : Prop :=
  match a, b with
  | .int k x, .int k' y => match op with
    | .shl => ifB (ltI y 0) False (K (.int k (shlI k x y)))
    | .shr => ifB (ltI y 0) False (K (.int k (shrI k x y)))
    | _ => if k = k' then (match op with
      | .add => K (.int k (addI k x y))
      | .sub => K (.int k (subI k x y))
      | .mul => K (.int k (mulI k x y))
      | .quo => ifB (eqI y 0) False (K (.int k (quoI k x y)))
      | .rem => ifB (eqI y 0) False (K (.int k (remI x y)))
      | .and => K (.int k (andI k x y))
      | .or => K (.int k (orI k x y))
      | .xor => K (.int k (xorI k x y))
      | .andNot => K (.int k (andNotI k x y))
      | .eql => K (.bool (eqI x y))
      | .neq => K (.bool (neI x y))
      | .lss => K (.bool (ltI x y))
      | .leq => K (.bool (leI x y))
      | .gtr => K (.bool (gtI x y))
      | .geq => K (.bool (geI x y))
      | _ => False) else False
  | .str x, .str y => match op with
    | .eql => K (.bool (eqS x y))
    | .neq => K (.bool (!eqS x y))
    | _ => False
  | .any _, _ => False
  | _, .any _ => False
  | a, b => match op with
    | .eql => match eqVal P t (isConstO xo || isConstO yo) a b with
      | some r => K (.bool r)
      | none => False
    | .neq => match eqVal P t (isConstO xo || isConstO yo) a b with
      | some r => K (.bool (!r))
      | none => False
    | _ => False

theorem eqGuard_int {P op t xo yo k k' x y} (w : World) : (eqGuard op t xo yo (.int k x) (.int k' y)).run P w = .ok () w := by
  cases op <;> rfl

theorem eqGuard_str {P op t xo yo x y} (w : World) : (eqGuard op t xo yo (.string x) (.string y)).run P w = .ok () w := by
  cases op <;> rfl

set_option maxHeartbeats 4000000 in
theorem bin_sound {P op t xo yo a b K ρ} {w : World} {a' b'} (h : binS P op t xo yo a b K) (ha : VRel ρ a a') (hb : VRel ρ b b') :
    Quiet P (do eqGuard op t xo yo a' b'; binOp op t a' b') ρ w K := by
  unfold binS at h
  split at h
  · rename_i k x k' y
    cases ha; cases hb
    split at h
    · rcases ifB_or h with ⟨_, h⟩ | ⟨h1, h⟩
      · exact h.elim
      · have hy : ¬ y < 0 := by simpa [ltI] using h1
        exact ⟨_, _, h, .int _ _, by simp [eqGuard_int, binOp, Op.shift, hy, shlI]⟩
    · rcases ifB_or h with ⟨_, h⟩ | ⟨h1, h⟩
      · exact h.elim
      · have hy : ¬ y < 0 := by simpa [ltI] using h1
        exact ⟨_, _, h, .int _ _, by simp [eqGuard_int, binOp, Op.shift, hy, shrI]⟩
    · rename_i hn1 hn2
      split at h
      · rename_i hk
        subst hk
        split at h
        case h_4 =>
          rcases ifB_or h with ⟨_, h⟩ | ⟨h1, h⟩
          · exact h.elim
          · have hy : ¬ y = 0 := by simpa [eqI] using h1
            exact ⟨_, _, h, .int _ _, by simp [eqGuard_int, binOp, Op.intDiv, hy, quoI]⟩
        case h_5 =>
          rcases ifB_or h with ⟨_, h⟩ | ⟨h1, h⟩
          · exact h.elim
          · have hy : ¬ y = 0 := by simpa [eqI] using h1
            exact ⟨_, _, h, .int _ _, by simp [eqGuard_int, binOp, Op.intDiv, hy, remI]⟩
        case h_16 => exact h.elim
        all_goals first
          | exact ⟨_, _, h, .int _ _, by simp [eqGuard_int, binOp, Op.intArith, Op.intBits, addI, subI, mulI, andI, orI, xorI, andNotI]⟩
          | exact ⟨_, _, h, .bool _, by simp [eqGuard_int, binOp, Op.intCmp, eqI, neI, ltI, leI, gtI, geI]⟩
      · exact h.elim
  · rename_i x y
    cases ha; cases hb
    split at h
    · exact ⟨_, _, h, .bool _, by simp [eqGuard_str, binOp, Op.stringOp, eqS]⟩
    · exact ⟨_, _, h, .bool _, by simp [eqGuard_str, binOp, Op.stringOp, eqS]⟩
    · exact h.elim
  · exact h.elim
  · exact h.elim
  · rename_i hxa hxb hni hns
    have hA : ∀ v, a ≠ .any v := fun v e => hxa v e
    have hB : ∀ v, b ≠ .any v := fun v e => hxb v e
    have h1 : ∀ k x k' y, ¬ (a' = .int k x ∧ b' = .int k' y) := by
      rintro k x k' y ⟨rfl, rfl⟩
      cases ha <;> first | exact hA _ rfl | skip
      cases hb <;> first | exact hB _ rfl | exact hni _ _ _ _ rfl rfl
    have h2 : ∀ x y, ¬ (a' = .string x ∧ b' = .string y) := by
      rintro x y ⟨rfl, rfl⟩
      cases ha <;> first | exact hA _ rfl | skip
      cases hb <;> first | exact hB _ rfl | exact hns _ _ rfl rfl
    have f1 : binOp .eql t a' b' = (do pure (.bool (← Op.equal t a' b'))) := by
      clear h hni hns hxa hxb
      cases ha <;> first | exact absurd rfl (hA _) | skip
      all_goals cases hb <;> first | exact absurd rfl (hB _) | rfl | (exact absurd ⟨rfl, rfl⟩ (h1 _ _ _ _)) | (exact absurd ⟨rfl, rfl⟩ (h2 _ _))
    have f2 : binOp .neq t a' b' = (do pure (.bool (!(← Op.equal t a' b')))) := by
      clear h hni hns hxa hxb
      cases ha <;> first | exact absurd rfl (hA _) | skip
      all_goals cases hb <;> first | exact absurd rfl (hB _) | rfl | (exact absurd ⟨rfl, rfl⟩ (h1 _ _ _ _)) | (exact absurd ⟨rfl, rfl⟩ (h2 _ _))
    split at h
    · split at h
      · rename_i r hr
        obtain ⟨g1, g2⟩ := eqVal_sound (w := w) hr ha hb xo yo rfl .eql
        refine ⟨_, _, h, .bool _, ?_⟩
        rw [f1]
        simp [g1, g2]
      · exact h.elim
    · split at h
      · rename_i r hr
        obtain ⟨g1, g2⟩ := eqVal_sound (w := w) hr ha hb xo yo rfl .neq
        refine ⟨_, _, h, .bool _, ?_⟩
        rw [f2]
        simp [g1, g2]
      · exact h.elim
    · exact h.elim

def unS (op : UnOp) (x : SV) (K : SV → Prop) : Prop :=
  match op, x with
  | .neg, .int k n => K (.int k (subI k 0 n))
  | .xor, .int k n => K (.int k (xorI k (if k.signed = true then -1 else k.max) n))
  | .not, .bool b => K (.bool (!b))
  | _, _ => False

theorem un_sound {P op x K ρ} {w : World} {x'} (h : unS op x K) (hx : VRel ρ x x') : Quiet P (Op.unary op x') ρ w K := by
  unfold unS at h
  split at h
  · cases hx; exact ⟨_, _, h, .int _ _, by simp [Op.unary, Op.intArith, subI]⟩
  · cases hx; exact ⟨_, _, h, .int _ _, by simp [Op.unary, Op.intBits, xorI]⟩
  · cases hx; exact ⟨_, _, h, .bool _, by simp [Op.unary]⟩
  · exact h.elim

end Go.Rv
