/- A part of the evaluator of the model's code, or of its tables: what is proved is said in the claim's last text. -/
import Derived.Test.YtjhdfldadcbkkaaGreatRv6
namespace Go.Rv

/-! ## arithmetic, by name -/

def addI (k : IntKind) (a b : Int) : Int := k.wrap (a + b)
def subI (k : IntKind) (a b : Int) : Int := k.wrap (a - b)
def mulI (k : IntKind) (a b : Int) : Int := k.wrap (a * b)
def quoI (k : IntKind) (a b : Int) : Int := k.wrap (a.tdiv b)
def remI (a b : Int) : Int := a.tmod b
def andI (k : IntKind) (a b : Int) : Int := k.wrap ((BitVec.ofInt k.bits a &&& BitVec.ofInt k.bits b).toNat : Int)
def orI (k : IntKind) (a b : Int) : Int := k.wrap ((BitVec.ofInt k.bits a ||| BitVec.ofInt k.bits b).toNat : Int)
def xorI (k : IntKind) (a b : Int) : Int := k.wrap ((BitVec.ofInt k.bits a ^^^ BitVec.ofInt k.bits b).toNat : Int)
def andNotI (k : IntKind) (a b : Int) : Int := k.wrap ((BitVec.ofInt k.bits a &&& ~~~ BitVec.ofInt k.bits b).toNat : Int)
def shlI (k : IntKind) (a b : Int) : Int := k.wrap (a * 2 ^ (min b.toNat k.bits))
def shrI (k : IntKind) (a b : Int) : Int := a.fdiv (2 ^ (min b.toNat k.bits))
def eqI (a b : Int) : Bool := a == b
def neI (a b : Int) : Bool := a != b
def ltI (a b : Int) : Bool := decide (a < b)
def leI (a b : Int) : Bool := decide (a ≤ b)
def gtI (a b : Int) : Bool := decide (a > b)
def geI (a b : Int) : Bool := decide (a ≥ b)
def eqS (a b : ByteArray) : Bool := a.toList == b.toList

def eqC : SV → SV → Option Bool
  | .int k a, .int k' b => if k = k' then some (eqI a b) else none
  | .bool a, .bool b => some (a == b)
  | _, _ => none

def andB (a b : Bool) : Bool := a && b

def eqAll : List (Option Bool) → Option Bool
  | [] => some true
  | none :: _ => none
  | some b :: l => match eqAll l with
    | some c => some (andB b c)
    | none => none

/-- the fields lie in the struct -/
def fieldsIn (P : Program) (s : Nat) : List Field → Bool
  | [] => true
  | f :: l => (match sizeT P f.type with
    | some n => decide (f.offset + max n 1 ≤ s)
    | none => false) && fieldsIn P s l

/-- equality of plain parts of two structs or arrays, cell by cell, at a place -/
def eqAt (P : Program) : Nat → TypeId → Nat → List SV → List SV → Option Bool
  | 0, _, _, _, _ => none
  | d + 1, t, off, x, y => match P.underlying t with
    | some .bool => match segCell x off, segCell y off with
      | some (.bool a), some (.bool b) => some (a == b)
      | _, _ => none
    | some (.int _) => match segCell x off, segCell y off with
      | some (.int k a), some (.int k' b) => if k = k' then some (eqI a b) else none
      | _, _ => none
    | some (.struct fs) => match sizeT P t with
      | some s => if P.stoodInHeld t = true then none else (if fieldsIn P s fs.toList = true then eqAll (fs.toList.map fun f => if f.name = "_" then some true else eqAt P d f.type (off + f.offset) x y) else none)
      | none => none
    | some (.array n e) => match sizeT P e, sizeT P t with
      | some s, some s' => if n * s = s' ∧ 1 ≤ s then eqAll ((List.range n).map fun i => eqAt P d e (off + i * s) x y) else none
      | _, _ => none
    | _ => none

/-- a value is what the segments x have at a place -/
def AtSeg (P : Program) (ρ : Inj) (t : TypeId) (x : List SV) (off : Nat) (v : Value) : Prop :=
  (aggT P t = some true ∧ ∃ s cs, sizeT P t = some s ∧ v = .agg cs ∧ cs.size = s ∧ ∀ c u, c < s → segCell x (off + c) = some u → ∃ u', cs[c]? = some u' ∧ VRel ρ u u') ∨
  (aggT P t = some false ∧ ∀ u, segCell x off = some u → VRel ρ u v)

theorem part_at {P ρ t' x off s cs fo} (w : World) (hs : ∀ c u, c < s → segCell x (off + c) = some u → ∃ u', (cs : Array Value)[c]? = some u' ∧ VRel ρ u u') (hcs : cs.size = s)
    {n : Nat} (hn : sizeT P t' = some n) (hle : fo + max n 1 ≤ s) (hsome : ∃ u, aggT P t' = some false → segCell x (off + fo) = some u) (ht : aggT P t' ≠ none) :
    ∃ v, (part t' cs fo).run P w = .ok v w ∧ AtSeg P ρ t' x (off + fo) v := by
  cases ha : aggT P t' with
  | none => exact absurd ha ht
  | some b =>
    cases b with
    | true =>
      refine ⟨.agg (cs.extract fo (fo + n)), by simp [part, run_isAgg ha, run_size hn], .inl ⟨ha, n, _, hn, rfl, by simp; omega, fun c u hc hu => ?_⟩⟩
      obtain ⟨u', h1, h2⟩ := hs (fo + c) u (by omega) (by rw [← hu]; congr 1; omega)
      refine ⟨u', ?_, h2⟩
      rw [Array.getElem?_extract, if_pos (by omega)]
      exact h1
    | false =>
      obtain ⟨u, hu⟩ := hsome
      obtain ⟨u', h1, h2⟩ := hs fo u (by omega) (hu ha)
      refine ⟨u', by simp [part, run_isAgg ha, h1], .inr ⟨ha, fun u2 hu2 => ?_⟩⟩
      rw [hu ha] at hu2; cases hu2
      exact h2

theorem eqAt_some {P d t off x y b} (h : eqAt P d t off x y = some b) : aggT P t ≠ none ∧ (aggT P t = some false → ∃ u, segCell x off = some u) ∧ (aggT P t = some false → ∃ u, segCell y off = some u) := by
  cases d with
  | zero => simp [eqAt] at h
  | succ d =>
    unfold eqAt at h
    cases hu : P.underlying t with
    | none => simp [hu] at h
    | some ds =>
      cases ds <;> simp only [hu] at h <;> (try cases h; done) <;> simp [aggT, hu]
      all_goals
        split at h
        · rename_i h1 h2; exact ⟨⟨_, h1⟩, ⟨_, h2⟩⟩
        · cases h

theorem eqAll_cons {a : Option Bool} {l : List (Option Bool)} {b} (h : eqAll (a :: l) = some b) : ∃ c d, a = some c ∧ eqAll l = some d ∧ b = (c && d) := by
  cases a with
  | none => simp [eqAll] at h
  | some c =>
    simp only [eqAll] at h
    split at h
    · rename_i d hd; cases h; exact ⟨c, d, rfl, hd, rfl⟩
    · cases h

theorem run_eqArray {P : Program} (w : World) (d : Nat) (t : TypeId) (n : Nat) (e : TypeId) (s : Nat) (xs ys : Array Value) (hu : P.underlying t = some (.array n e)) (hs : sizeT P e = some s)
    (g : Nat → Bool) (h : ∀ i, i < n → ∃ a b, (part e xs (i * s)).run P w = .ok a w ∧ (part e ys (i * s)).run P w = .ok b w ∧ (Op.equalIn d e a b).run P w = .ok (g i) w) :
    (Op.equalIn (d + 1) t (.agg xs) (.agg ys)).run P w = .ok ((List.range n).all g) w := by
  simp only [Op.equalIn, Sem.run_bind, run_underlying hu, Result.andThen_ok, run_size hs]
  rw [Std.Legacy.Range.forIn_eq_forIn_range']
  have key : ∀ (m k : Nat), k + m = n → ((forIn (List.range' k m 1) (none, ()) fun i (_ : Option Bool × Unit) => do
        let a ← part e xs (i * s)
        let b ← part e ys (i * s)
        let r ← Op.equalIn d e a b
        if (!r) = true then pure (ForInStep.done (some false, ())) else pure (ForInStep.yield (none, ()))) : Sem (Option Bool × Unit)).run P w =
      .ok (if (List.range' k m 1).all g then none else some false, ()) w := by
    intro m
    induction m with
    | zero => intro k _; rfl
    | succ m ih =>
      intro k hk
      obtain ⟨a, b, h1, h2, h3⟩ := h k (by omega)
      simp only [List.range'_succ, List.forIn_cons, Sem.run_bind, h1, h2, h3, Result.andThen_ok, Sem.run_ite, List.all_cons]
      cases hg : g k with
      | false => simp
      | true =>
        simp only [Bool.not_true, Bool.false_eq_true, if_false, Sem.run_pure, Result.andThen_ok, Bool.true_and]
        exact ih (k + 1) (by omega)
  have k0 := key n 0 (by omega)
  have hsz : ([:n].size) = n := by simp [Std.Legacy.Range.size]
  have hst : ([:n].start) = 0 := rfl
  have hsp : ([:n].step) = 1 := rfl
  rw [hsz, hst, hsp, k0]
  simp only [Result.andThen_ok, ← List.range_eq_range']
  cases (List.range n).all g <;> rfl

theorem AtSeg.agg {P ρ t x off v} (h : AtSeg P ρ t x off v) (ha : aggT P t = some true) :
    ∃ s cs, sizeT P t = some s ∧ v = .agg cs ∧ (cs : Array Value).size = s ∧ ∀ c u, c < s → segCell x (off + c) = some u → ∃ u', cs[c]? = some u' ∧ VRel ρ u u' := by
  rcases h with ⟨_, h⟩ | ⟨h, _⟩
  · exact h
  · rw [ha] at h; cases h

theorem eqAt_sound {P : Program} {ρ : Inj} (w : World) : ∀ (d D : Nat) (t : TypeId) (off : Nat) (x y : List SV) (b : Bool) (xv yv : Value), eqAt P d t off x y = some b → d ≤ D →
    AtSeg P ρ t x off xv → AtSeg P ρ t y off yv → (Op.equalIn D t xv yv).run P w = .ok b w
  | 0, _, _, _, _, _, _, _, _, h, _, _, _ => by simp [eqAt] at h
  | d + 1, 0, _, _, _, _, _, _, _, _, hD, _, _ => by omega
  | d + 1, D + 1, t, off, x, y, b, xv, yv, h, hD, hx, hy => by
    have hh := h
    unfold eqAt at h
    cases hu : P.underlying t with
    | none => simp [hu] at h
    | some ds =>
      cases ds <;> simp only [hu] at h <;> (try cases h; done)
      case bool =>
        have ha : aggT P t = some false := by simp [aggT, hu]
        split at h
        · rename_i a1 b1 h1 h2
          cases h
          rcases hx with ⟨h3, _⟩ | ⟨_, hx⟩
          · rw [ha] at h3; cases h3
          rcases hy with ⟨h3, _⟩ | ⟨_, hy⟩
          · rw [ha] at h3; cases h3
          have r1 := hx _ h1; have r2 := hy _ h2
          cases r1; cases r2
          exact run_equalIn_bool' w D t _ _ hu
        · cases h
      case int k0 =>
        have ha : aggT P t = some false := by simp [aggT, hu]
        split at h
        · rename_i k a1 k' b1 h1 h2
          split at h
          · rename_i hk; subst hk
            cases h
            rcases hx with ⟨h3, _⟩ | ⟨_, hx⟩
            · rw [ha] at h3; cases h3
            rcases hy with ⟨h3, _⟩ | ⟨_, hy⟩
            · rw [ha] at h3; cases h3
            have r1 := hx _ h1; have r2 := hy _ h2
            cases r1; cases r2
            exact run_equalIn_int w D t k k0 a1 b1 hu
          · cases h
        · cases h
      case struct fs =>
        have ha : aggT P t = some true := by simp [aggT, hu]
        split at h
        · rename_i s hs
          split at h
          · cases h
          · rename_i hst
            split at h
            · rename_i hfi
              obtain ⟨s1, xs, hs1, rfl, hxs, hx⟩ := hx.agg ha
              obtain ⟨s2, ys, hs2, rfl, hys, hy⟩ := hy.agg ha
              rw [hs] at hs1 hs2; cases hs1; cases hs2
              have hfo : P.fieldsOf t = fs := by simp [Program.fieldsOf, hu]
              rw [run_equalIn_struct w D t xs ys (by rw [hfo]; exact hu) (by simpa using hst), hfo]
              generalize fs.toList = l at h hfi
              clear hh
              induction l generalizing b with
              | nil => simp [eqAll] at h; subst h; rfl
              | cons f l ih =>
                simp only [List.map_cons] at h
                obtain ⟨c1, c2, e1, e2, rfl⟩ := eqAll_cons h
                simp only [fieldsIn, Bool.and_eq_true] at hfi
                have ih' := ih c2 e2 hfi.2
                simp only [Op.eqFields]
                split
                · rename_i hn
                  rw [if_neg hn] at e1
                  have hf1 := hfi.1
                  split at hf1
                  · rename_i n hn1
                    have hle := of_decide_eq_true hf1
                    obtain ⟨q1, q2, q3⟩ := eqAt_some e1
                    have mk : ∀ (z : List SV), (aggT P f.type = some false → ∃ u, segCell z (off + f.offset) = some u) → ∃ u, aggT P f.type = some false → segCell z (off + f.offset) = some u := by
                      intro z hz
                      by_cases hA : aggT P f.type = some false
                      · obtain ⟨u, hu⟩ := hz hA; exact ⟨u, fun _ => hu⟩
                      · exact ⟨default, fun h => absurd h hA⟩
                    obtain ⟨a, p1, p2⟩ := part_at w hx hxs hn1 (by omega) (mk x q2) q1
                    obtain ⟨b', p3, p4⟩ := part_at w hy hys hn1 (by omega) (mk y q3) q1
                    have := eqAt_sound w d D f.type _ x y c1 a b' e1 (by omega) p2 p4
                    simp only [Sem.run_bind, p1, p3, this, Result.andThen_ok, Sem.run_ite, ih', Sem.run_pure]
                    cases c1 <;> simp
                  · cases hf1
                · rename_i hn
                  have hn : f.name = "_" := by simpa using hn
                  rw [if_pos hn] at e1
                  cases e1
                  simpa using ih'
            · cases h
        · cases h
      case array n e =>
        have ha : aggT P t = some true := by simp [aggT, hu]
        split at h
        · rename_i s s' hs hs'
          split at h
          · rename_i hns
            obtain ⟨hns, hs1⟩ := hns
            obtain ⟨s1, xs, hs1', rfl, hxs, hx⟩ := hx.agg ha
            obtain ⟨s2, ys, hs2', rfl, hys, hy⟩ := hy.agg ha
            rw [hs'] at hs1' hs2'; cases hs1'; cases hs2'
            have key : ∀ (l : List Nat) (b : Bool), eqAll (l.map fun i => eqAt P d e (off + i * s) x y) = some b → ∃ g : Nat → Bool, (∀ i ∈ l, eqAt P d e (off + i * s) x y = some (g i)) ∧ b = l.all g := by
              intro l b hb
              refine ⟨fun i => (eqAt P d e (off + i * s) x y).getD false, ?_⟩
              induction l generalizing b with
              | nil => simp [eqAll] at hb; subst hb; simp
              | cons i l ih =>
                simp only [List.map_cons] at hb
                obtain ⟨c1, c2, e1, e2, rfl⟩ := eqAll_cons hb
                obtain ⟨i1, i2⟩ := ih c2 e2
                refine ⟨?_, ?_⟩
                · intro j hj
                  cases hj with
                  | head => simp [e1]
                  | tail _ hj => exact i1 j hj
                · simp only [List.all_cons, ← i2, e1, Option.getD_some]
            obtain ⟨g, hg1, rfl⟩ := key _ _ h
            refine run_eqArray w D t n e s xs ys hu hs g ?_
            intro i hi
            have e1 := hg1 i (by simpa using hi)
            obtain ⟨q1, q2, q3⟩ := eqAt_some e1
            have mk : ∀ (z : List SV), (aggT P e = some false → ∃ u, segCell z (off + i * s) = some u) → ∃ u, aggT P e = some false → segCell z (off + i * s) = some u := by
              intro z hz
              by_cases hA : aggT P e = some false
              · obtain ⟨u, hu⟩ := hz hA; exact ⟨u, fun _ => hu⟩
              · exact ⟨default, fun h => absurd h hA⟩
            have hle : i * s + s ≤ s' := by
              rw [← hns, ← Nat.succ_mul]
              exact Nat.mul_le_mul_right s hi
            obtain ⟨a, p1, p2⟩ := part_at w hx hxs hs (by omega) (mk x q2) q1
            obtain ⟨b', p3, p4⟩ := part_at w hy hys hs (by omega) (mk y q3) q1
            exact ⟨a, b', p1, p3, eqAt_sound w d D e _ x y _ a b' e1 (by omega) p2 p4⟩
          · cases h
        · cases h

end Go.Rv
