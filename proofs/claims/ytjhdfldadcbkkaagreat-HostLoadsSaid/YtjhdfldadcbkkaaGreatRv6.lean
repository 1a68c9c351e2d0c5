/- A part of the evaluator of the model's code, or of its tables: what is proved is said in the claim's last text. -/
import Derived.Test.YtjhdfldadcbkkaaGreatRv5
namespace Go.Rv

/-! ## addresses -/

def fieldAddrS (P : Program) (s : TypeId) (a : SV) (f : Nat) (K : SV → Prop) : Prop :=
  match P.underlying s with
  | some (.struct fs) => match fs[f]? with
    | some fd => match a, sizeT P fd.type with
      | .ptr id i j x, some (_ + 1) => K (.ptr id i (j + fd.offset) x)
      | _, _ => False
    | none => False
  | _ => False

/-- a quiet result -/
def Quiet (P : Program) (s : Sem Value) (ρ : Inj) (w : World) (K : SV → Prop) : Prop :=
  ∃ v v', K v ∧ VRel ρ v v' ∧ s.run P w = .ok v' w

theorem fieldAddr_sound {P s a f K ρ} {w : World} {a'} (h : fieldAddrS P s a f K) (ha : VRel ρ a a') : Quiet P (Instr.fieldAt s a' f) ρ w K := by
  unfold fieldAddrS at h
  split at h
  · rename_i fs hu
    split at h
    · rename_i fd hf
      split at h
      · rename_i id i j x n hs
        cases ha with
        | ptr he ho =>
        rename_i e off
        refine ⟨_, _, h, .ptr (o := off + fd.offset) he (by omega), ?_⟩
        simp [Instr.fieldAt, run_underlying hu, hf, Instr.sureAddr, fieldPlace, run_size hs, addr_add]
      · exact h.elim
    · exact h.elim
  · exact h.elim

def idx (i len : Int) : Bool := decide (0 ≤ i ∧ i < len)

def indexAddrS (P : Program) (t : TypeId) (sh : SH) (x ix : SV) (K : SV → Prop) : Prop :=
  match ix with
  | .int _ i => match P.underlying t with
    | some (.array len e) => match x, sizeT P e with
      | .ptr id a j y, some s => ifB (idx i len) (if s = 1 then K (.ptr id a j (y + i.toNat)) else match y with
          | 0 => K (.ptr id a (j + i.toNat * s) 0)
          | _ + 1 => False) False
      | _, _ => False
    | some (.slice e) => match x, sizeT P e with
      | .slice id a j len _, some s => match sh[id]? with
        | some (.cells _ _) => if s = 1 then ifB (idx i len) (K (.ptr id a j i.toNat)) False else False
        | some o => if o.live = true then (if o.width = s then (match o with
            | .map _ | .iter .. => False
            | _ => ifB (idx i len) (K (.ptr id (a + i.toNat) j 0)) False) else False) else False
        | none => False
      | _, _ => False
    | _ => False
  | _ => False

theorem Rep.width {ρ sh heap} (h : Rep ρ sh heap) {id o e} (ho : sh[id]? = some o) (hl : o.live = true) (hm : o.isArr = true) (he : ρ id = some e) : e.w = o.width := by
  obtain ⟨f, hf, s⟩ := h.obj id o ho hl
  rw [he] at hf; cases hf
  cases o <;> first | exact s.1 | (simp [SObj.live] at hl; done) | (simp [SObj.isArr] at hm; done)

theorem indexAddr_sound {P t sh x ix K ρ} {w : World} {x' ix'} (h : indexAddrS P t sh x ix K) (hρ : Rep ρ sh w.heap) (hx : VRel ρ x x') (hi : VRel ρ ix ix') :
    Quiet P (Instr.indexAt t x' ix') ρ w K := by
  unfold indexAddrS at h
  split at h
  · rename_i k i
    cases hi
    split at h
    · rename_i len e hu
      split at h
      · rename_i id a j y s hs
        cases hx with
        | ptr he ho =>
        rename_i en off
        obtain ⟨hb, h⟩ := ifB_yes h
        have hb : 0 ≤ i ∧ i < (len : Int) := of_decide_eq_true hb
        have run : (Instr.indexAt t (.pointer (some ⟨en.b, off, none⟩)) (.int k i)).run P w = .ok (.pointer (some ⟨en.b, off + i.toNat * s, none⟩)) w := by
          simp [Instr.indexAt, asIntOf, run_underlying hu, Instr.sureAddr, hb, run_size hs, addr_add]
        by_cases hs1 : s = 1
        · subst hs1
          rw [if_pos rfl] at h
          exact ⟨_, _, h, .ptr (o := off + i.toNat * 1) he (by omega), run⟩
        · rw [if_neg hs1] at h
          split at h
          · exact ⟨_, _, h, .ptr (o := off + i.toNat * s) he (by omega), run⟩
          · exact h.elim
      · exact h.elim
    · rename_i e hu
      split at h
      · rename_i id a j len cap s hs
        cases hx with
        | slice he ho hc hlen ht =>
        rename_i en off cap'
        have run : 0 ≤ i ∧ i < (len : Int) → (Instr.indexAt t (.slice (some ⟨en.b, off, none⟩) len cap') (.int k i)).run P w = .ok (.pointer (some ⟨en.b, off + i.toNat * s, none⟩)) w := by
          intro hb
          simp [Instr.indexAt, asIntOf, run_underlying hu, hb, run_size hs, addr_add]
        split at h
        · rename_i l t' hsh
          split at h
          · rename_i hs1
            subst hs1
            obtain ⟨hb, h⟩ := ifB_yes h
            have hb : 0 ≤ i ∧ i < (len : Int) := of_decide_eq_true hb
            have := ho (by omega)
            exact ⟨_, _, h, .ptr (o := off + i.toNat * 1) he (by omega), run hb⟩
          · exact h.elim
        · rename_i o _ hsh
          split at h
          · rename_i hl
            split at h
            · rename_i hws
              have fin : o.isArr = true → ifB (idx i len) (K (.ptr id (a + i.toNat) j 0)) False → Quiet P (Instr.indexAt t (.slice (some ⟨en.b, off, none⟩) len cap') (.int k i)) ρ w K := by
                intro hm h
                obtain ⟨hb, h⟩ := ifB_yes h
                have hb : 0 ≤ i ∧ i < (len : Int) := of_decide_eq_true hb
                have := ho (by omega)
                have hw := hρ.width hsh hl hm he
                rw [hws] at hw
                refine ⟨_, _, h, .ptr (o := off + i.toNat * s) he ?_, run hb⟩
                rw [this, hw, Nat.add_mul]
                omega
              split at h
              · exact h.elim
              · exact h.elim
              · rename_i hm1 hm2
                refine fin ?_ h
                cases o <;> first | rfl | exact absurd rfl (hm1 _) | exact absurd rfl (hm2 _ _ _ _)
            · exact h.elim
          · exact h.elim
        · exact h.elim
      · exact h.elim
    · exact h.elim
  · exact h.elim

/-! ## slices -/

def sBound (v : SV) (y : Nat) (K : Nat → Prop) : Prop :=
  match v with
  | .int _ i => ifB (decide (0 ≤ i ∧ i ≤ (y : Int))) (K i.toNat) False
  | _ => False

/-- bounds of a slice expression: low, high, the new capacity -/
def lowS (lo : Option SV) (h : Nat) (K : Nat → Prop) : Prop :=
  match lo with
  | some v => sBound v h K
  | none => K 0

def sBounds (len : Nat) (cap : Option Nat) (lo hi mx : Option SV) (K : Nat → Nat → Option Nat → Prop) : Prop :=
  match mx, hi with
  | some v, some u => sBound v (cap.getD len) (fun m => sBound u m (fun h => lowS lo h (fun l => K l h (some m))))
  | none, some u => sBound u (cap.getD len) (fun h => lowS lo h (fun l => K l h cap))
  | none, none => lowS lo len (fun l => K l len cap)
  | some _, none => False

theorem sBound_run {P v v' y y' K ρ} {w : World} (h : sBound v y K) (hv : VRel ρ v v') (hy : y ≤ y') :
    ∃ n, K n ∧ n ≤ y ∧ ∀ code, (Instr.sliceBound v' y' code).run P w = .ok n w := by
  unfold sBound at h
  split at h
  · rename_i k i
    cases hv
    obtain ⟨h1, h2⟩ := ifB_yes h
    have h1 := of_decide_eq_true h1
    refine ⟨_, h2, by omega, fun code => ?_⟩
    have : 0 ≤ i ∧ i ≤ (y' : Int) := by omega
    simp [Instr.sliceBound, asIntOf, this]
  · exact h.elim

/-- an option of values -/
inductive ORel (ρ : Inj) : Option SV → Option Value → Prop where
  | none : ORel ρ none none
  | some {v v'} : VRel ρ v v' → ORel ρ (some v) (some v')

theorem low_run {P lo lo' h K ρ} {w : World} (hl : lowS lo h K) (hlo : ORel ρ lo lo') :
    ∃ l, K l ∧ l ≤ h ∧ ∀ (code : BoundsCode) (β : Type) (f : Nat → Sem β), (match (generalizing := false) lo' with | some v => (do let l ← Instr.sliceBound v h code; f l) | none => (do let l ← pure 0; f l) : Sem β).run P w = (f l).run P w := by
  cases hlo with
  | none => exact ⟨0, hl, by omega, fun _ _ _ => rfl⟩
  | some hv =>
    obtain ⟨n, h1, h2, h3⟩ := sBound_run (P := P) (w := w) hl hv (Nat.le_refl h)
    exact ⟨n, h1, h2, fun code β f => by simp [h3]⟩

theorem sBounds_run {P len cap cap' lo hi mx lo' hi' mx' K ρ} {w : World} (sl : Bool) (h : sBounds len cap lo hi mx K)
    (hcap : ∀ c, cap = some c → cap' = c) (hlen : len ≤ cap') (hlo : ORel ρ lo lo') (hhi : ORel ρ hi hi') (hmx : ORel ρ mx mx') :
    ∃ l hh m m', K l hh m ∧ l ≤ hh ∧ hh ≤ m' ∧ m' ≤ cap' ∧ (∀ c, m = some c → m' = c) ∧ (m = none → cap = none ∧ m' = cap') ∧
      (Instr.sliceBounds sl len cap' lo' hi' mx').run P w = .ok (l, hh, m') w := by
  have hg : cap.getD len ≤ cap' := by
    cases cap with
    | none => exact hlen
    | some c => have := hcap c rfl; simp; omega
  unfold sBounds at h
  cases hmx with
  | none =>
    cases hhi with
    | none =>
      obtain ⟨l, h1, h2, h3⟩ := low_run (P := P) (w := w) h hlo
      refine ⟨l, len, cap, cap', h1, h2, hlen, Nat.le_refl _, hcap, fun hc => ⟨hc, rfl⟩, ?_⟩
      have := h3 .sliceB _ (fun l => pure (l, len, cap'))
      simp only [Instr.sliceBounds, Sem.run_bind, Sem.run_pure, Result.andThen_ok, Option.isSome_none, Bool.false_eq_true, if_false] at this ⊢
      exact this
    | some hv =>
      obtain ⟨hh, h1, h2, h3⟩ := sBound_run (P := P) (w := w) h hv hg
      obtain ⟨l, h4, h5, h6⟩ := low_run (P := P) (w := w) h1 hlo
      refine ⟨l, hh, cap, cap', h4, h5, by omega, Nat.le_refl _, hcap, fun hc => ⟨hc, rfl⟩, ?_⟩
      have := h6 .sliceB _ (fun l => pure (l, hh, cap'))
      simp only [Instr.sliceBounds, Sem.run_bind, Sem.run_pure, Result.andThen_ok, h3, Option.isSome_none, Bool.false_eq_true, if_false] at this ⊢
      exact this
  | some hmv =>
    cases hhi with
    | none => exact h.elim
    | some hv =>
      obtain ⟨m, h0, h0', h0r⟩ := sBound_run (P := P) (w := w) h hmv hg
      obtain ⟨hh, h1, h2, h3⟩ := sBound_run (P := P) (w := w) h0 hv (Nat.le_refl m)
      obtain ⟨l, h4, h5, h6⟩ := low_run (P := P) (w := w) h1 hlo
      refine ⟨l, hh, some m, m, h4, h5, h2, by omega, fun c hc => by cases hc; rfl, (by simp), ?_⟩
      have := h6 .slice3C _ (fun l => pure (l, hh, m))
      simp only [Instr.sliceBounds, Sem.run_bind, Sem.run_pure, Result.andThen_ok, h0r, h3, Option.isSome_some, if_true] at this ⊢
      exact this

def subCap (m : Option Nat) (l : Nat) : Option Nat := match m with
  | some c => some (c - l)
  | none => none

def sliceS (P : Program) (t : TypeId) (sh : SH) (x : SV) (lo hi mx : Option SV) (K : SV → Prop) : Prop :=
  match P.underlying t with
  | some (.array n e) => match x, sizeT P e with
    | .ptr id i j 0, some 1 => sBounds n (some n) lo hi mx (fun l h m => K (.slice id i (j + l) (h - l) (subCap m l)))
    | _, _ => False
  | some (.slice e) => match x, sizeT P e with
    | .nils, some _ => sBounds 0 (some 0) lo hi mx (fun _ _ _ => K .nils)
    | .slice id i j len cap, some s => match sh[id]? with
      | some (.cells _ _) => if s = 1 then (match cap with
        | some c => sBounds len (some c) lo hi mx (fun l h m => K (.slice id i (j + l) (h - l) (subCap m l)))
        | none => False) else False
      | some o => if o.live = true then (if o.width = s then (match o with
          | .map _ | .iter .. => False
          | _ => sBounds len cap lo hi mx (fun l h m => K (.slice id (i + l) j (h - l) (subCap m l)))) else False) else False
      | none => False
    | _, _ => False
  | some .string => match x, mx with
    | .str s, none => sBounds s.size (some s.size) lo hi none (fun l h _ => K (.str (s.extract l h)))
    | _, _ => False
  | _ => False

theorem slice_sound {P t sh x lo hi mx K ρ} {w : World} {x' lo' hi' mx'} (h : sliceS P t sh x lo hi mx K) (hρ : Rep ρ sh w.heap) (hx : VRel ρ x x')
    (hlo : ORel ρ lo lo') (hhi : ORel ρ hi hi') (hmx : ORel ρ mx mx') : Quiet P (Instr.sliceAt t x' lo' hi' mx') ρ w K := by
  unfold sliceS at h
  split at h
  · rename_i n e hu
    split at h
    · rename_i id i j hs
      cases hx with
      | ptr he ho =>
      rename_i en off
      obtain ⟨l, hh, m, m', h1, h2, h3, h4, h5, h6, h7⟩ := sBounds_run (P := P) (w := w) (cap' := n) false h (fun c hc => by cases hc; rfl) (Nat.le_refl n) hlo hhi hmx
      refine ⟨_, .slice (some ⟨en.b, if m' = l then off else off + l * 1, none⟩) (hh - l) (m' - l), h1, ?_, ?_⟩
      · refine .slice he ?_ ?_ (by omega) ?_
        · intro hne
          rw [if_neg (by omega)]; omega
        · intro c hc
          cases m with
          | none => cases hc
          | some c' => simp [subCap] at hc; have := h5 c' rfl; omega
        · intro hc
          cases m with
          | none => exact absurd (h6 rfl).1 (by simp)
          | some c' => simp [subCap] at hc
      · simp only [Instr.sliceAt, Sem.run_bind, run_underlying hu, Result.andThen_ok, Instr.sureAddr, Sem.run_pure, h7, run_size hs, addr_add]
        split <;> rfl
    · exact h.elim
  · rename_i e hu
    split at h
    · rename_i s hs
      cases hx
      obtain ⟨l, hh, m, m', h1, h2, h3, h4, h5, h6, h7⟩ := sBounds_run (P := P) (w := w) (cap' := 0) true h (fun c hc => by cases hc; rfl) (Nat.le_refl 0) hlo hhi hmx
      obtain rfl : l = 0 := by omega
      obtain rfl : hh = 0 := by omega
      obtain rfl : m' = 0 := by omega
      refine ⟨_, .slice none 0 0, h1, .nils, ?_⟩
      simp only [Instr.sliceAt, Instr.slice, Sem.run_bind, run_underlying hu, Result.andThen_ok, Sem.run_pure, h7, run_size hs]
      rfl
    · rename_i id i j len cap s hs
      cases hx with
      | slice he ho hc hlen ht =>
      rename_i en off cap'
      split at h
      · rename_i lc tc hsh
        split at h
        · rename_i hs1
          subst hs1
          split at h
          · rename_i c
            obtain ⟨l, hh, m, m', h1, h2, h3, h4, h5, h6, h7⟩ := sBounds_run (P := P) (w := w) (cap' := cap') true h hc hlen hlo hhi hmx
            refine ⟨_, .slice (some ⟨en.b, if m' = l then off else off + l * 1, none⟩) (hh - l) (m' - l), h1, ?_, ?_⟩
            · refine .slice he ?_ ?_ (by omega) ?_
              · intro hne
                rw [if_neg (by omega), ho (by omega)]; omega
              · intro c2 hc2
                cases m with
                | none => cases hc2
                | some c' => simp [subCap] at hc2; have := h5 c' rfl; omega
              · intro hc2
                cases m with
                | none => exact absurd (h6 rfl).1 (by simp)
                | some c' => simp [subCap] at hc2
            · simp only [Instr.sliceAt, Instr.slice, Sem.run_bind, run_underlying hu, Result.andThen_ok, Sem.run_pure, h7, run_size hs, Option.map_some, addr_add]
              split <;> rfl
          · exact h.elim
        · exact h.elim
      · rename_i o _ hsh
        split at h
        · rename_i hl
          split at h
          · rename_i hws
            have fin : o.isArr = true → sBounds len cap lo hi mx (fun l h m => K (.slice id (i + l) j (h - l) (subCap m l))) →
                Quiet P (Instr.sliceAt t (.slice (some ⟨en.b, off, none⟩) len cap') lo' hi' mx') ρ w K := by
              intro hmap h
              have hw := hρ.width hsh hl hmap he
              rw [hws] at hw
              obtain ⟨l, hh, m, m', h1, h2, h3, h4, h5, h6, h7⟩ := sBounds_run (P := P) (w := w) (cap' := cap') true h hc hlen hlo hhi hmx
              refine ⟨_, .slice (some ⟨en.b, if m' = l then off else off + l * s, none⟩) (hh - l) (m' - l), h1, ?_, ?_⟩
              · refine .slice he ?_ ?_ (by omega) ?_
                · intro hne
                  rw [if_neg (by omega), ho (by omega), hw, Nat.add_mul]; omega
                · intro c2 hc2
                  cases m with
                  | none => cases hc2
                  | some c' => simp [subCap] at hc2; have := h5 c' rfl; omega
                · intro hc2
                  cases m with
                  | none =>
                    obtain ⟨g1, g2⟩ := h6 rfl
                    obtain ⟨g3, g4⟩ := ht g1
                    refine ⟨g3, ?_⟩
                    rw [show i + l + (m' - l) = i + cap' by omega]
                    exact g4
                  | some c' => simp [subCap] at hc2
              · simp only [Instr.sliceAt, Instr.slice, Sem.run_bind, run_underlying hu, Result.andThen_ok, Sem.run_pure, h7, run_size hs, Option.map_some, addr_add]
                split <;> rfl
            split at h
            · exact h.elim
            · exact h.elim
            · rename_i hm1 hm2
              refine fin ?_ h
              cases o <;> first | rfl | exact absurd rfl (hm1 _) | exact absurd rfl (hm2 _ _ _ _)
          · exact h.elim
        · exact h.elim
      · exact h.elim
    · exact h.elim
  · rename_i hu
    split at h
    · rename_i s
      cases hx
      cases hmx
      obtain ⟨l, hh, m, m', h1, h2, h3, h4, h5, h6, h7⟩ := sBounds_run (P := P) (w := w) (cap' := s.size) false h (fun c hc => by cases hc; rfl) (Nat.le_refl _) hlo hhi .none
      refine ⟨_, .string (s.extract l hh), h1, .str _, ?_⟩
      simp only [Instr.sliceAt, Instr.slice, Sem.run_bind, run_underlying hu, Result.andThen_ok, Sem.run_pure, h7, Option.isSome_none, Bool.false_eq_true, if_false]
    · exact h.elim
  · exact h.elim

end Go.Rv
