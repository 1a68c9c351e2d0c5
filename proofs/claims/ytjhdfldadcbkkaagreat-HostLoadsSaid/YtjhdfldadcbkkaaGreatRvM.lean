/- A part of the evaluator of the model's code, or of its tables: what is proved is said in the claim's last text. -/
import Derived.Test.YtjhdfldadcbkkaaGreatRv9
import Derived.MapKept
import Derived.WideKeyRuns
namespace Go.Rv

/-! ## maps -/

/-- equality of keys -/
def eqKey (P : Program) (t : TypeId) (a b : SV) : Option Bool :=
  match P.underlying t, a, b with
  | some (.int _), .int k x, .int k' y => if k = k' then some (eqI x y) else none
  | some .bool, .bool x, .bool y => some (x == y)
  | some (.struct _), .agg x, .agg y => if sizeT P t = some (segLen x) then (if sizeT P t = some (segLen y) then eqAt P 20 t 0 x y else none) else none
  | _, _, _ => none

/-- may a value stand for a key? -/
def keyS (P : Program) (t : TypeId) (k : SV) : Bool :=
  match P.underlying t, k with
  | some (.int _), .int _ _ | some .bool, .bool _ => true
  | some (.struct fs), .agg l => fs.toList.all fun f => (match P.underlying f.type, segCell l f.offset with
    | some (.int _), some (.int _ _) | some .bool, some (.bool _) => true
    | _, _ => false)
  | _, _ => false

theorem eqKey_sound {P : Program} {t a b r ρ} {w : World} {a' b'} (h : eqKey P t a b = some r) (ha : VRel ρ a a') (hb : VRel ρ b b') : (Op.equal t a' b').run P w = .ok r w := by
  unfold eqKey at h
  split at h
  · rename_i hu
    split at h
    · rename_i hk; subst hk
      cases h; cases ha; cases hb
      exact run_equalIn_int w 9999 t _ _ _ _ hu
    · cases h
  · rename_i hu
    cases h; cases ha; cases hb
    exact run_equalIn_bool' w 9999 t _ _ hu
  · rename_i fs x y hu
    split at h
    · rename_i h1
      split at h
      · rename_i h2
        have hag : aggT P t = some true := by simp [aggT, hu]
        have hA := ha; have hB := hb
        cases ha; cases hb
        exact eqAt_sound w 20 10000 t 0 x y r _ _ h (by omega) (at_of_agg hag h1 hA) (at_of_agg hag h2 hB)
      · cases h
    · cases h
  · cases h

theorem check_fields {P : Program} {e : Bool} {n : Nat} {w : World} (cs : Array Value) : ∀ (fs : List Field),
    (∀ f ∈ fs, ∃ v, (part f.type cs f.offset).run P w = .ok v w ∧ (Instr.checkKey e n f.type v).run P w = .ok () w) →
    (forIn (m := Sem) fs PUnit.unit fun f _ => (do
      if f.name ≠ "_" then Instr.checkKey e n f.type (← part f.type cs f.offset)
      pure (ForInStep.yield PUnit.unit))).run P w = .ok PUnit.unit w
  | [], _ => rfl
  | f :: fs, h => by
    obtain ⟨v, h1, h2⟩ := h f (List.mem_cons_self ..)
    have ih := check_fields (P := P) (e := e) (n := n) (w := w) cs fs (fun f hf => h f (List.mem_cons_of_mem _ hf))
    rw [List.forIn_cons]
    simp only [Sem.run_bind]
    by_cases hn : f.name ≠ "_"
    · simp only [if_pos hn, Sem.run_bind, h1, h2, Result.andThen_ok, Sem.run_pure]
      exact ih
    · simp only [if_neg hn, Result.andThen_ok, Sem.run_pure]
      exact ih

theorem key_sound {P : Program} {t k ρ} {w : World} {k'} (h : keyS P t k = true) (hk : VRel ρ k k') (e : Bool) : (Instr.checkKey e 10000 t k').run P w = .ok () w := by
  unfold keyS at h
  have e1 : (10000 : Nat) = 9998 + 1 + 1 := rfl
  rw [e1]
  generalize 9998 = n
  split at h
  · rename_i hu
    cases hk
    simp [Instr.checkKey, run_underlying hu]
  · rename_i hu
    cases hk
    simp [Instr.checkKey, run_underlying hu]
  · rename_i fs l hu
    have hK := hk
    cases hk
    rename_i cs _ _ _
    unfold Instr.checkKey
    simp only [Sem.run_bind, run_underlying hu, Result.andThen_ok]
    have key : ∀ f ∈ fs.toList, ∃ v, (part f.type cs f.offset).run P w = .ok v w ∧ (Instr.checkKey e (n + 1) f.type v).run P w = .ok () w := by
      intro f hf
      rw [List.all_eq_true] at h
      have := h f hf
      split at this
      · rename_i hu' hc
        obtain ⟨v', h2, h1⟩ := part_get (P := P) w hK (t := f.type) (by simp [aggT, hu']) hc
        refine ⟨v', h1, ?_⟩
        cases h2
        simp [Instr.checkKey, run_underlying hu']
      · rename_i hu' hc
        obtain ⟨v', h2, h1⟩ := part_get (P := P) w hK (t := f.type) (by simp [aggT, hu']) hc
        refine ⟨v', h1, ?_⟩
        cases h2
        simp [Instr.checkKey, run_underlying hu']
      · cases this
    have h1 := check_fields (P := P) (e := e) (n := n + 1) (w := w) cs fs.toList key
    simp only [bind_pure_comp, ne_eq, ite_not] at h1
    simp only [bind_pure_comp, ne_eq, ite_not, ← Array.forIn_toList, h1]
    rfl
  · cases h

def findS (P : Program) (t : TypeId) (k : SV) : List (SV × SV) → Nat → (Option (Nat × SV) → Prop) → Prop
  | [], _, K => K none
  | (k', v) :: l, i, K => match eqKey P t k k' with
    | some b => ifB b (K (some (i, v))) (findS P t k l (i + 1) K)
    | none => False

inductive FRel (ρ : Inj) : Option (Nat × SV) → Option (Nat × Value) → Prop where
  | none : FRel ρ none none
  | some {i v v'} : VRel ρ v v' → FRel ρ (some (i, v)) (some (i, v'))

theorem findAsking_sound {P : Program} {t k ρ} {w : World} {k'} (hk : VRel ρ k k') {K : Option (Nat × SV) → Prop} : ∀ {kvs es i}, EntRel ρ kvs es → findS P t k kvs i K →
    ∃ r r', K r ∧ FRel ρ r r' ∧ (Instr.findAsking t k' es i).run P w = .ok r' w
  | _, _, i, .nil, h => ⟨none, none, h, .none, rfl⟩
  | _, _, i, .cons (k := k1) (v := v1) (e := e1) h1 h2 hr, h => by
    simp only [findS] at h
    split at h
    · rename_i b hb
      have he := eqKey_sound (w := w) hb hk h1
      simp only [Instr.findAsking, Sem.run_bind, he, Result.andThen_ok]
      rcases ifB_or h with ⟨rfl, h⟩ | ⟨rfl, h⟩
      · exact ⟨_, _, h, .some h2, by simp⟩
      · obtain ⟨r, r', g1, g2, g3⟩ := findAsking_sound hk hr h
        exact ⟨r, r', g1, g2, by simpa using g3⟩
    · exact h.elim

theorem findNow_sound {P : Program} {t k ρ} {k'} {d : TypeDesc} (hd : P.underlying t = some d) (hint : (∃ q, d = .int q) ∨ d = .bool) (hk : VRel ρ k k') {K : Option (Nat × SV) → Prop} : ∀ {kvs es i}, EntRel ρ kvs es → findS P t k kvs i K →
    ∃ r r', K r ∧ FRel ρ r r' ∧ Instr.findNow d k' es i = some r'
  | _, _, i, .nil, h => ⟨none, none, h, .none, rfl⟩
  | _, _, i, .cons (k := k1) (v := v1) (e := e1) h1 h2 hr, h => by
    simp only [findS] at h
    split at h
    · rename_i b hb
      have he : Instr.sameNow d k' e1.key = some b := by
        unfold eqKey at hb
        rw [hd] at hb
        rcases hint with ⟨q, rfl⟩ | rfl
        · split at hb
          · split at hb
            · rename_i hkk; subst hkk
              cases hb; cases hk; generalize e1.key = z at h1; cases h1
              simp [Instr.sameNow, eqI]
            · cases hb
          · rename_i hh; cases hh
          · rename_i hh; cases hh
          · cases hb
        · split at hb
          · rename_i hh; cases hh
          · cases hb; cases hk; generalize e1.key = z at h1; cases h1
            rfl
          · rename_i hh; cases hh
          · cases hb
      simp only [Instr.findNow, he]
      rcases ifB_or h with ⟨rfl, h⟩ | ⟨rfl, h⟩
      · exact ⟨_, _, h, .some h2, rfl⟩
      · exact findNow_sound hd hint hk hr h
    · exact h.elim

theorem find_sound {P : Program} {t k ρ} {w : World} {k'} (hkey : keyS P t k = true) (hk : VRel ρ k k') {K : Option (Nat × SV) → Prop} {kvs es} (he : EntRel ρ kvs es) (h : findS P t k kvs 0 K) :
    ∃ r r', K r ∧ FRel ρ r r' ∧ (Instr.findKey t k' es).run P w = .ok r' w := by
  have hkey' := hkey
  unfold keyS at hkey'
  split at hkey'
  · rename_i hu
    obtain ⟨r, r', g1, g2, g3⟩ := findNow_sound hu (.inl ⟨_, rfl⟩) hk he h
    exact ⟨r, r', g1, g2, Go.MapKept.run_findKey hu g3⟩
  · rename_i hu
    obtain ⟨r, r', g1, g2, g3⟩ := findNow_sound hu (.inr rfl) hk he h
    exact ⟨r, r', g1, g2, Go.MapKept.run_findKey hu g3⟩
  · rename_i fs l hu
    obtain ⟨r, r', g1, g2, g3⟩ := findAsking_sound (P := P) (w := w) hk he h
    exact ⟨r, r', g1, g2, by rw [run_findKey_eq w (by simp [hu])]; exact g3⟩
  · cases hkey'

/-! ### lookup -/

def hitS (P : Program) (el : TypeId) (ok : Bool) (K : SV → Prop) : Option (Nat × SV) → Prop
  | some (_, v) => if ok = true then K (.tuple [v, .bool true]) else K v
  | none => match zeroV P el with
    | some z => if ok = true then K (.tuple [z, .bool false]) else K z
    | none => False

def lookupS (P : Program) (t : TypeId) (sh : SH) (m k : SV) (ok : Bool) (K : SV → Prop) : Prop :=
  match P.underlying t with
  | some (.map kt el) => if keyS P kt k = true then (match m with
    | .nilm => hitS P el ok K none
    | .map id => match sh[id]? with
      | some (.map kvs) => findS P kt k kvs 0 (hitS P el ok K)
      | _ => False
    | _ => False) else False
  | _ => False

theorem hit_sound {P : Program} {kt el k ok K ρ} {w : World} {k'} (hkey : keyS P kt k = true) (hk : VRel ρ k k') (es : Array MapEntry) (r : Option (Nat × SV)) (r' : Option (Nat × Value)) (hrun : (Instr.findKey kt k' es.toList).run P w = .ok r' w)
    (hr : FRel ρ r r') (hfin : hitS P el ok K r) : Quiet P (do
            Instr.checkKey es.isEmpty 10000 kt k'
            let (v, ok') ← match ← Instr.findKey kt k' es.toList with
              | some (_, v) => pure (v, true)
              | none => pure (← zeroValue el, false)
            pure (if ok then .tuple #[v, .bool ok'] else v)) ρ w K := by
  have hck := key_sound (w := w) hkey hk es.isEmpty
  cases hr with
  | none =>
    simp only [hitS] at hfin
    split at hfin
    · rename_i z hz
      obtain ⟨z', hz1, hz2⟩ := zeroV_spec hz
      cases ok with
      | true => exact ⟨_, _, hfin, tuple2 (hz2 ρ) (.bool false), by simp [hck, hrun, hz1, Result.andThen]⟩
      | false => exact ⟨_, _, hfin, hz2 ρ, by simp [hck, hrun, hz1, Result.andThen]⟩
    · exact hfin.elim
  | some hv =>
    simp only [hitS] at hfin
    cases ok with
    | true => exact ⟨_, _, hfin, tuple2 hv (.bool true), by simp [hck, hrun, Result.andThen]⟩
    | false => exact ⟨_, _, hfin, hv, by simp [hck, hrun, Result.andThen]⟩

theorem lookup_sound {P : Program} {t sh m k ok K ρ} {w : World} {m' k'} (h : lookupS P t sh m k ok K) (hρ : Rep ρ sh w.heap) (hm : VRel ρ m m') (hk : VRel ρ k k') : Quiet P (Instr.lookup t m' k' ok) ρ w K := by
  unfold lookupS at h
  split at h
  · rename_i kt el hu
    split at h
    · rename_i hkey
      split at h
      · cases hm
        obtain ⟨v, v', h1, h2, h3⟩ := hit_sound hkey hk #[] none none (by
          have := find_sound (w := w) (K := fun r => r = none) hkey hk (.nil (ρ := ρ)) (by simp [findS])
          obtain ⟨r, r', g1, g2, g3⟩ := this
          subst g1; cases g2
          exact g3) .none h
        refine ⟨v, v', h1, h2, ?_⟩
        rw [← h3]
        simp only [Instr.lookup, Sem.run_bind, run_underlying hu, Result.andThen_ok, Sem.run_pure]
        rfl
      · cases hm with
        | map he =>
        split at h
        · rename_i kvs hs
          obtain ⟨e', he', es, clock, hb, hr, _, _⟩ := hρ.obj _ _ hs rfl
          rw [he] at he'; cases he'
          obtain ⟨r, r', g1, g2, g3⟩ := find_sound (w := w) hkey hk hr h
          obtain ⟨v, v', h1, h2, h3⟩ := hit_sound hkey hk es r r' g3 g2 g1
          refine ⟨v, v', h1, h2, ?_⟩
          have hg := MapKept.run_getObj_map (P := P) hb
          rw [← h3]
          simp only [Instr.lookup, Sem.run_bind, run_underlying hu, hg, Result.andThen_ok, Sem.run_pure]
          rfl
        · exact h.elim
      · exact h.elim
    · exact h.elim
  · exact h.elim

def makeMapS (sh : SH) (r : Option SV) (K : SV → SH → Prop) : Prop :=
  match r with
  | none => K (.map sh.length) (sh ++ [.map []])
  | some _ => False

theorem makeMap_sound {P : Program} {t sh K ρ} {w : World} (h : makeMapS sh none K) (hρ : Rep ρ sh w.heap) : Res P (Instr.makeMap t none) ρ sh w K := by
  obtain ⟨h1, h2⟩ := hρ.alloc (.map []) rfl (.map #[] 0) ⟨w.heap.size, 0, 1, 0⟩ rfl (fun ρ' _ => ⟨#[], 0, by simp, .nil, by simp, by simp⟩)
  refine ⟨_, .map (some w.heap.size), _, _, _, ?_, h, .map Inj.add_self, h1, h2⟩
  rfl

/-- what is written into a map -/
def mapUpdateS (P : Program) (t : TypeId) (sh : SH) (m k v : SV) (K : SH → Prop) : Prop :=
  match P.underlying t, m with
  | some (.map kt _), .map id => match sh[id]? with
    | some (.map kvs) => if keyS P kt k = true then findS P kt k kvs 0 (fun r => match r with
        | some (i, _) => match k with
          | .int .. | .bool _ => K (sh.set id (.map (kvs.set i (k, v))))
          | _ => False
        | none => K (sh.set id (.map (kvs ++ [(k, v)])))) else False
    | _ => False
  | _, _ => False

def deleteS (P : Program) (t : TypeId) (sh : SH) (m k : SV) (K : SH → Prop) : Prop :=
  match P.underlying t with
  | some (.map kt _) => if keyS P kt k = true then (match m with
    | .nilm => K sh
    | .map id => match sh[id]? with
      | some (.map kvs) => findS P kt k kvs 0 (fun r => match r with
        | some (i, _) => K (sh.set id (.map (kvs.eraseIdx i)))
        | none => K (sh.set id (.map kvs)))
      | _ => False
    | _ => False) else False
  | _ => False

theorem EntRel.snoc {ρ : Inj} {l es k v} {e : MapEntry} (h : EntRel ρ l es) (hk : VRel ρ k e.key) (hv : VRel ρ v e.val) : EntRel ρ (l ++ [(k, v)]) (es ++ [e]) := by
  induction h with
  | nil => exact .cons hk hv .nil
  | cons h1 h2 _ ih => exact .cons h1 h2 ih

theorem EntRel.set {ρ : Inj} {l es k v} {e : MapEntry} (h : EntRel ρ l es) (hk : VRel ρ k e.key) (hv : VRel ρ v e.val) (i : Nat) : EntRel ρ (l.set i (k, v)) (es.set i e) := by
  induction h generalizing i with
  | nil => exact .nil
  | cons h1 h2 hr ih =>
    cases i with
    | zero => exact .cons hk hv hr
    | succ i => exact .cons h1 h2 (ih i)

theorem EntRel.erase {ρ : Inj} {l es} (h : EntRel ρ l es) (i : Nat) : EntRel ρ (l.eraseIdx i) (es.eraseIdx i) := by
  induction h generalizing i with
  | nil => exact .nil
  | cons h1 h2 hr ih =>
    cases i with
    | zero => exact hr
    | succ i => exact .cons h1 h2 (ih i)

theorem EntRel.lookup {ρ : Inj} {l es} (h : EntRel ρ l es) : ∀ {i : Nat} {k v}, l[i]? = some (k, v) → ∃ e, es[i]? = some e ∧ VRel ρ k e.key ∧ VRel ρ v e.val := by
  induction h with
  | nil => intro i k v h; simp at h
  | cons h1 h2 _ ih =>
    intro i k v hi
    cases i with
    | zero => simp at hi; obtain ⟨rfl, rfl⟩ := hi; exact ⟨_, rfl, h1, h2⟩
    | succ i => simpa using ih (by simpa using hi)

/-- another map in its place -/
theorem mapWrite {ρ sh} {w : World} (hρ : Rep ρ sh w.heap) {id kvs e} {es : Array MapEntry} {clock : Nat} (hs : sh[id]? = some (.map kvs)) (he : ρ id = some e) (hb : w.heap[e.b]? = some (.map es clock)) (kvs' : List (SV × SV)) (es' : Array MapEntry) (clock' : Nat)
    (h1 : EntRel ρ kvs' es'.toList) (h2 : ∀ x ∈ es'.toList, x.born < clock') (h3 : es'.toList.Pairwise (fun a b => a.born < b.born)) :
    Rep ρ (sh.set id (.map kvs')) (w.heap.setIfInBounds e.b (.map es' clock')) ∧ Step ρ sh w ρ (sh.set id (.map kvs')) { w with heap := w.heap.setIfInBounds e.b (.map es' clock') } := by
  obtain ⟨k1, k2⟩ := MapKept.heap_set (o' := .map es' clock') hb
  refine ⟨hρ.put hs rfl rfl he (.map kvs') _ (fun b hne => k2 b hne) ⟨es', clock', k1, h1, h2, h3⟩, Inj.le_refl _, by simp, fun _ _ => rfl, ro_set rfl, by simp, rfl, rfl, rfl, ?_, ?_⟩
  · intro b _ hn
    exact k2 b fun hbb => hn ⟨id, .map kvs, e, hs, rfl, rfl, he, hbb.symm⟩
  · intro b _ hb
    exact Owns.of_put hs rfl rfl he hb

theorem findNow_hit {d : TypeDesc} {k : Value} (hint : (∃ q, d = .int q) ∨ d = .bool) : ∀ {es : List MapEntry} {i j v}, Instr.findNow d k es i = some (some (j, v)) → ∃ e, i ≤ j ∧ es[j - i]? = some e ∧ e.key = k
  | [], i, j, v, h => by simp [Instr.findNow] at h
  | e :: es, i, j, v, h => by
    unfold Instr.findNow at h
    split at h
    · rename_i hs
      simp only [Option.some.injEq, Prod.mk.injEq] at h
      obtain ⟨rfl, rfl⟩ := h
      refine ⟨e, Nat.le_refl _, by simp, ?_⟩
      rcases hint with ⟨q, rfl⟩ | rfl
      · cases k <;> simp [Instr.sameNow] at hs
        generalize e.key = z at hs
        cases z <;> simp at hs
        obtain ⟨h1, h2⟩ := hs
        rw [h1, h2]
      · cases k <;> simp [Instr.sameNow] at hs
        generalize e.key = z at hs
        cases z <;> simp at hs
        rw [hs]
    · obtain ⟨e', h1, h2, h3⟩ := findNow_hit hint h
      refine ⟨e', by omega, ?_, h3⟩
      rw [show j - i = (j - (i + 1)) + 1 by omega]
      simpa using h2
    · cases h

theorem keyThatStays_same {P : Program} {w : World} (k : Value) (h : (∃ q n, k = .int q n) ∨ ∃ b, k = .bool b) : (Instr.keyThatStays k k).run P w = .ok k w := by
  rcases h with ⟨q, n, rfl⟩ | ⟨b, rfl⟩ <;> simp [Instr.keyThatStays, Instr.sameBits]

theorem mapUpdate_sound {P : Program} {t sh m k v K ρ} {w : World} {m' k' v'} (h : mapUpdateS P t sh m k v K) (hρ : Rep ρ sh w.heap) (hm : VRel ρ m m') (hk : VRel ρ k k') (hv : VRel ρ v v') :
    ∃ sh' w', K sh' ∧ (Instr.mapUpdate t m' k' v').run P w = .ok () w' ∧ Rep ρ sh' w'.heap ∧ Step ρ sh w ρ sh' w' := by
  unfold mapUpdateS at h
  split at h
  · rename_i kt el id hu
    split at h
    · rename_i kvs hs
      split at h
      · rename_i hkey
        cases hm with
        | map he =>
        obtain ⟨e', he', es, clock, hb, hr, hlt, hpw⟩ := hρ.obj _ _ hs rfl
        rw [he] at he'; cases he'
        have hg := MapKept.run_getObj_map (P := P) hb
        have hck := key_sound (w := w) hkey hk false
        obtain ⟨r, r', g1, g2, g3⟩ := find_sound (w := w) hkey hk hr h
        cases g2 with
        | none =>
          obtain ⟨q1, q2⟩ := mapWrite hρ hs he hb (kvs ++ [(k, v)]) (es.push { key := k', val := v', born := clock }) (clock + 1) (by simpa using hr.snoc (e := { key := k', val := v', born := clock }) hk hv)
            (by intro x hx; simp at hx; rcases hx with hx | rfl; exact Nat.lt_succ_of_lt (hlt x (by simpa using hx)); exact Nat.lt_succ_self _)
            (by simp only [Array.toList_push, List.pairwise_append]; exact ⟨hpw, by simp, fun a ha b hb => by simp at hb; subst hb; exact hlt a ha⟩)
          refine ⟨_, _, g1, ?_, q1, q2⟩
          have hset := MapKept.run_setObj_map (P := P) (.map (es.push { key := k', val := v', born := clock }) (clock + 1)) hb
          simp [Instr.mapUpdate, run_underlying hu, hg, hck, g3, hset, Result.andThen]
        | some hvv =>
          rename_i i v1 v1'
          simp only at g1
          have hd : ∃ d, P.underlying kt = some d ∧ ((∃ q, d = .int q) ∨ d = .bool) ∧ ((∃ q n, k' = .int q n) ∨ ∃ b, k' = .bool b) := by
            unfold keyS at hkey
            split at hkey
            · rename_i hu'; cases hk; exact ⟨_, hu', .inl ⟨_, rfl⟩, .inl ⟨_, _, rfl⟩⟩
            · rename_i hu'; cases hk; exact ⟨_, hu', .inr rfl, .inr ⟨_, rfl⟩⟩
            · exact g1.elim
            · cases hkey
          obtain ⟨d, hu', hint, hkk⟩ := hd
          have g1' : K (sh.set id (.map (kvs.set i (k, v)))) := by
            split at g1
            · exact g1
            · exact g1
            · exact g1.elim
          obtain ⟨s, s', k1, k2, k3⟩ := findNow_sound hu' hint hk hr h
          have e1 := MapKept.run_findKey (w := w) hu' k3
          rw [g3] at e1
          have e2 : s' = some (i, v1') := by cases e1; rfl
          subst e2
          obtain ⟨en, _, m1, m2⟩ := findNow_hit hint k3
          simp only [Nat.sub_zero] at m1
          have hes : es[i]? = some en := by simpa using m1
          have hbi : ((es[i]?).map (·.key)).getD k' = k' := by rw [hes]; simpa using m2
          have hmod : (es.modify i fun e => { e with key := k', val := v' }).toList = es.toList.set i { en with key := k', val := v' } := by
            apply List.ext_getElem?
            intro j
            simp only [Array.getElem?_toList, Array.getElem?_modify, List.getElem?_set]
            by_cases hij : i = j
            · subst hij
              obtain ⟨hlt', hget⟩ := Array.getElem?_eq_some_iff.1 hes
              simp [hlt', hget]
            · simp [hij]
          obtain ⟨q1, q2⟩ := mapWrite hρ hs he hb (kvs.set i (k, v)) (es.modify i fun e => { e with key := k', val := v' }) clock (by rw [hmod]; exact hr.set hk hv i)
            (by
              intro x hx
              rw [hmod] at hx
              rcases List.mem_or_eq_of_mem_set hx with hx | rfl
              · exact hlt x hx
              · exact hlt en (List.mem_of_getElem? m1))
            (by
              rw [hmod]
              have hbs : (es.toList.set i { en with key := k', val := v' }).map (·.born) = es.toList.map (·.born) := by
                rw [List.map_set]
                apply List.ext_getElem?
                intro j
                rw [List.getElem?_set]
                by_cases hij : i = j
                · subst hij
                  obtain ⟨hlt', hget⟩ := Array.getElem?_eq_some_iff.1 hes
                  simp [hlt', hget]
                · simp [hij]
              have := List.pairwise_map.2 hpw
              rw [← hbs] at this
              exact List.pairwise_map.1 this)
          refine ⟨_, _, g1', ?_, q1, q2⟩
          have hset := MapKept.run_setObj_map (P := P) (.map (es.modify i fun e => { e with key := k', val := v' }) clock) hb
          simp only [Instr.mapUpdate, Sem.run_bind, run_underlying hu, hg, hck, g3, Result.andThen_ok, hbi, keyThatStays_same k' hkk, hset]
      · exact h.elim
    · exact h.elim
  · exact h.elim

theorem delete_sound {P : Program} {t ty sh m k K ρ} {w : World} {m' k'} (h : deleteS P t sh m k K) (hρ : Rep ρ sh w.heap) (hm : VRel ρ m m') (hk : VRel ρ k k') :
    ∃ sh' w', K sh' ∧ (∀ tys : Array TypeId, tys[0]? = some t → (Builtin.delete_ tys ty #[m', k']).run P w = .ok (.tuple #[]) w') ∧ Rep ρ sh' w'.heap ∧ Step ρ sh w ρ sh' w' := by
  unfold deleteS at h
  split at h
  · rename_i kt el hu
    split at h
    · rename_i hkey
      split at h
      · cases hm
        have hck := key_sound (w := w) hkey hk true
        refine ⟨_, w, h, fun tys ht => ?_, hρ, Step.refl _ _ _⟩
        simp [Builtin.delete_, ht, run_underlying hu, hck]
      · rename_i id
        cases hm with
        | map he =>
        split at h
        · rename_i kvs hs
          obtain ⟨e', he', es, clock, hb, hr, hlt, hpw⟩ := hρ.obj _ _ hs rfl
          rw [he] at he'; cases he'
          have hg := MapKept.run_getObj_map (P := P) hb
          have hck := key_sound (w := w) hkey hk es.isEmpty
          obtain ⟨r, r', g1, g2, g3⟩ := find_sound (w := w) hkey hk hr h
          cases g2 with
          | none =>
            obtain ⟨q1, q2⟩ := mapWrite hρ hs he hb kvs es clock hr hlt hpw
            refine ⟨_, _, g1, fun tys ht => ?_, q1, q2⟩
            have hset := MapKept.run_setObj_map (P := P) (.map es clock) hb
            simp [Builtin.delete_, ht, run_underlying hu, hg, hck, g3, hset, Result.andThen]
          | some hvv =>
            rename_i i v1 v1'
            simp only at g1
            have her : (es.eraseIdxIfInBounds i).toList = es.toList.eraseIdx i := by
              unfold Array.eraseIdxIfInBounds
              split
              · simp
              · rename_i hlt
                rw [List.eraseIdx_of_length_le (by simpa using hlt)]
            have hsub : ∀ x ∈ es.toList.eraseIdx i, x ∈ es.toList := fun x hx => (List.eraseIdx_sublist _ _).subset hx
            obtain ⟨q1, q2⟩ := mapWrite hρ hs he hb (kvs.eraseIdx i) (es.eraseIdxIfInBounds i) clock (by rw [her]; exact hr.erase i)
              (by rw [her]; exact fun x hx => hlt x (hsub x hx)) (by rw [her]; exact hpw.sublist (List.eraseIdx_sublist _ _))
            refine ⟨_, _, g1, fun tys ht => ?_, q1, q2⟩
            have hset := MapKept.run_setObj_map (P := P) (.map (es.eraseIdxIfInBounds i) clock) hb
            simp [Builtin.delete_, ht, run_underlying hu, hg, hck, g3, hset, Result.andThen]
        · exact h.elim
      · exact h.elim
    · exact h.elim
  · exact h.elim

end Go.Rv
