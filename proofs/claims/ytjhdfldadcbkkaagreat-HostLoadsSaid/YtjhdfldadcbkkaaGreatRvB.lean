/- A part of the evaluator of the model's code, or of its tables: what is proved is said in the claim's last text. -/
import Derived.Test.YtjhdfldadcbkkaaGreatRvA
namespace Go.Rv

/-! ## what is looked at once for a region -/

def maskOf (ms : List Nat) : List Edge → Nat
  | [] => 0
  | e :: l => (match Region.binds .any e with
    | true => ((1 <<< e.on) ||| ms.getD e.on 0) ||| maskOf ms l
    | false => maskOf ms l)

def masksGo : List Oper → List Nat → List Nat
  | [], ms => ms
  | o :: l, ms => masksGo l (ms ++ [maskOf ms o.after.toList])

def masks (ops : Array Oper) : List Nat := masksGo ops.toList []

def hasB (ms : List Nat) (i j : Nat) : Bool := (ms.getD i 0).testBit j

theorem maskOf_spec {ms : List Nat} {j : Nat} : ∀ {l : List Edge}, (maskOf ms l).testBit j = true → ∃ e ∈ l, Region.binds .any e = true ∧ (e.on = j ∨ (ms.getD e.on 0).testBit j = true)
  | [], h => by simp [maskOf] at h
  | e :: l, h => by
    unfold maskOf at h
    split at h
    · rename_i hb
      simp only [Nat.testBit_or, Bool.or_eq_true] at h
      rcases h with (h | h) | h
      · rw [Nat.one_shiftLeft, Nat.testBit_two_pow] at h
        exact ⟨e, List.mem_cons_self .., hb, .inl (of_decide_eq_true h)⟩
      · exact ⟨e, List.mem_cons_self .., hb, .inr h⟩
      · obtain ⟨e', h1, h2⟩ := maskOf_spec h
        exact ⟨e', List.mem_cons_of_mem _ h1, h2⟩
    · obtain ⟨e', h1, h2⟩ := maskOf_spec h
      exact ⟨e', List.mem_cons_of_mem _ h1, h2⟩

/-- whoever is marked came by an edge -/
def MOk (ops : List Oper) (ms : List Nat) : Prop :=
  ms.length ≤ ops.length ∧ ∀ i < ms.length, ∀ j, hasB ms i j = true → ∃ o, ops[i]? = some o ∧ ∃ e ∈ o.after.toList, Region.binds .any e = true ∧ (e.on = j ∨ (e.on < i ∧ hasB ms e.on j = true))

theorem masksGo_ok (ops : List Oper) : ∀ (l : List Oper) (ms : List Nat), ops.drop ms.length = l → MOk ops ms → MOk ops (masksGo l ms)
  | [], ms, _, h => h
  | o :: l, ms, hd, h => by
    have hlt : ms.length < ops.length := by
      by_cases hh : ms.length < ops.length
      · exact hh
      · rw [List.drop_eq_nil_of_le (by omega)] at hd; cases hd
    have ho : ops[ms.length]? = some o := by
      have := congrArg (fun l => l[0]?) hd
      simpa using this
    refine masksGo_ok ops l _ ?_ ?_
    · rw [List.length_append, List.length_singleton, ← List.drop_drop, hd]; rfl
    · refine ⟨by simp; omega, fun i hi j hj => ?_⟩
      simp only [List.length_append, List.length_singleton] at hi
      have old : ∀ k < ms.length, ∀ j, hasB (ms ++ [maskOf ms o.after.toList]) k j = hasB ms k j := by
        intro k hk j
        simp only [hasB, List.getD_eq_getElem?_getD, List.getElem?_append_left hk]
      by_cases hlt' : i < ms.length
      · rw [old i hlt'] at hj
        obtain ⟨o', h1, e, h2, h3, h4⟩ := h.2 i hlt' j hj
        refine ⟨o', h1, e, h2, h3, ?_⟩
        rcases h4 with h4 | ⟨h4, h5⟩
        · exact .inl h4
        · exact .inr ⟨h4, by rw [old e.on (by omega)]; exact h5⟩
      · have hi' : i = ms.length := by omega
        subst hi'
        have : (maskOf ms o.after.toList).testBit j = true := by
          simpa [hasB, List.getD_eq_getElem?_getD] using hj
        obtain ⟨e, h1, h2, h3⟩ := maskOf_spec this
        refine ⟨o, ho, e, h1, h2, ?_⟩
        rcases h3 with h3 | h3
        · exact .inl h3
        · by_cases hk : e.on < ms.length
          · exact .inr ⟨hk, by rw [old e.on hk]; exact h3⟩
          · rw [List.getD_eq_getElem?_getD, List.getElem?_eq_none (by omega)] at h3
            simp at h3

theorem masks_ok (ops : Array Oper) : MOk ops.toList (masks ops) :=
  masksGo_ok ops.toList ops.toList [] rfl ⟨by simp, fun i hi => by simp at hi⟩

/-- what is listed has all that comes ahead of it listed -/
def Down (ms : List Nat) (listed : Array Bool) : Prop := ∀ i, listed.getD i false = true → ∀ j, hasB ms i j = true → listed.getD j false = true

theorem mem_ready {ops : Array Oper} {listed : Array Bool} {i : Nat} (h : i ∈ Region.ready .any ops listed) :
    i < ops.size ∧ listed.getD i true = false ∧ ∃ o, ops[i]? = some o ∧ ∀ e ∈ o.after.toList, Region.binds .any e = true → listed.getD e.on false = true := by
  unfold Region.ready at h
  rw [List.mem_filter, List.mem_range] at h
  obtain ⟨h1, h2⟩ := h
  simp only [Bool.and_eq_true, Bool.not_eq_true'] at h2
  refine ⟨h1, h2.1, ops[i], Array.getElem?_eq_getElem h1, ?_⟩
  have h3 := h2.2
  rw [Array.getElem?_eq_getElem h1] at h3
  simp only [Option.map_some, Option.getD_some, Array.all_eq_true', Bool.or_eq_true, Bool.not_eq_true'] at h3
  intro e he hb
  rcases h3 e (by simpa using he) with h | h
  · rw [hb] at h; cases h
  · exact h

theorem ready_down {ops : Array Oper} {listed : Array Bool} (hD : Down (masks ops) listed) {i : Nat} (h : i ∈ Region.ready .any ops listed) (j : Nat) (hj : hasB (masks ops) i j = true) : listed.getD j false = true := by
  obtain ⟨h1, h2, o, h3, h4⟩ := mem_ready h
  have hm := masks_ok ops
  have hi : i < (masks ops).length := by
    by_cases hh : i < (masks ops).length
    · exact hh
    · unfold hasB at hj
      rw [List.getD_eq_getElem?_getD, List.getElem?_eq_none (by omega)] at hj
      simp at hj
  obtain ⟨o', g1, e, g2, g3, g4⟩ := hm.2 i hi j hj
  have : o' = o := by
    rw [Array.getElem?_toList] at g1
    exact Option.some.inj (g1.symm.trans h3)
  subst this
  have he := h4 e g2 g3
  rcases g4 with g4 | ⟨_, g4⟩
  · exact g4 ▸ he
  · exact hD _ he j g4

theorem getD_set {listed : Array Bool} {i j : Nat} (hi : i < listed.size) : (listed.setIfInBounds i true).getD j false = (decide (i = j) || listed.getD j false) := by
  simp only [Array.getD_eq_getD_getElem?, Array.getElem?_setIfInBounds]
  by_cases h : i = j
  · subst h; simp [hi]
  · simp [h]

theorem Down.set {ops : Array Oper} {listed : Array Bool} (hD : Down (masks ops) listed) {i : Nat} (h : i ∈ Region.ready .any ops listed) (hi : i < listed.size) : Down (masks ops) (listed.setIfInBounds i true) := by
  intro k hk j hj
  rw [getD_set hi] at hk ⊢
  simp only [Bool.or_eq_true, decide_eq_true_eq] at hk ⊢
  rcases hk with rfl | hk
  · exact .inr (ready_down hD h j hj)
  · exact .inr (hD k hk j hj)

/-! ## a region's order -/

def okPair (ops : Array Oper) (ms : List Nat) (j i : Nat) : Bool :=
  match ops[j]?, ops[i]? with
  | some oj, some oi => !(j == i) && !(oj.after.toList.any fun e => Region.binds .any e && e.on == i) && (hasB ms i j || (detO oj.op && oi.apart ops oj))
  | _, _ => false

def okPairs (ops : Array Oper) (ms : List Nat) : List Nat → Bool
  | [] => true
  | j :: l => (l.all fun i => okPair ops ms j i) && okPairs ops ms l

def okRe (ops : Array Oper) (ms : List Nat) : List (Nat × List Nat) → List Nat → Bool
  | [], _ => true
  | (i, re) :: l, seen => match ops[i]? with
    | some o => if detO o.op = true then okRe ops ms l (if freeO o.op = true then seen else i :: seen)
      else (seen.all fun j => hasB ms i j || re.contains j) && okRe ops ms l seen
    | none => false

def okEdges : Nat → List Oper → Bool
  | _, [] => true
  | n, o :: l => (o.after.toList.all fun e => !Region.binds .any e || decide (e.on < n)) && okEdges (n + 1) l

def okR (ops : Array Oper) (l : List (Nat × List Nat)) : Bool :=
  (l.map (·.1)).length == ops.size && ((List.range ops.size).all fun i => (l.map (·.1)).contains i) && ((l.map (·.1)).all fun i => decide (i < ops.size)) && okEdges 0 ops.toList &&
  okPairs ops (masks ops) (l.map (·.1)) && okRe ops (masks ops) l []

theorem okPairs_split {ops : Array Oper} {ms : List Nat} : ∀ {l1 : List Nat} {i : Nat} {l2 : List Nat}, okPairs ops ms (l1 ++ i :: l2) = true → (∀ j ∈ l1, okPair ops ms j i = true) ∧ (∀ k ∈ l2, okPair ops ms i k = true) ∧ okPairs ops ms (l1 ++ l2) = true
  | [], i, l2, h => by
    simp only [List.nil_append, okPairs, Bool.and_eq_true, List.all_eq_true] at h
    exact ⟨by simp, h.1, h.2⟩
  | j :: l1, i, l2, h => by
    simp only [List.cons_append, okPairs, Bool.and_eq_true, List.all_eq_true] at h ⊢
    obtain ⟨h1, h2⟩ := h
    obtain ⟨g1, g2, g3⟩ := okPairs_split h2
    refine ⟨fun k hk => ?_, g2, fun k hk => h1 k ?_, g3⟩
    · rcases List.mem_cons.1 hk with rfl | hk
      · exact h1 i (by simp)
      · exact g1 k hk
    · rcases List.mem_append.1 hk with hk | hk
      · exact List.mem_append_left _ hk
      · exact List.mem_append_right _ (List.mem_cons_of_mem _ hk)

theorem okPair_spec {ops : Array Oper} {ms : List Nat} {j i : Nat} (h : okPair ops ms j i = true) : j ≠ i ∧ (∀ oj, ops[j]? = some oj → ∀ e ∈ oj.after.toList, Region.binds .any e = true → e.on ≠ i) ∧
    (hasB ms i j = true ∨ ∀ oj oi, ops[j]? = some oj → ops[i]? = some oi → detO oj.op = true ∧ oi.apart ops oj = true) := by
  unfold okPair at h
  split at h
  · rename_i oj oi hj hi
    simp only [Bool.and_eq_true, Bool.not_eq_true', beq_eq_false_iff_ne, List.any_eq_false, Bool.or_eq_true, beq_iff_eq, not_and] at h
    obtain ⟨⟨h1, h2⟩, h3⟩ := h
    refine ⟨h1, fun o ho e he hb => ?_, ?_⟩
    · rw [hj] at ho; cases ho
      exact h2 e he hb
    · rcases h3 with h3 | h3
      · exact .inl h3
      · refine .inr fun o o' ho ho' => ?_
        rw [hj] at ho; rw [hi] at ho'; cases ho; cases ho'
        exact h3
  · cases h

theorem okEdges_spec : ∀ {n : Nat} {l : List Oper}, okEdges n l = true → ∀ i o, l[i]? = some o → ∀ e ∈ o.after.toList, Region.binds .any e = true → e.on < n + i
  | n, [], _, i, o, h => by simp at h
  | n, o' :: l, h, i, o, ho => by
    simp only [okEdges, Bool.and_eq_true, List.all_eq_true, Bool.or_eq_true, Bool.not_eq_true', decide_eq_true_eq] at h
    cases i with
    | zero =>
      simp only [List.getElem?_cons_zero, Option.some.injEq] at ho
      subst ho
      intro e he hb
      rcases h.1 e he with hh | hh
      · rw [hb] at hh; cases hh
      · simpa using hh
    | succ i =>
      intro e he hb
      have := okEdges_spec h.2 i o (by simpa using ho) e he hb
      omega

section
variable {P : Program} {ops : Array Oper} {K : Ts → SH → Prop} {Q : Exit → Act → World → Prop}

abbrev unB (ms : List Nat) : Nat → Nat → Prop := fun j i => hasB ms i j = false

theorem getD_same {listed : Array Bool} {i : Nat} (h : i < listed.size) (x y : Bool) : listed.getD i x = listed.getD i y := by
  rw [Array.getD_eq_getD_getElem?, Array.getD_eq_getD_getElem?, Array.getElem?_eq_getElem h]; rfl

/-- one operation of some order -/
theorem stepT {nt : Nat} (hd : ∀ o ∈ ops.toList, ∀ d, o.dst = some d → d < nt) {i : Nat} {oi : Oper} (hi : ops[i]? = some oi) {l1 l2 : List Nat} {ts : Ts} {sh : SH} {ρ : Inj} {w : World} {a : Act} {un : Nat → Nat → Prop}
    (hl : ∀ j ∈ l1, un j i ∧ ∀ oj, ops[j]? = some oj → detO oj.op = true ∧ oi.apart ops oj = true)
    (h : Tr P ops un K (l1 ++ i :: l2) [] ts sh) (h1 : Rep ρ sh w.heap) (h2 : TRel ρ ts a.tmps) (h3 : a.tmps.size = nt) {next : Act → World → Prop}
    (hn : ∀ ts' sh' ρ' w' a', Tr P ops un K (l1 ++ l2) [] ts' sh' → Rep ρ' sh' w'.heap → TRel ρ' ts' a'.tmps → a'.tmps.size = nt → a'.defers = a.defers → Step ρ sh w ρ' sh' w' → next a' w') :
    wpOp P ops Q i next a w := by
  have hdst : ∀ (v' : Value), (a.put oi.dst v').tmps.size = nt := fun v' => by
    unfold Act.put
    cases oi.dst <;> simp [h3]
  have hdf : ∀ (v' : Value), (a.put oi.dst v').defers = a.defers := fun v' => by
    unfold Act.put
    cases oi.dst <;> rfl
  have hput : ∀ {ρ' : Inj} {v v'}, TRel ρ' ts a.tmps → VRel ρ' v v' → TRel ρ' (putS oi.dst v ts) (a.put oi.dst v').tmps := by
    intro ρ' v v' ht hv
    cases hod : oi.dst with
    | none => exact ht
    | some d => exact ht.set hv (by rw [h3]; exact hd oi (by
        rw [Array.mem_toList_iff]; exact Array.mem_of_getElem? hi) d hod)
  unfold wpOp
  simp only [hi]
  cases hdet : detO oi.op with
  | true =>
    obtain ⟨v, k1, k2⟩ := Tr.moveF P ops hi hdet (fun j hj => (hl j hj).2) h
    obtain ⟨v', k3, k4⟩ := k1 ρ w a h1 (h2.on _)
    have fin := hn _ sh ρ w (a.put oi.dst v') k2 h1 (hput h2 k3) (hdst v') (hdf v') (Step.refl _ _ _)
    rcases k4 with ⟨k4, k5⟩ | ⟨k4, rfl⟩
    · simp only [k4, if_true]
      left
      simp only [Oper.wp, k5, Oper.upon_value]
      exact fin
    · simp only [k4, Bool.false_eq_true, if_false]
      exact fin
  | false =>
    have k := Tr.moveE P ops hi hdet hl h ρ w a h1 (h2.on _) next Q ?_
    · rcases k with ⟨k4, k5⟩ | ⟨k4, k5⟩
      · simp only [k4, if_true]
        exact .inl k5
      · simp only [k4, Bool.false_eq_true, if_false]
        exact k5
    · intro v v' sh' ρ' w' ⟨_, k2⟩ k3 k6 k7
      exact hn _ sh' ρ' w' (a.put oi.dst v') k2 k6 (hput (h2.mono k7.le) k3) (hdst v') (hdf v') k7

/-- a list without what is listed anew -/
theorem mem_less {listed : Array Bool} (hls : listed.size = ops.size) {i : Nat} (hi : i < ops.size) {l1 l2 : List Nat} (hL : ∀ k, k ∈ l1 ++ i :: l2 ↔ k < ops.size ∧ listed.getD k false = false)
    (n1 : ∀ k ∈ l1, k ≠ i) (n2 : ∀ k ∈ l2, i ≠ k) (k : Nat) : k ∈ l1 ++ l2 ↔ k < ops.size ∧ (listed.setIfInBounds i true).getD k false = false := by
  rw [getD_set (by omega)]
  simp only [Bool.or_eq_false_iff, decide_eq_false_iff_not]
  constructor
  · intro hk
    have hk' : k ∈ l1 ++ i :: l2 := by
      rcases List.mem_append.1 hk with hk | hk
      · exact List.mem_append_left _ hk
      · exact List.mem_append_right _ (List.mem_cons_of_mem _ hk)
    obtain ⟨q1, q2⟩ := (hL k).1 hk'
    refine ⟨q1, ?_, q2⟩
    rcases List.mem_append.1 hk with hk | hk
    · exact fun he => n1 k hk he.symm
    · exact n2 k hk
  · rintro ⟨q1, q2, q3⟩
    have := (hL k).2 ⟨q1, q3⟩
    rcases List.mem_append.1 this with hk | hk
    · exact List.mem_append_left _ hk
    · rcases List.mem_cons.1 hk with hk | hk
      · exact absurd hk.symm q2
      · exact List.mem_append_right _ hk

theorem head_ready {listed : Array Bool} (hls : listed.size = ops.size) (hE : okEdges 0 ops.toList = true) {i : Nat} {L : List Nat} (hL : ∀ k, k ∈ i :: L ↔ k < ops.size ∧ listed.getD k false = false)
    (hok : ∀ k ∈ L, ∀ oj, ops[i]? = some oj → ∀ e ∈ oj.after.toList, Region.binds .any e = true → e.on ≠ k) : i ∈ Region.ready .any ops listed := by
  obtain ⟨g1, g2⟩ := (hL i).1 (List.mem_cons_self ..)
  unfold Region.ready
  rw [List.mem_filter, List.mem_range]
  refine ⟨g1, ?_⟩
  rw [Array.getElem?_eq_getElem g1]
  simp only [Bool.and_eq_true, Bool.not_eq_true', Option.map_some, Option.getD_some, Array.all_eq_true', Bool.or_eq_true]
  refine ⟨(getD_same (by omega) _ _).trans g2, fun e he => ?_⟩
  cases hb : Region.binds .any e with
  | false => exact .inl rfl
  | true =>
    refine .inr ?_
    cases hl : listed.getD e.on false with
    | true => rfl
    | false =>
      have hlt := okEdges_spec hE i ops[i] (by rw [Array.getElem?_toList]; exact Array.getElem?_eq_getElem g1) e (by simpa using he) hb
      have hm : e.on ∈ i :: L := (hL e.on).2 ⟨by omega, hl⟩
      rcases List.mem_cons.1 hm with hm | hm
      · omega
      · exact absurd rfl (hok e.on hm ops[i] (Array.getElem?_eq_getElem g1) e (by simpa using he) hb)

/-- any order comes to what the one order comes to -/
theorem bubble {nt : Nat} {ρ0 : Inj} {sh0 : SH} {w0 : World} {df : List Deferred} (hE : okEdges 0 ops.toList = true)
    (hq : ∀ ts' sh' ρ' w' a', K ts' sh' → TRel ρ' ts' a'.tmps → a'.tmps.size = nt → a'.defers = df → Rep ρ' sh' w'.heap → Step ρ0 sh0 w0 ρ' sh' w' → Q .normal a' w')
    (hd : ∀ o ∈ ops.toList, ∀ d, o.dst = some d → d < nt) :
    ∀ (n : Nat) (L : List Nat) (listed : Array Bool) (ts : Ts) (sh : SH) (ρ : Inj) (w : World) (a : Act), L.length = n → listed.size = ops.size →
    (∀ i, i ∈ L ↔ i < ops.size ∧ listed.getD i false = false) → okPairs ops (masks ops) L = true → Down (masks ops) listed →
    Tr P ops (unB (masks ops)) K L [] ts sh → Rep ρ sh w.heap → TRel ρ ts a.tmps → a.tmps.size = nt → a.defers = df → Step ρ0 sh0 w0 ρ sh w →
    wpAny P .any ops Q n listed a w
  | 0, L, listed, ts, sh, ρ, w, a, hn, hls, hL, hok, hD, h, h1, h2, h3, h4, h5 => by
    have hL0 : L = [] := List.eq_nil_of_length_eq_zero hn
    subst hL0
    obtain ⟨ts0, k1, k2⟩ := h
    refine ⟨?_, hq ts0 sh ρ w a k2 (fun t v hv => h2 t v ((k1 t).trans hv)) h3 h4 h1 h5⟩
    refine List.eq_nil_iff_forall_not_mem.2 fun i hi => ?_
    obtain ⟨g1, g2, _⟩ := mem_ready hi
    have : i ∈ ([] : List Nat) := (hL i).2 ⟨g1, (getD_same (by omega) _ _).trans g2⟩
    cases this
  | n + 1, L, listed, ts, sh, ρ, w, a, hn, hls, hL, hok, hD, h, h1, h2, h3, h4, h5 => by
    refine ⟨fun hr => ?_, fun i hi => ?_⟩
    · exfalso
      cases L with
      | nil => simp at hn
      | cons i L =>
        have := head_ready hls hE hL fun k hk => (okPair_spec ((okPairs_split (l1 := []) hok).2.1 k hk)).2.1
        rw [hr] at this; cases this
    · obtain ⟨g1, g2, oi, g3, g4⟩ := mem_ready hi
      obtain ⟨l1, l2, hsp⟩ := List.append_of_mem ((hL i).2 ⟨g1, (getD_same (by omega) _ _).trans g2⟩)
      subst hsp
      obtain ⟨p1, p2, p3⟩ := okPairs_split hok
      have un : ∀ j ∈ l1, hasB (masks ops) i j = false := by
        intro j hj
        cases hh : hasB (masks ops) i j with
        | false => rfl
        | true =>
          have := ready_down hD hi j hh
          have h' := ((hL j).1 (List.mem_append_left _ hj)).2
          rw [this] at h'; cases h'
      have hl : ∀ j ∈ l1, unB (masks ops) j i ∧ ∀ oj, ops[j]? = some oj → detO oj.op = true ∧ oi.apart ops oj = true := by
        refine fun j hj => ⟨un j hj, fun oj hoj => ?_⟩
        rcases (okPair_spec (p1 j hj)).2.2 with hh | hh
        · rw [un j hj] at hh; cases hh
        · exact hh oj oi hoj g3
      refine stepT hd g3 hl h h1 h2 h3 ?_
      intro ts' sh' ρ' w' a' k1 k2 k3 k4 k5 k6
      exact bubble hE hq hd n (l1 ++ l2) _ ts' sh' ρ' w' a' (by simp at hn ⊢; omega) (by simpa using hls) (mem_less hls g1 hL (fun k hk => (okPair_spec (p1 k hk)).1) (fun k hk => (okPair_spec (p2 k hk)).1)) p3 (hD.set hi (by omega)) k1 k2 k3 k4 (k5.trans h4) (h5.trans k6)

/-! ### two operations that may come in either order -/

/-- x stands ahead of y, and only what changes nothing stands ahead of x -/
def okPairs2 (ops : Array Oper) (ms : List Nat) (x y : Nat) : List Nat → Bool
  | [] => false
  | j :: l => if j = x then (l.all fun i => !(j == i) && !(((ops[j]?).map fun oj => oj.after.toList.any fun e => Region.binds .any e && e.on == i).getD true)) && l.contains y && okPairs ops ms l && (l.all fun i => i == y || hasB ms i y || okPair ops ms j i)
    else !(j == y) && (l.all fun i => okPair ops ms j i) && ((ops[j]?).map fun oj => detO oj.op).getD false && okPairs2 ops ms x y l

theorem okPairs2_at {ms : List Nat} {x y : Nat} : ∀ {L : List Nat}, okPairs2 ops ms x y L = true → ∃ m r, L = m ++ x :: r ∧ (∀ j ∈ m, okPair ops ms j x = true) ∧ okPairs ops ms (m ++ r) = true ∧ ∀ k ∈ r, x ≠ k
  | [], h => by cases h
  | j :: l, h => by
    unfold okPairs2 at h
    split at h
    · rename_i hj
      subst hj
      simp only [Bool.and_eq_true, List.all_eq_true, Bool.not_eq_true', beq_eq_false_iff_ne] at h
      exact ⟨[], l, rfl, by simp, h.1.2, fun k hk => (h.1.1.1 k hk).1⟩
    · rename_i hj
      simp only [Bool.and_eq_true, List.all_eq_true, Bool.not_eq_true', beq_eq_false_iff_ne] at h
      obtain ⟨⟨⟨h1, h2⟩, h3⟩, h4⟩ := h
      obtain ⟨m, r, rfl, g1, g2, g3⟩ := okPairs2_at h4
      refine ⟨j :: m, r, rfl, fun k hk => ?_, ?_, g3⟩
      · rcases List.mem_cons.1 hk with rfl | hk
        · exact h2 x (by simp)
        · exact g1 k hk
      · simp only [List.cons_append, okPairs, Bool.and_eq_true, List.all_eq_true]
        refine ⟨fun k hk => h2 k ?_, g2⟩
        rcases List.mem_append.1 hk with hk | hk
        · exact List.mem_append_left _ hk
        · exact List.mem_append_right _ (List.mem_cons_of_mem _ hk)

theorem okPairs2_behind {ms : List Nat} {x y i : Nat} {l2 : List Nat} : ∀ {l1 : List Nat}, okPairs2 ops ms x y (l1 ++ i :: l2) = true → x ∈ l1 → (i = y ∨ hasB ms i y = true) ∨ okPair ops ms x i = true
  | [], _, hx => by cases hx
  | j :: l1, h, hx => by
    simp only [List.cons_append, okPairs2] at h
    split at h
    · rename_i hj
      subst hj
      simp only [Bool.and_eq_true, List.all_eq_true, Bool.or_eq_true, beq_iff_eq] at h
      exact h.2 i (by simp)
    · rename_i hj
      simp only [Bool.and_eq_true] at h
      rcases List.mem_cons.1 hx with rfl | hx
      · exact absurd rfl hj
      · exact okPairs2_behind h.2 hx

theorem okPairs2_mem {ms : List Nat} {x y : Nat} : ∀ {L : List Nat}, okPairs2 ops ms x y L = true → y ∈ L
  | [], h => by cases h
  | j :: l, h => by
    unfold okPairs2 at h
    split at h
    · simp only [Bool.and_eq_true, List.contains_iff_mem] at h
      exact List.mem_cons_of_mem _ h.1.1.2
    · simp only [Bool.and_eq_true] at h
      exact List.mem_cons_of_mem _ (okPairs2_mem h.2)

theorem okPairs2_del {ms : List Nat} {x y i : Nat} (hix : i ≠ x) {l2 : List Nat} : ∀ {l1 : List Nat}, okPairs2 ops ms x y (l1 ++ i :: l2) = true → x ∉ l1 →
    (∀ j ∈ l1, okPair ops ms j i = true) ∧ (∀ k ∈ l2, okPair ops ms i k = true) ∧ ((ops[i]?).map fun oj => detO oj.op).getD false = true ∧ okPairs2 ops ms x y (l1 ++ l2) = true ∧ (∀ j ∈ l1, ((ops[j]?).map fun oj => detO oj.op).getD false = true)
  | [], h, _ => by
    simp only [List.nil_append, okPairs2, if_neg hix, Bool.and_eq_true, List.all_eq_true] at h
    exact ⟨by simp, h.1.1.2, h.1.2, h.2, by simp⟩
  | j :: l1, h, hx => by
    simp only [List.mem_cons, not_or] at hx
    have hj : ¬ j = x := fun e => hx.1 e.symm
    simp only [List.cons_append, okPairs2, if_neg hj, Bool.and_eq_true, List.all_eq_true] at h ⊢
    obtain ⟨⟨⟨h1, h2⟩, h3⟩, h4⟩ := h
    obtain ⟨g1, g2, g3, g4, g5⟩ := okPairs2_del hix h4 hx.2
    refine ⟨fun k hk => ?_, g2, g3, ⟨⟨⟨h1, fun k hk => h2 k ?_⟩, h3⟩, g4⟩, fun k hk => ?_⟩
    · rcases List.mem_cons.1 hk with rfl | hk
      · exact h2 i (by simp)
      · exact g1 k hk
    · rcases List.mem_append.1 hk with hk | hk
      · exact List.mem_append_left _ hk
      · exact List.mem_append_right _ (List.mem_cons_of_mem _ hk)
    · rcases List.mem_cons.1 hk with rfl | hk
      · exact h3
      · exact g5 k hk

theorem okPairs2_head {ms : List Nat} {x y i : Nat} {L : List Nat} (h : okPairs2 ops ms x y (i :: L) = true) : ∀ k ∈ L, ∀ oj, ops[i]? = some oj → ∀ e ∈ oj.after.toList, Region.binds .any e = true → e.on ≠ k := by
  intro k hk
  unfold okPairs2 at h
  split at h
  · rename_i hj
    simp only [Bool.and_eq_true, List.all_eq_true, Bool.not_eq_true'] at h
    have := (h.1.1.1 k hk).2
    intro oj hoj e he hb hek
    rw [hoj] at this
    simp only [Option.map_some, Option.getD_some, List.any_eq_false, Bool.and_eq_true, beq_iff_eq, not_and] at this
    exact this e he hb hek
  · simp only [Bool.and_eq_true, List.all_eq_true] at h
    exact (okPair_spec (h.1.1.2 k hk)).2.1

theorem bubble2 {nt : Nat} {ρ0 : Inj} {sh0 : SH} {w0 : World} {df : List Deferred} {x y : Nat} (hx : ((ops[x]?).map fun o => detO o.op).getD true = false) (hy : ((ops[y]?).map fun o => detO o.op).getD true = false) (hE : okEdges 0 ops.toList = true)
    (hq : ∀ ts' sh' ρ' w' a', K ts' sh' → TRel ρ' ts' a'.tmps → a'.tmps.size = nt → a'.defers = df → Rep ρ' sh' w'.heap → Step ρ0 sh0 w0 ρ' sh' w' → Q .normal a' w')
    (hd : ∀ o ∈ ops.toList, ∀ d, o.dst = some d → d < nt) :
    ∀ (n : Nat) (L M : List Nat) (listed : Array Bool) (ts us : Ts) (sh : SH) (ρ : Inj) (w : World) (a : Act), L.length = n → M.length = n → listed.size = ops.size →
    (∀ i, i ∈ L ↔ i < ops.size ∧ listed.getD i false = false) → (∀ i, i ∈ M ↔ i < ops.size ∧ listed.getD i false = false) →
    okPairs2 ops (masks ops) x y L = true → okPairs2 ops (masks ops) y x M = true → Down (masks ops) listed →
    Tr P ops (unB (masks ops)) K L [] ts sh → Tr P ops (unB (masks ops)) K M [] us sh → Rep ρ sh w.heap → TRel ρ ts a.tmps → TRel ρ us a.tmps → a.tmps.size = nt → a.defers = df → Step ρ0 sh0 w0 ρ sh w →
    wpAny P .any ops Q n listed a w
  | 0, L, M, listed, ts, us, sh, ρ, w, a, hn, hn', hls, hL, hM, hok, hok', hD, h, h', h1, h2, h2', h3, h4, h5 => by
    have hL0 : L = [] := List.eq_nil_of_length_eq_zero hn
    subst hL0
    cases hok
  | n + 1, L, M, listed, ts, us, sh, ρ, w, a, hn, hn', hls, hL, hM, hok, hok', hD, h, h', h1, h2, h2', h3, h4, h5 => by
    refine ⟨fun hr => ?_, fun i hi => ?_⟩
    · exfalso
      cases L with
      | nil => simp at hn
      | cons i L =>
        have := head_ready hls hE hL (okPairs2_head hok)
        rw [hr] at this; cases this
    · obtain ⟨g1, g2, oi, g3, g4⟩ := mem_ready hi
      have unl : ∀ L : List Nat, (∀ i, i ∈ L ↔ i < ops.size ∧ listed.getD i false = false) → ∀ j ∈ L, hasB (masks ops) i j = false := by
        intro L hL j hj
        cases hh : hasB (masks ops) i j with
        | false => rfl
        | true =>
          have := ready_down hD hi j hh
          have h' := ((hL j).1 hj).2
          rw [this] at h'; cases h'
      have prep : ∀ (L l1 l2 : List Nat), (∀ i, i ∈ L ↔ i < ops.size ∧ listed.getD i false = false) → L = l1 ++ i :: l2 → (∀ j ∈ l1, okPair ops (masks ops) j i = true) →
          ∀ j ∈ l1, unB (masks ops) j i ∧ ∀ oj, ops[j]? = some oj → detO oj.op = true ∧ oi.apart ops oj = true := by
        intro L l1 l2 hL he hp j hj
        have hu := unl L hL j (by rw [he]; exact List.mem_append_left _ hj)
        refine ⟨hu, fun oj hoj => ?_⟩
        rcases (okPair_spec (hp j hj)).2.2 with hh | hh
        · rw [hu] at hh; cases hh
        · exact hh oj oi hoj g3
      have first : ∀ (x y : Nat) (L : List Nat) (ts : Ts), L.length = n + 1 → i = x → (∀ i, i ∈ L ↔ i < ops.size ∧ listed.getD i false = false) → okPairs2 ops (masks ops) x y L = true →
          Tr P ops (unB (masks ops)) K L [] ts sh → TRel ρ ts a.tmps → wpOp P ops Q i (wpAny P .any ops Q n (listed.setIfInBounds i true)) a w := by
        intro x y L ts hn hix hL hok h h2
        subst hix
        obtain ⟨m, r, rfl, k1, k2, k3⟩ := okPairs2_at hok
        refine stepT hd g3 (prep _ m r hL rfl k1) h h1 h2 h3 ?_
        intro ts' sh' ρ' w' a' q1 q2 q3 q4 q5 q6
        exact bubble hE hq hd n (m ++ r) _ ts' sh' ρ' w' a' (by simp at hn ⊢; omega) (by simpa using hls) (mem_less hls g1 hL (fun k hk => (okPair_spec (k1 k hk)).1) k3) k2 (hD.set hi (by omega)) q1 q2 q3 q4 (q5.trans h4) (h5.trans q6)
      by_cases hix : i = x
      · exact first x y L ts hn hix hL hok h h2
      by_cases hiy : i = y
      · exact first y x M us hn' hiy hM hok' h' h2'
      obtain ⟨l1, l2, hsp⟩ := List.append_of_mem ((hL i).2 ⟨g1, (getD_same (by omega) _ _).trans g2⟩)
      obtain ⟨m1, m2, hsp'⟩ := List.append_of_mem ((hM i).2 ⟨g1, (getD_same (by omega) _ _).trans g2⟩)
      have nx : ∀ (x y : Nat) (L l1 l2 : List Nat), L = l1 ++ i :: l2 → ¬ i = y → ((ops[x]?).map fun o => detO o.op).getD true = false → (∀ i, i ∈ L ↔ i < ops.size ∧ listed.getD i false = false) → okPairs2 ops (masks ops) x y L = true → x ∉ l1 := by
        intro x y L l1 l2 he hiy hx hL hok hm
        subst he
        rcases okPairs2_behind hok hm with (hh | hh) | hh
        · exact hiy hh
        · have := unl _ hL y (okPairs2_mem hok)
          rw [hh] at this; cases this
        · rcases (okPair_spec hh).2.2 with hh | hh
          · rw [unl _ hL x (List.mem_append_left _ hm)] at hh; cases hh
          · have hxs := ((hL x).1 (List.mem_append_left _ hm)).1
            have := (hh ops[x] oi (Array.getElem?_eq_getElem hxs) g3).1
            rw [Array.getElem?_eq_getElem hxs] at hx
            simp only [Option.map_some, Option.getD_some] at hx
            rw [this] at hx; cases hx
      have nx1 := nx x y L l1 l2 hsp hiy hx hL hok
      have nx2 := nx y x M m1 m2 hsp' hix hy hM hok'
      subst hsp hsp'
      obtain ⟨p1, p2, p3, p4, p5⟩ := okPairs2_del hix hok nx1
      obtain ⟨r1, r2, r3, r4, r5⟩ := okPairs2_del hiy hok' nx2
      have hdet : detO oi.op = true := by
        rw [g3] at p3
        simpa using p3
      obtain ⟨v, k1, k2⟩ := Tr.moveF P ops g3 hdet (fun j hj => (prep _ l1 l2 hL rfl p1 j hj).2) h
      obtain ⟨u, k1', k2'⟩ := Tr.moveF P ops g3 hdet (fun j hj => (prep _ m1 m2 hM rfl r1 j hj).2) h'
      obtain ⟨v', k3, k4⟩ := k1 ρ w a h1 (h2.on _)
      obtain ⟨u', k3', k4'⟩ := k1' ρ w a h1 (h2'.on _)
      have huv : u' = v' := by
        rcases k4 with ⟨k4, k5⟩ | ⟨k4, k5⟩ <;> rcases k4' with ⟨k4', k5'⟩ | ⟨k4', k5'⟩
        · rw [k5] at k5'; cases k5'; rfl
        · rw [k4] at k4'; cases k4'
        · rw [k4] at k4'; cases k4'
        · exact k5'.trans k5.symm
      subst huv
      have hdst : (a.put oi.dst u').tmps.size = nt := by
        unfold Act.put
        cases oi.dst <;> simp [h3]
      have hdf : (a.put oi.dst u').defers = a.defers := by
        unfold Act.put
        cases oi.dst <;> rfl
      have hput : ∀ {ts v}, TRel ρ ts a.tmps → VRel ρ v u' → TRel ρ (putS oi.dst v ts) (a.put oi.dst u').tmps := by
        intro ts v ht hv
        cases hod : oi.dst with
        | none => exact ht
        | some d => exact ht.set hv (by rw [h3]; exact hd oi (by
            rw [Array.mem_toList_iff]; exact Array.mem_of_getElem? g3) d hod)
      have fin := bubble2 hx hy hE hq hd n (l1 ++ l2) (m1 ++ m2) _ _ _ sh ρ w (a.put oi.dst u') (by simp at hn ⊢; omega) (by simp at hn' ⊢; omega) (by simpa using hls)
        (mem_less hls g1 hL (fun k hk => (okPair_spec (p1 k hk)).1) (fun k hk => (okPair_spec (p2 k hk)).1))
        (mem_less hls g1 hM (fun k hk => (okPair_spec (r1 k hk)).1) (fun k hk => (okPair_spec (r2 k hk)).1)) p4 r4 (hD.set hi (by omega)) k2 k2' h1 (hput h2 k3) (hput h2' k3') hdst (hdf.trans h4) h5
      unfold wpOp
      simp only [g3]
      rcases k4 with ⟨k4, k5⟩ | ⟨k4, rfl⟩
      · simp only [k4, if_true]
        left
        simp only [Oper.wp, k5, Oper.upon_value]
        exact fin
      · simp only [k4, Bool.false_eq_true, if_false]
        exact fin

end

def okR2 (ops : Array Oper) (x y : Nat) (l : List (Nat × List Nat)) : Bool :=
  (l.map (·.1)).length == ops.size && ((List.range ops.size).all fun i => (l.map (·.1)).contains i) && ((l.map (·.1)).all fun i => decide (i < ops.size)) && okEdges 0 ops.toList &&
  okPairs2 ops (masks ops) x y (l.map (·.1)) && okRe ops (masks ops) l [] && !(((ops[x]?).map fun o => detO o.op).getD true)

end Go.Rv
