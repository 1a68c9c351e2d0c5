/- A part of the evaluator of the model's code, or of its tables: what is proved is said in the claim's last text. -/
import Derived.Test.YtjhdfldadcbkkaaGreatRvE
namespace Go.Rv
set_option linter.unusedVariables false
section
variable {P : Program} {ops : Array Oper} {K : Ts → SH → Prop} {Q : Exit → Act → World → Prop}

theorem okPairs_sub {ms : List Nat} : ∀ {l l' : List Nat}, List.Sublist l l' → okPairs ops ms l' = true → okPairs ops ms l = true
  | _, _, .slnil, _ => rfl
  | _, _, .cons a h, hp => by
    simp only [okPairs, Bool.and_eq_true] at hp
    exact okPairs_sub h hp.2
  | _, _, .cons_cons a h, hp => by
    simp only [okPairs, Bool.and_eq_true, List.all_eq_true] at hp ⊢
    exact ⟨fun i hi => hp.1 i (h.subset hi), okPairs_sub h hp.2⟩

theorem ready_ne {listed : Array Bool} (hls : listed.size = ops.size) (hE : okEdges 0 ops.toList = true) : ∀ (i : Nat), i < ops.size → listed.getD i false = false → Region.ready .any ops listed ≠ [] := by
  intro i
  induction i using Nat.strongRecOn with
  | _ i ih =>
    intro hi hu hr
    have hrdy : i ∈ Region.ready .any ops listed := by
      unfold Region.ready
      rw [List.mem_filter, List.mem_range]
      refine ⟨hi, ?_⟩
      rw [Array.getElem?_eq_getElem hi]
      simp only [Bool.and_eq_true, Bool.not_eq_true', Option.map_some, Option.getD_some, Array.all_eq_true', Bool.or_eq_true]
      refine ⟨(getD_same (by omega) _ _).trans hu, fun e he => ?_⟩
      cases hb : Region.binds .any e with
      | false => exact .inl rfl
      | true =>
        refine .inr ?_
        cases hl : listed.getD e.on false with
        | true => rfl
        | false =>
          have hlt := okEdges_spec hE i ops[i] (by rw [Array.getElem?_toList]; exact Array.getElem?_eq_getElem hi) e (by simpa using he) hb
          exact absurd hr (ih e.on (by omega) (by omega) hl)
    rw [hr] at hrdy; cases hrdy

theorem put_other {a : Act} {dst : Option Nat} {v : Value} {d : Nat} (h : dst ≠ some d) : (a.put dst v).tmps[d]? = a.tmps[d]? := by
  unfold Act.put
  cases dst with
  | none => rfl
  | some e => simp only; rw [Array.getElem?_setIfInBounds_ne (fun he => h (by rw [he]))]

theorem put_self {a : Act} {d : Nat} {v : Value} (h : d < a.tmps.size) : (a.put (some d) v).tmps[d]? = some v := by
  simp [Act.put, h]

theorem mem_dsts {i : Nat} {o : Oper} {d : Nat} (ho : ops[i]? = some o) (hd : o.dst = some d) : ∀ {al : List Nat}, i ∈ al → d ∈ dstsOf ops al := by
  intro al
  induction al with
  | nil => intro hi; cases hi
  | cons j l ih =>
    intro hi
    unfold dstsOf
    rcases List.mem_cons.1 hi with rfl | hi
    · rw [ho]; simp [hd]
    · have := ih hi
      split
      · split
        · exact List.mem_cons_of_mem _ this
        · exact this
      · exact this

theorem nodup_map_on {f : Nat → Nat} : ∀ {l : List Nat}, l.Nodup → (∀ i ∈ l, ∀ j ∈ l, f i = f j → i = j) → (l.map f).Nodup
  | [], _, _ => by simp
  | i :: l, hn, h => by
    obtain ⟨h1, h2⟩ := List.nodup_cons.1 hn
    rw [List.map_cons]
    refine List.nodup_cons.2 ⟨fun hm => ?_, nodup_map_on h2 fun a ha b hb => h a (List.mem_cons_of_mem _ ha) b (List.mem_cons_of_mem _ hb)⟩
    obtain ⟨j, hj, he⟩ := List.mem_map.1 hm
    have := h j (List.mem_cons_of_mem _ hj) i (List.mem_cons_self ..) he
    subst this
    exact h1 hj

theorem nodup_mid {l1 l2 : List Nat} {i : Nat} (h : (l1 ++ i :: l2).Nodup) : i ∉ l1 ++ l2 := by
  obtain ⟨_, h2, h3⟩ := List.nodup_append.1 h
  intro hm
  rcases List.mem_append.1 hm with hm | hm
  · exact h3 i hm i (List.mem_cons_self ..) rfl
  · exact (List.nodup_cons.1 h2).1 hm

theorem of_mem_dsts {d : Nat} : ∀ {al : List Nat}, d ∈ dstsOf ops al → ∃ i ∈ al, ∃ o, ops[i]? = some o ∧ o.dst = some d := by
  intro al
  induction al with
  | nil => intro h; simp [dstsOf] at h
  | cons j l ih =>
    intro h
    unfold dstsOf at h
    split at h
    · rename_i o ho
      split at h
      · rename_i e he
        rcases List.mem_cons.1 h with rfl | h
        · exact ⟨j, List.mem_cons_self .., o, ho, he⟩
        · obtain ⟨i, h1, h2⟩ := ih h; exact ⟨i, List.mem_cons_of_mem _ h1, h2⟩
      · obtain ⟨i, h1, h2⟩ := ih h; exact ⟨i, List.mem_cons_of_mem _ h1, h2⟩
    · obtain ⟨i, h1, h2⟩ := ih h; exact ⟨i, List.mem_cons_of_mem _ h1, h2⟩

theorem allocO_at {nt : Nat} : ∀ {al : List Nat} {ds zs}, allocO P nt ops al = some (ds, zs) → ∀ i ∈ al, ∃ o t d z, ops[i]? = some o ∧ o.op = .alloc t ∧ o.dst = some d ∧ o.guard = none ∧ zeroS P t = some z ∧ d < nt := by
  intro al
  induction al with
  | nil => intro ds zs h i hi; cases hi
  | cons j l ih =>
    intro ds zs h i hi
    unfold allocO at h
    split at h
    · rename_i o ho
      split at h
      · rename_i t d hop hdst hg
        split at h
        · rename_i z ds' zs' hz hl
          split at h
          · rename_i hdn
            rcases List.mem_cons.1 hi with rfl | hi
            · exact ⟨o, t, d, z, ho, hop, hdst, hg, hz, hdn⟩
            · exact ih hl i hi
          · cases h
        · cases h
      · cases h
    · cases h

theorem dstInj {i j : Nat} {o o' : Oper} {d : Nat} : ∀ {al : List Nat}, (dstsOf ops al).Nodup → i ∈ al → j ∈ al → ops[i]? = some o → ops[j]? = some o' → o.dst = some d → o'.dst = some d → i = j := by
  intro al
  induction al with
  | nil => intro _ hi; cases hi
  | cons k l ih =>
    intro hn hi hj ho ho' hd hd'
    unfold dstsOf at hn
    rcases List.mem_cons.1 hi with rfl | hi <;> rcases List.mem_cons.1 hj with rfl | hj
    · rfl
    · rw [ho] at hn
      simp only [hd] at hn
      exact absurd (mem_dsts ho' hd' hj) (List.nodup_cons.1 hn).1
    · rw [ho'] at hn
      simp only [hd'] at hn
      exact absurd (mem_dsts (al := l) ho hd (by assumption)) (List.nodup_cons.1 hn).1
    · have hn' : (dstsOf ops l).Nodup := by
        split at hn
        · split at hn
          · exact (List.nodup_cons.1 hn).2
          · exact hn
        · exact hn
      exact ih hn' hi hj ho ho' hd hd'

theorem allocSame (w : World) (o : Obj) {c : Nat} (hc : c < w.heap.size) : (w.alloc o).heap[c]? = w.heap[c]? := by
  show (w.heap.push o)[c]? = _
  rw [Array.getElem?_push, if_neg (by omega)]

theorem repAlloc {ρ : Inj} {sh : SH} {w : World} (hρ : Rep ρ sh w.heap) (o : Obj) : Rep ρ sh (w.alloc o).heap := by
  refine ⟨?_, ?_, hρ.fresh⟩
  · intro id p hp hl
    obtain ⟨e, he, s⟩ := hρ.obj id p hp hl
    exact ⟨e, he, s.congr (allocSame w o (s.lt hl))⟩
  · intro i j p q e f a1 a2 a3 a4 a5 a6 a7 a8
    exact hρ.inj i j p q e f a1 a2 a3 a4 a5 a6 a7 a8

theorem stepAlloc {ρ0 ρ : Inj} {sh0 sh : SH} {w0 w : World} (hs : Step ρ0 sh0 w0 ρ sh w) (o : Obj) : Step ρ0 sh0 w0 ρ sh (w.alloc o) where
  le := hs.le
  len := hs.len
  keep := hs.keep
  ro := hs.ro
  size := by simp; have := hs.size; omega
  tape := hs.tape
  os := hs.os
  out := hs.out
  same c hc hn := (allocSame w o (Nat.lt_of_lt_of_le hc hs.size)).trans (hs.same c hc hn)
  owns := hs.owns

set_option maxHeartbeats 1000000 in
theorem bubbleA {nt : Nat} {ρ0 : Inj} {sh0 : SH} {w0 : World} {df : List Deferred} {G : CTab} (hG : GOk P G) {LA al : List Nat} {B : List (Nat × List Nat)} {ds : List Nat} {zs : List SObj} (hal : allocO P nt ops al = some (ds, zs)) (hE : okEdges 0 ops.toList = true)
    (hB : okRe ops (masks ops) B [] = true) (hall : ∀ i, i < ops.size ↔ i ∈ LA ∨ i ∈ al ∨ i ∈ B.map (·.1)) (hdis : (LA ++ (al ++ B.map (·.1))).Nodup)
    (hA : okPairs ops (masks ops) LA = true) (hAB : okPairs ops (masks ops) (LA.filter (isFree ops) ++ B.map (·.1)) = true)
    (hback : ∀ b ∈ B.map (·.1), (∀ i ∈ al, hasB (masks ops) b i = true) ∧ ∀ a ∈ LA, isFree ops a = true ∨ hasB (masks ops) b a = true)
    (hap : ∀ i ∈ al, ∀ o, ops[i]? = some o → ∀ j ∈ LA, ∀ oj, ops[j]? = some oj → o.apart ops oj = true) (hdn : (dstsOf ops al).Nodup)
    (hq : ∀ ts' sh' ρ' w' a', K ts' sh' → TRel ρ' ts' a'.tmps → a'.tmps.size = nt → a'.defers = df → Rep ρ' sh' w'.heap → Step ρ0 sh0 w0 ρ' sh' w' → Q .normal a' w')
    (hd : ∀ o ∈ ops.toList, ∀ d, o.dst = some d → d < nt) :
    ∀ (n : Nat) (L1 R : List Nat) (listed : Array Bool) (ts : Ts) (sh : SH) (ρ : Inj) (w : World) (a : Act) (mk : Nat → Option Nat), L1.length + R.length + B.length = n → listed.size = ops.size → List.Sublist L1 LA →
    (∀ i, i ∈ L1 ↔ i ∈ LA ∧ listed.getD i false = false) → (∀ i, i ∈ R ↔ i ∈ al ∧ listed.getD i false = false) → R.Nodup → (∀ i ∈ B.map (·.1), listed.getD i false = false) → Down (masks ops) listed →
    Tr P ops (unB (masks ops)) (thenA P nt ops al (fun ts2 sh2 => ordW P G nt ops B [] ts2 sh2 K)) L1 [] ts sh → (∀ t ∈ ds, look ts t = none) → Rep ρ sh w.heap → TRel ρ ts a.tmps → a.tmps.size = nt → a.defers = df → Step ρ0 sh0 w0 ρ sh w →
    (∀ i b, mk i = some b → i ∈ al ∧ listed.getD i false = true ∧ Made P ops w0.heap.size sh ρ w a i b) → (∀ i ∈ al, listed.getD i false = true → ∃ b, mk i = some b) → (∀ i j b, mk i = some b → mk j = some b → i = j) →
    wpAny P .any ops Q n listed a w := by
  have hds : dstsOf ops al = ds := (allocO_dsts hal).1
  have hout : ∀ j ∈ LA, ∀ oj, ops[j]? = some oj → (∀ d, oj.dst = some d → d ∉ ds) ∧ ∀ t ∈ oj.looksAt ops, t ∉ ds := by
    intro j hj oj hoj
    refine ⟨fun d hdd hm => ?_, fun t ht hm => ?_⟩
    · obtain ⟨i, hi, o, ho, hod⟩ := of_mem_dsts (hds ▸ hm)
      exact (Oper.apart_spec (hap i hi o ho j hj oj hoj)).2.1 d hod hdd
    · obtain ⟨i, hi, o, ho, hod⟩ := of_mem_dsts (hds ▸ hm)
      exact (Oper.apart_spec (hap i hi o ho j hj oj hoj)).1 t hod ht
  have hndA : LA.Nodup := (List.nodup_append.1 hdis).1
  have hndal : al.Nodup := (List.nodup_append.1 (List.nodup_append.1 hdis).2.1).1
  intro n
  induction n with
  | zero =>
    intro L1 R listed ts sh ρ w a mk hn hls hsub hL1 hR hRn hLB hD h hts h1 h2 h3 h4 h5 hm1 hm2 hm3
    have e1 : L1 = [] := List.eq_nil_of_length_eq_zero (by omega)
    have e2 : R = [] := List.eq_nil_of_length_eq_zero (by omega)
    have e3 : B = [] := List.eq_nil_of_length_eq_zero (by omega)
    subst e1 e2 e3
    have hbs : ∀ (k i b : Nat), al[k]? = some i → (al.map fun i => (mk i).getD 0)[k]? = some b → Made P ops w0.heap.size sh ρ w a i b := by
      intro k i b g1 g2
      have hi := List.mem_of_getElem? g1
      have hli : listed.getD i false = true := by
        cases hh : listed.getD i false with
        | true => rfl
        | false => exact absurd ((hR i).2 ⟨hi, hh⟩) (by simp)
      obtain ⟨b', hb'⟩ := hm2 i hi hli
      have : b = b' := by simpa [g1, hb'] using g2.symm
      subst this
      exact (hm1 i b hb').2.2
    have hbn : (al.map fun i => (mk i).getD 0).Nodup := by
      refine nodup_map_on hndal ?_
      intro i hi j hj he
      have hl : ∀ i ∈ al, ∃ b, mk i = some b := fun i hi => hm2 i hi (by
        cases hh : listed.getD i false with
        | true => rfl
        | false => exact absurd ((hR i).2 ⟨hi, hh⟩) (by simp))
      obtain ⟨b, hb⟩ := hl i hi
      obtain ⟨c, hc⟩ := hl j hj
      rw [hb, hc] at he
      simp at he; subst he
      exact hm3 i j b hb hc
    obtain ⟨ρ', r1, r2, r3⟩ := realize (P := P) (ops := ops) rfl h3 al ds zs _ ρ sh ts hal (by simp) hbs hbn h1 h2 h5
    have hT := tr_free hG hal hB [] [] ts sh h (by simp)
    exact bubble (ρ0 := ρ0) (sh0 := sh0) (w0 := w0) (df := df) hE hq hd 0 _ listed _ _ ρ' w a rfl hls (fun i => by
      constructor
      · intro hi; simp at hi
      · rintro ⟨hi, hu⟩
        rcases (hall i).1 hi with q | q | q
        · exact absurd ((hL1 i).2 ⟨q, hu⟩) (by simp)
        · exact absurd ((hR i).2 ⟨q, hu⟩) (by simp)
        · simp at q) rfl hD hT r1 r2 h3 h4 r3
  | succ n ih =>
    intro L1 R listed ts sh ρ w a mk hn hls hsub hL1 hR hRn hLB hD h hts h1 h2 h3 h4 h5 hm1 hm2 hm3
    by_cases hdone : R = [] ∧ ∀ j ∈ L1, isFree ops j = true
    · obtain ⟨rfl, hfree⟩ := hdone
      have hl : ∀ i ∈ al, ∃ b, mk i = some b := fun i hi => hm2 i hi (by
        cases hh : listed.getD i false with
        | true => rfl
        | false => exact absurd ((hR i).2 ⟨hi, hh⟩) (by simp))
      have hbs : ∀ (k i b : Nat), al[k]? = some i → (al.map fun i => (mk i).getD 0)[k]? = some b → Made P ops w0.heap.size sh ρ w a i b := by
        intro k i b g1 g2
        obtain ⟨b', hb'⟩ := hl i (List.mem_of_getElem? g1)
        have : b = b' := by simpa [g1, hb'] using g2.symm
        subst this
        exact (hm1 i b hb').2.2
      have hbn : (al.map fun i => (mk i).getD 0).Nodup := by
        refine nodup_map_on hndal ?_
        intro i hi j hj he
        obtain ⟨b, hb⟩ := hl i hi
        obtain ⟨c, hc⟩ := hl j hj
        rw [hb, hc] at he
        simp at he; subst he
        exact hm3 i j b hb hc
      obtain ⟨ρ', r1, r2, r3⟩ := realize (P := P) (ops := ops) rfl h3 al ds zs _ ρ sh ts hal (by simp) hbs hbn h1 h2 h5
      have hT := tr_free hG hal hB L1 [] ts sh h (fun j hj => ⟨hfree j hj, hout j (hsub.subset hj)⟩)
      have hsubf : List.Sublist (L1 ++ B.map (·.1)) (LA.filter (isFree ops) ++ B.map (·.1)) := by
        refine List.Sublist.append ?_ (List.Sublist.refl _)
        have : L1 = L1.filter (isFree ops) := (List.filter_eq_self.2 hfree).symm
        rw [this]
        exact hsub.filter _
      refine bubble (ρ0 := ρ0) (sh0 := sh0) (w0 := w0) (df := df) hE hq hd (n + 1) (L1 ++ B.map (·.1)) listed _ _ ρ' w a (by simp at hn ⊢; omega) hls (fun i => ?_) (okPairs_sub hsubf hAB) hD hT r1 r2 h3 h4 r3
      constructor
      · intro hi
        rcases List.mem_append.1 hi with hi | hi
        · exact ⟨(hall i).2 (.inl ((hL1 i).1 hi).1), ((hL1 i).1 hi).2⟩
        · exact ⟨(hall i).2 (.inr (.inr hi)), hLB i hi⟩
      · rintro ⟨hi, hu⟩
        rcases (hall i).1 hi with q | q | q
        · exact List.mem_append_left _ ((hL1 i).2 ⟨q, hu⟩)
        · exact absurd ((hR i).2 ⟨q, hu⟩) (by simp)
        · exact List.mem_append_right _ q
    · refine ⟨fun hr => ?_, fun i hi => ?_⟩
      · exfalso
        have hex : ∃ i, i < ops.size ∧ listed.getD i false = false := by
          cases R with
          | cons i R => exact ⟨i, (hall i).2 (.inr (.inl ((hR i).1 (List.mem_cons_self ..)).1)), ((hR i).1 (List.mem_cons_self ..)).2⟩
          | nil =>
            cases L1 with
            | nil => exact absurd ⟨rfl, by simp⟩ hdone
            | cons i L => exact ⟨i, (hall i).2 (.inl ((hL1 i).1 (List.mem_cons_self ..)).1), ((hL1 i).1 (List.mem_cons_self ..)).2⟩
        obtain ⟨i, hi, hu⟩ := hex
        exact ready_ne hls hE i hi hu hr
      · obtain ⟨g1, g2, oi, g3, g4⟩ := mem_ready hi
        have hui : listed.getD i false = false := (getD_same (by omega) _ _).trans g2
        have hils : i < listed.size := by omega
        rcases (hall i).1 g1 with hiA | hial | hiB
        · -- of the first part
          obtain ⟨l1, l2, hsp⟩ := List.append_of_mem ((hL1 i).2 ⟨hiA, hui⟩)
          subst hsp
          have hok : okPairs ops (masks ops) (l1 ++ i :: l2) = true := okPairs_sub hsub hA
          obtain ⟨p1, p2, p3⟩ := okPairs_split hok
          have un : ∀ j ∈ l1, hasB (masks ops) i j = false := by
            intro j hj
            cases hh : hasB (masks ops) i j with
            | false => rfl
            | true =>
              have := ready_down hD hi j hh
              have h' := ((hL1 j).1 (List.mem_append_left _ hj)).2
              rw [this] at h'; cases h'
          have hl : ∀ j ∈ l1, unB (masks ops) j i ∧ ∀ oj, ops[j]? = some oj → detO oj.op = true ∧ oi.apart ops oj = true := by
            refine fun j hj => ⟨un j hj, fun oj hoj => ?_⟩
            rcases (okPair_spec (p1 j hj)).2.2 with hh | hh
            · rw [un j hj] at hh; cases hh
            · exact hh oj oi hoj g3
          obtain ⟨ho1, ho2⟩ := hout i hiA oi g3
          have hnd1 : (l1 ++ i :: l2).Nodup := hsub.nodup hndA
          have hni : i ∉ l1 ++ l2 := nodup_mid hnd1
          have hsub' : List.Sublist (l1 ++ l2) LA := (List.Sublist.append (List.Sublist.refl l1) (List.sublist_cons_self i l2)).trans hsub
          have hdisA : ∀ x ∈ al, x ≠ i := fun x hx he => by
            subst he
            exact (List.nodup_append.1 hdis).2.2 x hiA x (List.mem_append_left _ hx) rfl
          have hdisB : ∀ x ∈ B.map (·.1), x ≠ i := fun x hx he => by
            subst he
            exact (List.nodup_append.1 hdis).2.2 x hiA x (List.mem_append_right _ hx) rfl
          refine stepT' hd g3 hl h h1 h2 h3 ?_
          intro v v' sh' ρ' w' k1 k2 k3 k4 k5 k6
          refine ih (l1 ++ l2) R _ _ sh' ρ' w' _ mk (by simp at hn ⊢; omega) (by simpa using hls) hsub' ?_ ?_ hRn ?_ (hD.set hi hils) k1 ?_ k2 k3 k4 (k5.trans h4) (h5.trans k6) ?_ ?_ hm3
          · intro k
            rw [getD_set hils]
            simp only [Bool.or_eq_false_iff, decide_eq_false_iff_not]
            constructor
            · intro hk
              have hk' : k ∈ l1 ++ i :: l2 := by
                rcases List.mem_append.1 hk with hk | hk
                · exact List.mem_append_left _ hk
                · exact List.mem_append_right _ (List.mem_cons_of_mem _ hk)
              refine ⟨((hL1 k).1 hk').1, ?_, ((hL1 k).1 hk').2⟩
              rintro rfl; exact hni hk
            · rintro ⟨q1, q2, q3⟩
              have hk' := (hL1 k).2 ⟨q1, q3⟩
              rcases List.mem_append.1 hk' with hk | hk
              · exact List.mem_append_left _ hk
              · rcases List.mem_cons.1 hk with hk | hk
                · exact absurd hk.symm q2
                · exact List.mem_append_right _ hk
          · intro k
            rw [getD_set hils, hR k]
            simp only [Bool.or_eq_false_iff, decide_eq_false_iff_not]
            exact ⟨fun ⟨q1, q2⟩ => ⟨q1, fun e => hdisA k q1 e.symm, q2⟩, fun ⟨q1, _, q2⟩ => ⟨q1, q2⟩⟩
          · intro k hk
            rw [getD_set hils]
            simp only [Bool.or_eq_false_iff, decide_eq_false_iff_not]
            exact ⟨fun e => hdisB k hk e.symm, hLB k hk⟩
          · intro t ht
            refine (look_putS fun d hdd hdt => ?_).trans (hts t ht)
            subst hdt
            exact ho1 d hdd ht
          · intro j b hb
            obtain ⟨hjm, hjl, hM⟩ := hm1 j b hb
            refine ⟨hjm, by rw [getD_set hils, hjl]; simp, hM.step k6 ?_⟩
            intro d o hoj hod
            refine put_other (fun e => ?_)
            have := mem_dsts hoj hod hjm
            rw [hds] at this
            exact ho1 d e this
          · intro x hx hlx
            rw [getD_set hils] at hlx
            simp only [Bool.or_eq_true, decide_eq_true_eq] at hlx
            rcases hlx with e | hlx
            · exact absurd e.symm (hdisA x hx)
            · exact hm2 x hx hlx
        · -- a variable that is made
          obtain ⟨o, t, d, z0, q1, q2, q3, q4, q5, q6⟩ := allocO_at hal i hial
          rw [g3] at q1; cases q1
          obtain ⟨z, hz, hzl, _⟩ := zeroS_spec q5
          have hrun : (execOp a.eval oi).run P w = .ok (.value (.pointer (some ⟨w.heap.size, 0, none⟩))) (w.alloc (.cells z.cells t)) := by
            simp [execOp, q2, Instr.alloc, hz, newVar, newRow]
          have hwant : Region.wanted oi (yielded ops a.tmps) = true := by simp [Region.wanted, q4]
          have hdds : d ∈ ds := hds ▸ mem_dsts g3 q3 hial
          unfold wpOp
          simp only [g3, hwant, if_true]
          left
          simp only [Oper.wp, hrun, Oper.upon_value]
          obtain ⟨r1, r2, hsp⟩ := List.append_of_mem ((hR i).2 ⟨hial, hui⟩)
          subst hsp
          have hni : i ∉ r1 ++ r2 := nodup_mid hRn
          have hdA : ∀ x ∈ LA, x ≠ i := fun x hx he => by
            subst he
            exact (List.nodup_append.1 hdis).2.2 x hx x (List.mem_append_left _ hial) rfl
          have hdB : ∀ x ∈ B.map (·.1), x ≠ i := fun x hx he => by
            subst he
            exact (List.nodup_append.1 (List.nodup_append.1 hdis).2.1).2.2 x hial x hx rfl
          have hput : a.put oi.dst (.pointer (some ⟨w.heap.size, 0, none⟩)) = a.put (some d) (.pointer (some ⟨w.heap.size, 0, none⟩)) := by rw [q3]
          rw [hput]
          refine ih L1 (r1 ++ r2) _ ts sh ρ (w.alloc (.cells z.cells t)) _ (fun j => if j = i then some w.heap.size else mk j) (by simp at hn ⊢; omega) (by simpa using hls) hsub ?_ ?_ ?_ ?_ (hD.set hi hils) h hts (repAlloc h1 _) ?_ (by simp [Act.put, h3]) h4 (stepAlloc h5 _) ?_ ?_ ?_
          · intro k
            rw [getD_set hils, hL1 k]
            simp only [Bool.or_eq_false_iff, decide_eq_false_iff_not]
            exact ⟨fun ⟨u1, u2⟩ => ⟨u1, fun e => hdA k u1 e.symm, u2⟩, fun ⟨u1, _, u2⟩ => ⟨u1, u2⟩⟩
          · intro k
            rw [getD_set hils]
            simp only [Bool.or_eq_false_iff, decide_eq_false_iff_not]
            constructor
            · intro hk
              have hk' : k ∈ r1 ++ i :: r2 := by
                rcases List.mem_append.1 hk with hk | hk
                · exact List.mem_append_left _ hk
                · exact List.mem_append_right _ (List.mem_cons_of_mem _ hk)
              refine ⟨((hR k).1 hk').1, ?_, ((hR k).1 hk').2⟩
              rintro rfl; exact hni hk
            · rintro ⟨u1, u2, u3⟩
              have hk' := (hR k).2 ⟨u1, u3⟩
              rcases List.mem_append.1 hk' with hk | hk
              · exact List.mem_append_left _ hk
              · rcases List.mem_cons.1 hk with hk | hk
                · exact absurd hk.symm u2
                · exact List.mem_append_right _ hk
          · exact (List.Sublist.append (List.Sublist.refl r1) (List.sublist_cons_self i r2)).nodup hRn
          · intro k hk
            rw [getD_set hils]
            simp only [Bool.or_eq_false_iff, decide_eq_false_iff_not]
            exact ⟨fun e => hdB k hk e.symm, hLB k hk⟩
          · intro u v hv
            have hud : u ≠ d := fun e => by
              subst e
              rw [hts u hdds] at hv; cases hv
            obtain ⟨v', u1, u2⟩ := h2 u v hv
            exact ⟨v', (put_other (fun e => hud (Option.some.inj e).symm)).trans u1, u2⟩
          · intro j b hb
            split at hb
            · rename_i hji
              subst hji
              cases hb
              refine ⟨hial, by rw [getD_set hils]; simp, oi, t, d, z, g3, q2, q3, hz, put_self (by rw [h3]; exact q6), (by show (w.heap.push _)[w.heap.size]? = _; simp), ?_, h5.size⟩
              intro id p e u1 u2 u3 u4
              obtain ⟨e', u5, s⟩ := h1.obj id p u1 u2
              rw [u3] at u5; cases u5
              have := s.lt u2
              omega
            · rename_i hji
              obtain ⟨hjm, hjl, o', t', d', z', v1, v2, v3, v4, v5, v6, v7, v8⟩ := hm1 j b hb
              refine ⟨hjm, by rw [getD_set hils, hjl]; simp, o', t', d', z', v1, v2, v3, v4, (put_other (fun e => ?_)).trans v5, (allocSame w _ (Array.getElem?_eq_some_iff.1 v6).1).trans v6, v7, v8⟩
              cases e
              exact hji (dstInj hdn hjm hial v1 g3 v3 q3)
          · intro x hx hlx
            rw [getD_set hils] at hlx
            simp only [Bool.or_eq_true, decide_eq_true_eq] at hlx
            by_cases hxi : x = i
            · exact ⟨w.heap.size, by simp [hxi]⟩
            · rcases hlx with e | hlx
              · exact absurd e.symm hxi
              · obtain ⟨b, hb⟩ := hm2 x hx hlx
                exact ⟨b, by simp [hxi, hb]⟩
          · have hnew : ∀ j b, mk j = some b → b ≠ w.heap.size := fun j b hb => by
              obtain ⟨_, _, o', t', d', z', v1, v2, v3, v4, v5, v6, v7, v8⟩ := hm1 j b hb
              have := (Array.getElem?_eq_some_iff.1 v6).1
              omega
            intro j k b hj hk
            split at hj <;> split at hk
            · rename_i e1 e2; rw [e1, e2]
            · cases hj; exact absurd rfl (hnew k _ hk)
            · cases hk; exact absurd rfl (hnew j _ hj)
            · exact hm3 j k b hj hk
        · -- of the second part: all is done ahead of it
          exfalso
          obtain ⟨q1, q2⟩ := hback i hiB
          refine hdone ⟨?_, fun j hj => ?_⟩
          · refine List.eq_nil_iff_forall_not_mem.2 fun k hk => ?_
            obtain ⟨k1, k2⟩ := (hR k).1 hk
            have := ready_down hD hi k (q1 k k1)
            rw [this] at k2; cases k2
          · obtain ⟨k1, k2⟩ := (hL1 j).1 hj
            rcases q2 j k1 with hh | hh
            · exact hh
            · have := ready_down hD hi j hh
              rw [this] at k2; cases k2

theorem ordA_sound {G : CTab} (hG : GOk P G) (hm : P.follows .mixedOrders = true) {nt id : Nat} {A B : List (Nat × List Nat)} {al : List Nat} {ts : Ts} {sh : SH} {ρ : Inj} {w : World} {a : Act}
    (hok : okRA ops A al B = true) (hd : ∀ o ∈ ops.toList, ∀ d, o.dst = some d → d < nt) (h : ordA P G nt ops A al B ts sh K) (h1 : Rep ρ sh w.heap) (h2 : TRel ρ ts a.tmps) (h3 : a.tmps.size = nt)
    (hq : ∀ ts' sh' ρ' w' a', K ts' sh' → TRel ρ' ts' a'.tmps → a'.tmps.size = nt → a'.defers = a.defers → Rep ρ' sh' w'.heap → Step ρ sh w ρ' sh' w' → Q .normal a' w') : (Code.region id ops true).wp P Q a w := by
  unfold okRA at hok
  simp only [Bool.and_eq_true, beq_iff_eq, List.all_eq_true, List.mem_range, List.contains_iff_mem, decide_eq_true_eq, Bool.or_eq_true] at hok
  obtain ⟨⟨⟨⟨⟨⟨⟨⟨⟨⟨⟨e1, e2⟩, e3⟩, e4⟩, e5⟩, e6⟩, e7⟩, e8⟩, e9⟩, e10⟩, e11⟩, e12⟩ := hok
  unfold ordA at h
  cases hal : allocO P nt ops al with
  | none => rw [hal] at h; exact h.elim
  | some x =>
    obtain ⟨ds, zs⟩ := x
    rw [hal] at h
    simp only at h
    have hds : dstsOf ops al = ds := (allocO_dsts hal).1
    refine wp_region_any hm ?_
    have hT := ordW_tr (P := P) hG (ms := masks ops) A [] [] (dropT ds ts) sh (K := thenA P nt ops al (fun ts2 sh2 => ordW P G nt ops B [] ts2 sh2 K)) (by
      have : thenA P nt ops al (fun ts2 sh2 => ordW P G nt ops B [] ts2 sh2 K) = fun ts1 sh1 => ordW P G nt ops B [] (bindA ds sh1.length ts1) (sh1 ++ zs) K := by
        funext ts1 sh1
        unfold thenA
        rw [hal]
      rw [this]; exact h) e8 (by simp)
    have hrep : ∀ i, (Array.replicate ops.size false).getD i false = false := by
      intro i
      rw [Array.getD_eq_getD_getElem?]
      by_cases hi : i < ops.size
      · simp [hi]
      · simp [hi]
    have hnd := noDup_spec e4
    refine bubbleA hG hal e5 e9 (fun i => ⟨fun hi => ?_, fun hi => ?_⟩) hnd e6 e7 e10 (fun i hi o ho j hj oj hoj => ?_) (noDup_spec e12) (ρ0 := ρ) (sh0 := sh) (w0 := w) (df := a.defers) hq hd ops.size (A.map (·.1)) al _ (dropT ds ts) sh ρ _ a (fun _ => none) (by simp only [List.length_append, List.length_map] at e1 ⊢; omega) (by simp) (List.Sublist.refl _)
      (fun i => ⟨fun hi => ⟨hi, hrep i⟩, fun hi => hi.1⟩) (fun i => ⟨fun hi => ⟨hi, hrep i⟩, fun hi => hi.1⟩) (List.nodup_append.1 (List.nodup_append.1 hnd).2.1).1 (fun i _ => hrep i) down_start hT (fun t ht => ?_) h1 (fun t v hv => h2 t v (look_dropT hv).1) h3 rfl (Step.drew _)
      (fun i b hb => by simp at hb) (fun i _ hi => by rw [hrep i] at hi; cases hi) (fun i j b hb => by simp at hb)
    · rcases List.mem_append.1 (e2 i hi) with hh | hh
      · exact .inl hh
      · rcases List.mem_append.1 hh with hh | hh
        · exact .inr (.inl hh)
        · exact .inr (.inr hh)
    · refine e3 i ?_
      rcases hi with hi | hi | hi
      · exact List.mem_append_left _ hi
      · exact List.mem_append_right _ (List.mem_append_left _ hi)
      · exact List.mem_append_right _ (List.mem_append_right _ hi)
    · have := e11 i hi
      unfold okAl at this
      rw [ho] at this
      simp only [Bool.and_eq_true, List.all_eq_true] at this
      have h' := this.2 j hj
      rw [hoj] at h'
      exact h'
    · cases hl : look (dropT ds ts) t with
      | none => rfl
      | some v => exact absurd ht (look_dropT hl).2
end
end Go.Rv
