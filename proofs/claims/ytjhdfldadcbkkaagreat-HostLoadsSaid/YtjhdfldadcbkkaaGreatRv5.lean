/- A part of the evaluator of the model's code, or of its tables: what is proved is said in the claim's last text. -/
import Derived.Test.YtjhdfldadcbkkaaGreatRv4
namespace Go.Rv

/-! ## new memory -/

def valSV : Value → Option SV
  | .int k n => some (.int k n)
  | .bool b => some (.bool b)
  | .string s => some (.str s)
  | .pointer none => some .nilp
  | .slice none 0 0 => some .nils
  | .map none => some .nilm
  | .nilFunc => some .nilf
  | .nilIface => some .nili
  | _ => none

theorem valSV_rel {ρ : Inj} {v s} (h : valSV v = some s) : VRel ρ s v ∧ s.scal = true := by
  unfold valSV at h
  split at h <;> first | (cases h; exact ⟨by constructor, rfl⟩) | (simp at h)

def shapeOf (P : Program) : Nat → TypeId → List (Bool × Nat)
  | 0, _ => []
  | d + 1, t => match P.underlying t with
    | some (.struct fs) => fs.toList.flatMap fun f => shapeOf P d f.type
    | some (.array n e) => match P.underlying e with
      | some (.int _) => [(true, n)]
      | _ => (List.replicate n (shapeOf P d e)).flatten
    | _ => [(false, 1)]

def isZero : Value → Option IntKind
  | .int k n => if n = 0 then some k else none
  | _ => none

def allZero (k : IntKind) : List Value → Bool
  | [] => true
  | v :: l => match v with
    | .int k' n => k' == k && n == 0 && allZero k l
    | _ => false

def packZ : List (Bool × Nat) → List Value → Option (List SV)
  | [], [] => some []
  | (false, _) :: s, v :: vs => match valSV v, packZ s vs with
    | some u, some l => some (u :: l)
    | _, _ => none
  | (true, n) :: s, v :: vs => match isZero v with
    | some k => if n ≤ (v :: vs).length then (if allZero k ((v :: vs).take n) then (match packZ s ((v :: vs).drop n) with
      | some l => some (.vec k n (fun _ => 0) :: l)
      | none => none) else none) else none
    | none => none
  | _, _ => none

theorem allZero_get {k : IntKind} : ∀ {l : List Value}, allZero k l = true → ∀ c, c < l.length → l[c]? = some (.int k 0)
  | [], _, c, hc => by simp at hc
  | v :: l, h, c, hc => by
    cases v <;> simp [allZero] at h
    obtain ⟨⟨h1, h2⟩, h3⟩ := h
    subst h1; subst h2
    cases c with
    | zero => rfl
    | succ c => simpa using allZero_get h3 c (by simpa using hc)

theorem packZ_spec {ρ : Inj} : ∀ (s : List (Bool × Nat)) (vs : List Value) (l : List SV), packZ s vs = some l →
    segLen l = vs.length ∧ ∀ c v, segCell l c = some v → v.scal = true ∧ ∃ v', vs[c]? = some v' ∧ VRel ρ v v'
  | [], [], l, h => by simp [packZ] at h; subst h; simp [segLen, segCell]
  | [], v :: vs, l, h => by simp [packZ] at h
  | (false, _) :: s, [], l, h => by simp [packZ] at h
  | (true, _) :: s, [], l, h => by simp [packZ] at h
  | (false, _) :: s, v :: vs, l, h => by
    simp only [packZ] at h
    split at h
    · rename_i u l' hu hl
      cases h
      obtain ⟨h1, h2⟩ := packZ_spec (ρ := ρ) s vs l' hl
      obtain ⟨r1, r2⟩ := valSV_rel (ρ := ρ) hu
      have hsl : SV.len u = 1 := by cases u <;> first | rfl | (simp [SV.scal] at r2)
      refine ⟨by simp only [segLen, hsl, List.length_cons]; omega, fun c w hw => ?_⟩
      cases c with
      | zero =>
        have : w = u := by cases u <;> first | (simp [segCell] at hw; exact hw.symm) | (simp [SV.scal] at r2)
        subst this
        exact ⟨r2, v, rfl, r1⟩
      | succ c =>
        have : segCell l' c = some w := by cases u <;> first | (simpa [segCell] using hw) | (simp [SV.scal] at r2)
        obtain ⟨a, v', b, r⟩ := h2 c w this
        exact ⟨a, v', by simpa using b, r⟩
    · cases h
  | (true, n) :: s, v :: vs, l, h => by
    simp only [packZ] at h
    split at h
    · rename_i k hk
      split at h
      · rename_i hn
        split at h
        · rename_i hz
          split at h
          · rename_i l' hl
            cases h
            obtain ⟨h1, h2⟩ := packZ_spec (ρ := ρ) s _ l' hl
            refine ⟨by simp only [segLen, SV.len, h1, List.length_drop]; omega, fun c w hw => ?_⟩
            simp only [segCell] at hw
            split at hw
            · rename_i hc
              cases hw
              refine ⟨rfl, .int k 0, ?_, .int k 0⟩
              have := allZero_get hz c (by simp only [List.length_take]; omega)
              rw [List.getElem?_take] at this
              simpa [hc] using this
            · rename_i hc
              obtain ⟨a, v', b, r⟩ := h2 _ w hw
              refine ⟨a, v', ?_, r⟩
              rw [List.getElem?_drop] at b
              rw [← b]; congr 1; omega
          · cases h
        · cases h
      · cases h
    · cases h

def zeroS (P : Program) (t : TypeId) : Option (List SV) :=
  match P.info? t with
  | some i => match i.zero with
    | some z => packZ (shapeOf P 20 t) z.cells.toList
    | none => none
  | none => none

theorem zeroS_spec {P : Program} {t l} (h : zeroS P t = some l) :
    ∃ z, (∀ w, (zeroValue t).run P w = .ok z w) ∧ segLen l = z.cells.size ∧ ∀ (ρ : Inj) c v, segCell l c = some v → v.scal = true ∧ ∃ v', z.cells[c]? = some v' ∧ VRel ρ v v' := by
  unfold zeroS at h
  split at h
  · rename_i i hi
    split at h
    · rename_i z hz
      refine ⟨z, fun w => by simp [zeroValue, typeInfo, hi, hz], by simpa using (packZ_spec (ρ := fun _ => none) _ _ _ h).1, fun ρ c v hv => ?_⟩
      simpa using (packZ_spec (ρ := ρ) _ _ _ h).2 c v hv
    · cases h
  · cases h

/-- cells that a list of segments describes, in a new block -/
theorem new_cells {ρ sh} {w : World} (hρ : Rep ρ sh w.heap) (l : List SV) (t : TypeId) (cs : Array Value)
    (hc : ∀ c v, segCell l c = some v → v.scal = true ∧ ∃ v', cs[c]? = some v' ∧ VRel ρ v v') :
    ∃ ρ', VRel ρ' (.ptr sh.length 0 0 0) (.pointer (some ⟨w.heap.size, 0, none⟩)) ∧ Rep ρ' (sh ++ [.cells l t]) (w.alloc (.cells cs t)).heap ∧
      Step ρ sh w ρ' (sh ++ [.cells l t]) (w.alloc (.cells cs t)) := by
  obtain ⟨h1, h2⟩ := hρ.alloc (.cells l t) rfl (.cells cs t) ⟨w.heap.size, 0, 1, cs.size⟩ rfl (by
    intro ρ' hle
    refine ⟨rfl, cs, t, (0, 0), by simp, Nat.le_refl _, fun _ => ⟨rfl, rfl, rfl⟩, fun i j v hv => ?_⟩
    simp only [SObj.cell] at hv
    split at hv
    · rename_i hi
      subst hi
      obtain ⟨a, v', b, r⟩ := hc j v hv
      exact ⟨a, v', by simpa using b, r.mono hle⟩
    · cases hv)
  exact ⟨_, .ptr Inj.add_self (by simp), h1, h2⟩

def allocS (P : Program) (t : TypeId) (sh : SH) (K : SV → SH → Prop) : Prop :=
  match zeroS P t with
  | some l => K (.ptr sh.length 0 0 0) (sh ++ [.cells l t])
  | none => False

theorem alloc_sound {P t sh K ρ} {w : World} (h : allocS P t sh K) (hρ : Rep ρ sh w.heap) : Res P (Instr.alloc t true (.tuple #[])) ρ sh w K := by
  unfold allocS at h
  split at h
  · rename_i l hl
    obtain ⟨z, hz, _, hc⟩ := zeroS_spec hl
    obtain ⟨ρ', h1, h2, h3⟩ := new_cells hρ l t z.cells (hc ρ)
    exact ⟨_, _, _, ρ', _, by simp [Instr.alloc, hz, newVar, newRow], h, h1, h2, h3⟩
  · exact h.elim

/-- the segments of a value -/
def segsOf : SV → Option (List SV)
  | .agg l => some l
  | .vec .. => none
  | .tuple _ => none
  | v => some [v]

theorem segsOf_spec {ρ : Inj} {v v' l} (h : segsOf v = some l) (hv : VRel ρ v v') :
    segLen l = v'.cells.size ∧ ∀ c u, segCell l c = some u → u.scal = true ∧ ∃ u', v'.cells[c]? = some u' ∧ VRel ρ u u' := by
  cases v
  case agg l' =>
    cases h
    cases hv with
    | agg h1 h2 h3 =>
      refine ⟨h1.symm, fun c u hu => ⟨h2 c u hu, ?_⟩⟩
      have hlt := segCell_lt _ _ _ hu
      rw [← h1] at hlt
      refine ⟨_, Array.getElem?_eq_getElem hlt, ?_⟩
      simpa [Array.getD_eq_getD_getElem?, hlt] using h3 c u hu
  case vec => cases h
  case tuple => cases h
  all_goals
    cases h
    have hone := hv.one rfl
    have hcells : v'.cells = #[v'] := by cases v' <;> first | rfl | (simp [Value.oneCell'] at hone)
    refine ⟨by simp [hcells, segLen, SV.len], fun c u hu => ?_⟩
    cases c with
    | zero =>
      simp [segCell] at hu
      subst hu
      exact ⟨rfl, v', by simp [hcells], hv⟩
    | succ c => simp [segCell] at hu

def boxS (t : TypeId) (v : SV) (sh : SH) (K : SV → SH → Prop) : Prop :=
  match segsOf v with
  | some l => K (.ptr sh.length 0 0 0) (sh ++ [.cells l t])
  | none => False

theorem box_sound {P t v sh K ρ} {w : World} {v'} (h : boxS t v sh K) (hρ : Rep ρ sh w.heap) (hv : VRel ρ v v') : Res P (Instr.box t v') ρ sh w K := by
  unfold boxS at h
  split at h
  · rename_i l hl
    obtain ⟨_, hc⟩ := segsOf_spec hl hv
    obtain ⟨ρ', h1, h2, h3⟩ := new_cells hρ l t v'.cells hc
    exact ⟨_, _, _, ρ', _, by simp [Instr.box, newVar, newRow], h, h1, h2, h3⟩
  · exact h.elim

/-! ## structs and arrays that are put together -/

def fillS (place : Nat → Option (Nat × Nat)) : List (Nat × SV) → List SV → (List SV → Prop) → Prop
  | [], l, K => K l
  | (i, v) :: rest, l, K => match place i with
    | some (off, size) => segWrite l off 0 size v (fun l' => fillS place rest l' K)
    | none => False

theorem foldl_laid (off : Nat) : ∀ (vs : List Value) (k : Nat) (cs : Array Value), off + k + vs.length ≤ cs.size →
    ((vs.zipIdx k).foldl (fun cs (p : Value × Nat) => cs.setIfInBounds (off + p.2) p.1) cs).size = cs.size ∧
    ∀ m, ((vs.zipIdx k).foldl (fun cs (p : Value × Nat) => cs.setIfInBounds (off + p.2) p.1) cs)[m]? =
      if off + k ≤ m ∧ m < off + k + vs.length then vs[m - (off + k)]? else cs[m]?
  | [], k, cs, h => by
    refine ⟨by simp, fun m => ?_⟩
    rw [if_neg (by simp)]; simp
  | v :: vs, k, cs, h => by
    simp only [List.length_cons] at h
    obtain ⟨h1, h2⟩ := foldl_laid off vs (k + 1) (cs.setIfInBounds (off + k) v) (by simp; omega)
    simp only [List.zipIdx_cons, List.foldl_cons]
    refine ⟨by rw [h1]; simp, fun m => ?_⟩
    rw [h2]
    by_cases hm : m = off + k
    · subst hm
      rw [if_neg (by omega), if_pos (by simp)]
      simp [show off + k < cs.size by omega]
    · by_cases hm2 : off + (k + 1) ≤ m ∧ m < off + (k + 1) + vs.length
      · rw [if_pos hm2, if_pos (by simp only [List.length_cons]; omega)]
        rw [show m - (off + k) = (m - (off + (k + 1))) + 1 by omega]
        simp
      · rw [if_neg hm2, if_neg (by simp only [List.length_cons]; omega)]
        rw [Array.getElem?_setIfInBounds_ne (by omega)]

/-- parts of the same numbers -/
inductive PRel (ρ : Inj) : List (Nat × SV) → List (Nat × Value) → Prop where
  | nil : PRel ρ [] []
  | cons {i v v' l l'} : VRel ρ v v' → PRel ρ l l' → PRel ρ ((i, v) :: l) ((i, v') :: l')

def LRel (ρ : Inj) (l : List SV) (cs : Array Value) : Prop :=
  segLen l = cs.size ∧ ∀ c v, segCell l c = some v → v.scal = true ∧ ∃ v', cs[c]? = some v' ∧ VRel ρ v v'

theorem LRel.agg {ρ : Inj} {l cs} (h : LRel ρ l cs) : VRel ρ (.agg l) (.agg cs) := by
  refine .agg h.1.symm (fun c v hv => (h.2 c v hv).1) (fun c v hv => ?_)
  obtain ⟨_, v', h1, h2⟩ := h.2 c v hv
  simpa [Array.getD_eq_getD_getElem?, h1] using h2

theorem fillS_spec {ρ : Inj} {place : Nat → Option (Nat × Nat)} : ∀ (ps : List (Nat × SV)) (ps' : List (Nat × Value)) (l : List SV) (cs : Array Value) (K : List SV → Prop),
    PRel ρ ps ps' → LRel ρ l cs → fillS place ps l K → ∃ l' cs', K l' ∧ Instr.fill place cs ps' = some cs' ∧ LRel ρ l' cs'
  | [], [], l, cs, K, _, hl, h => ⟨l, cs, h, rfl, hl⟩
  | (i, v) :: ps, _, l, cs, K, .cons (v' := v') (l' := ps') hv hp, hl, h => by
    simp only [fillS] at h
    split at h
    · rename_i off size hpl
      obtain ⟨l1, h1, h2, h3, h4, h5, h6⟩ := segWrite_spec h hv
      have hle : off + v'.cells.size ≤ cs.size := by have := hl.1; omega
      obtain ⟨f1, f2⟩ := foldl_laid off v'.cells.toList 0 cs (by simpa using hle)
      have hfold : (v'.cells.zipIdx.foldl (fun cs (p : Value × Nat) => cs.setIfInBounds (off + p.2) p.1) cs) =
          ((v'.cells.toList.zipIdx 0).foldl (fun cs (p : Value × Nat) => cs.setIfInBounds (off + p.2) p.1) cs) := by
        rw [← Array.foldl_toList]; simp
      have hl1 : LRel ρ l1 (v'.cells.zipIdx.foldl (fun cs (p : Value × Nat) => cs.setIfInBounds (off + p.2) p.1) cs) := by
        rw [hfold]
        refine ⟨by rw [f1, h2, hl.1], fun c u hu => ?_⟩
        rw [f2]
        rcases h6 c u hu with ⟨b1, b2, b3, b4⟩ | ⟨b1, b2⟩
        · refine ⟨b3, v'.cells.getD (c - off) undef, ?_, by simpa using b4⟩
          rw [if_pos (by simp only [Array.length_toList]; omega)]
          have : c - off < v'.cells.size := by omega
          simp [Array.getD_eq_getD_getElem?, this]
        · obtain ⟨c1, u', c2, c3⟩ := hl.2 c u b2
          refine ⟨c1, u', ?_, c3⟩
          rw [if_neg (by simp only [Array.length_toList]; omega)]
          exact c2
      obtain ⟨l', cs', k1, k2, k3⟩ := fillS_spec ps ps' l1 _ K hp hl1 h1
      refine ⟨l', cs', k1, ?_, k3⟩
      have hfill : Instr.fill place cs ((i, v') :: ps') = Instr.fill place (v'.cells.zipIdx.foldl (fun cs (p : Value × Nat) => cs.setIfInBounds (off + p.2) p.1) cs) ps' := by
        conv => lhs; unfold Instr.fill
        simp only [hpl]
        have hn : (decide (v'.cells.size ≠ size) || decide (off + v'.cells.size > cs.size)) = false := by simp; omega
        rw [hn, if_neg (by simp)]
      rw [hfill]; exact k2
    · exact h.elim

def placesS (P : Program) (fs : Array Field) (i : Nat) : Option (Nat × Nat) :=
  match fs[i]? with
  | some f => match sizeT P f.type with
    | some s => some (f.offset, s)
    | none => none
  | none => none

/-- every field's type has a size -/
def sized (P : Program) : List Field → Bool
  | [] => true
  | f :: l => (sizeT P f.type).isSome && sized P l

def buildS (P : Program) (t : TypeId) (ps : List (Nat × SV)) (K : SV → Prop) : Prop :=
  match zeroS P t with
  | some z => match P.underlying t with
    | some (.struct fs) => if sized P fs.toList = true then fillS (placesS P fs) ps z (fun l => K (.agg l)) else False
    | some (.array _ e) => match sizeT P e with
      | some s => fillS (fun i => some (i * s, s)) ps z (fun l => K (.agg l))
      | none => False
    | _ => False
  | none => False

theorem fill_congr {place place' : Nat → Option (Nat × Nat)} : ∀ (ps : List (Nat × Value)) (cs : Array Value), (∀ i, place i = place' i) → Instr.fill place cs ps = Instr.fill place' cs ps := by
  intro ps cs h
  have : place = place' := funext h
  rw [this]

theorem run_mapM_sizes {P : Program} (w : World) : ∀ (fs : List Field), sized P fs = true →
    (fs.mapM (m := Sem) fun f => Prod.mk f.offset <$> sizeOf f.type).run P w = .ok (fs.map fun f => (f.offset, (sizeT P f.type).getD 0)) w
  | [], _ => rfl
  | f :: l, h => by
    simp only [sized, Bool.and_eq_true] at h
    obtain ⟨s, hs⟩ := Option.isSome_iff_exists.1 h.1
    simp [List.mapM_cons, run_size hs, run_mapM_sizes w l h.2, hs]

theorem build_sound {P t ps K ρ} {w : World} {ps' : Array (Nat × Value)} (h : buildS P t ps K) (hp : PRel ρ ps ps'.toList) :
    ∃ v v', K v ∧ VRel ρ v v' ∧ (Instr.build t ps').run P w = .ok v' w := by
  unfold buildS at h
  split at h
  · rename_i z hz
    obtain ⟨zv, hzr, hzl, hzc⟩ := zeroS_spec hz
    have hzL : LRel ρ z zv.cells := ⟨hzl, hzc ρ⟩
    split at h
    · rename_i fs hu
      split at h
      · rename_i hsz
        obtain ⟨l', cs', h1, h2, h3⟩ := fillS_spec ps ps'.toList z zv.cells _ hp hzL h
        refine ⟨_, _, h1, h3.agg, ?_⟩
        have hm : (fs.mapM (m := Sem) fun f => Prod.mk f.offset <$> sizeOf f.type).run P w = .ok (fs.toList.map fun f => (f.offset, (sizeT P f.type).getD 0)).toArray w := by
          rw [← Array.toArray_toList (xs := fs)]
          rw [List.mapM_toArray]
          simp [run_mapM_sizes w fs.toList hsz]
        have hpl : ∀ i, (((fs.toList.map fun f => (f.offset, (sizeT P f.type).getD 0)).toArray)[i]? : Option (Nat × Nat)) = placesS P fs i := by
          intro i
          simp only [List.getElem?_toArray, List.getElem?_map, placesS, Array.getElem?_toList]
          cases hf : fs[i]? with
          | none => simp
          | some f =>
            have hmem : f ∈ fs.toList := by
              rw [Array.mem_toList_iff]
              exact Array.mem_of_getElem? hf
            have : ∀ (l : List Field), sized P l = true → f ∈ l → (sizeT P f.type).isSome = true := by
              intro l
              induction l with
              | nil => intro _ h; cases h
              | cons g l ih =>
                intro hs hm
                simp only [sized, Bool.and_eq_true] at hs
                cases hm with
                | head => exact hs.1
                | tail _ hm => exact ih hs.2 hm
            obtain ⟨s, hs⟩ := Option.isSome_iff_exists.1 (this _ hsz hmem)
            simp [hs]
        simp only [Instr.build, bind_pure_comp, Sem.run_bind, hzr, run_underlying hu, Result.andThen_ok, hm]
        rw [fill_congr _ _ hpl, h2]
        rfl
      · exact h.elim
    · rename_i n e hu
      split at h
      · rename_i s hs
        obtain ⟨l', cs', h1, h2, h3⟩ := fillS_spec ps ps'.toList z zv.cells _ hp hzL h
        refine ⟨_, _, h1, h3.agg, ?_⟩
        simp only [Instr.build, Sem.run_bind, hzr, run_underlying hu, Result.andThen_ok, run_size hs, h2]
        rfl
      · exact h.elim
    · exact h.elim
  · exact h.elim

end Go.Rv
