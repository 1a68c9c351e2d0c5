/- A part of the evaluator of the model's code, or of its tables: what is proved is said in the claim's last text. -/
import Derived.Test.YtjhdfldadcbkkaaGreatRv13
namespace Go.Rv

/-- what goes on with one value, and depends on nothing else -/
def DetA {α : Type} (F : (α → Prop) → Prop) : Prop := ∀ K, F K → ∃ x, K x ∧ ∀ K', K' x → F K'

theorem DetA.bind {α β : Type} {F : (α → Prop) → Prop} {G : α → (β → Prop) → Prop} (hF : DetA F) (hG : ∀ x, DetA (G x)) : DetA (fun K => F (fun x => G x K)) := by
  intro K h
  obtain ⟨x, h1, h2⟩ := hF _ h
  obtain ⟨y, h3, h4⟩ := hG x _ h1
  exact ⟨y, h3, fun K' k => h2 _ (h4 K' k)⟩

theorem DetA.ret {α : Type} (x : α) : DetA (fun K => K x) := fun _ h => ⟨x, h, fun _ k => k⟩
theorem DetA.no {α : Type} : DetA (fun _ : α → Prop => False) := fun _ h => h.elim

theorem DetA.ifB {α : Type} {b : Bool} {F G : (α → Prop) → Prop} (hF : DetA F) (hG : DetA G) : DetA (fun K => Go.Rv.ifB b (F K) (G K)) := by
  cases b
  · exact hG
  · exact hF

theorem DetA.ite {α : Type} {p : Prop} [Decidable p] {F G : (α → Prop) → Prop} (hF : DetA F) (hG : DetA G) : DetA (fun K => if p then F K else G K) := by
  by_cases h : p
  · simp only [if_pos h]; exact hF
  · simp only [if_neg h]; exact hG

theorem det_ev1 (ts : Ts) (x : Operand) : DetA (ev1 ts x) := by
  unfold ev1
  cases evS ts x with
  | none => exact .no
  | some v => exact .ret v

theorem det_evL (ts : Ts) : ∀ l : List Operand, DetA (evL ts l)
  | [] => .ret _
  | x :: l => (det_ev1 ts x).bind fun _ => (det_evL ts l).bind fun _ => .ret _

theorem det_evP (ts : Ts) : ∀ l : List (Nat × Operand), DetA (evP ts l)
  | [] => .ret _
  | (_, x) :: l => (det_ev1 ts x).bind fun _ => (det_evP ts l).bind fun _ => .ret _

theorem det_evO (ts : Ts) : ∀ x : Option Operand, DetA (evO ts x)
  | none => .ret _
  | some x => (det_ev1 ts x).bind fun _ => .ret _

theorem det_segGet : ∀ (l : List SV) (j x : Nat), DetA (segGet l j x)
  | [], _, _ => .no
  | v :: l, j, x => by
    have ih := det_segGet l
    intro K h
    cases v <;> (try cases j) <;> (try cases x) <;> simp only [segGet] at h ⊢ <;> first
      | exact ih _ _ K h
      | exact h.elim
      | exact ⟨_, h, fun _ k => k⟩
      | exact DetA.ite (DetA.ifB (.ret _) .no) (ih _ _) K h

theorem det_objGet (o : SObj) (i j x : Nat) : DetA (objGet o i j x) := by
  intro K h
  cases o <;> simp only [objGet] at h ⊢
  case cells l e =>
    cases i with
    | zero => exact det_segGet _ _ _ K h
    | succ i => exact h.elim
  case ints k n f e ro =>
    cases j <;> cases x <;> simp only at h ⊢ <;> first
      | exact h.elim
      | exact DetA.ifB (.ret _) .no K h
  case tab w n get e ro => exact DetA.ifB (DetA.ifB (det_segGet _ _ _) .no) .no K h
  all_goals exact h.elim

theorem det_segSub (l : List SV) (j s : Nat) : DetA (segSub l j s) := by
  unfold segSub
  intro K h
  split at h
  · rename_i l1 h1
    split at h
    · rename_i l2 h2
      exact ⟨_, h, fun K' k => by simpa [h1, h2] using k⟩
    · exact h.elim
  · exact h.elim

theorem det_objSub (o : SObj) (i j x s : Nat) : DetA (objSub o i j x s) := by
  intro K h
  cases o <;> simp only [objSub] at h ⊢
  case cells l e =>
    cases i <;> cases x <;> simp only at h ⊢ <;> first
      | exact h.elim
      | exact det_segSub _ _ _ K h
  case ints k n f e ro =>
    cases j <;> cases x <;> simp only at h ⊢ <;> first
      | exact h.elim
      | exact DetA.ifB (.ret _) .no K h
  case tab w n get e ro =>
    cases x with
    | zero => exact DetA.ifB (DetA.ifB (det_segSub _ _ _) .no) .no K h
    | succ x => exact h.elim
  all_goals exact h.elim

theorem det_loadS (P : Program) (t : TypeId) (sh : SH) (a : SV) : DetA (loadS P t sh a) := by
  intro K h
  cases a <;> simp only [loadS] at h ⊢ <;> try exact h.elim
  rename_i id i j x
  cases hs : sh[id]? <;> simp only [hs] at h ⊢ <;> try exact h.elim
  rename_i o
  cases ha : aggT P t <;> simp only [ha] at h ⊢ <;> try exact h.elim
  rename_i b
  cases b <;> simp only at h ⊢
  · exact det_objGet _ _ _ _ K h
  · cases hz : sizeT P t <;> simp only [hz] at h ⊢ <;> try exact h.elim
    exact (det_objSub o i j x _).bind (fun l => DetA.ret (SV.agg l)) K h

theorem det_fieldAddrS (P : Program) (s : TypeId) (a : SV) (f : Nat) : DetA (fieldAddrS P s a f) := by
  intro K h
  unfold fieldAddrS at h ⊢
  split at h <;> (try split at h) <;> (try split at h) <;> first
    | exact h.elim
    | exact ⟨_, h, fun _ k => k⟩

theorem det_extractS (v : SV) (i : Nat) : DetA (extractS v i) := by
  intro K h
  unfold extractS at h ⊢
  split at h <;> (try split at h) <;> first
    | exact h.elim
    | exact ⟨_, h, fun _ k => k⟩

theorem det_nilCheckS (v : SV) : DetA (nilCheckS v) := by
  intro K h
  cases v <;> simp only [nilCheckS] at h ⊢ <;> first
    | exact h.elim
    | exact ⟨_, h, fun _ k => k⟩

theorem det_unS (op : UnOp) (v : SV) : DetA (unS op v) := by
  intro K h
  cases op <;> cases v <;> simp only [unS] at h ⊢ <;> first
    | exact h.elim
    | exact ⟨_, h, fun _ k => k⟩

theorem det_makeIfaceS (P : Program) (t : TypeId) (v : SV) : DetA (makeIfaceS P t v) := by
  intro K h
  unfold makeIfaceS at h ⊢
  split at h <;> (try split at h) <;> first
    | exact h.elim
    | exact ⟨_, h, fun _ k => k⟩

theorem det_arrayAtS (P : Program) (t : TypeId) (v : SV) : DetA (arrayAtS P t v) := by
  intro K h
  unfold arrayAtS at h ⊢
  split at h <;> first
    | exact h.elim
    | exact DetA.ifB (.ret _) .no K h

theorem det_lenS (P : Program) (t : TypeId) (sh : SH) (x : SV) : DetA (lenS P t sh x) := by
  intro K h
  unfold lenS at h ⊢
  split at h <;> (try split at h) <;> first
    | exact h.elim
    | exact ⟨_, h, fun _ k => k⟩

theorem det_typeAssertS (P : Program) (v : SV) (t : TypeId) (ok : Bool) : DetA (typeAssertS P v t ok) := by
  intro K h
  unfold typeAssertS at h ⊢
  split at h <;> (try split at h) <;> (try split at h) <;> (try split at h) <;> (try split at h) <;> first
    | exact h.elim
    | exact ⟨_, h, fun _ k => k⟩
    | (refine ⟨_, h, fun _ k => ?_⟩; simp [*])

theorem det_fieldS (P : Program) (t : TypeId) (v : SV) (f : Nat) : DetA (fieldS P t v f) := by
  intro K h
  unfold fieldS at h ⊢
  split at h <;> (try split at h) <;> (try split at h) <;> first
    | exact h.elim
    | exact ((det_segSub _ _ _).bind (fun l => DetA.ret (SV.agg l))) K h
    | exact det_segGet _ _ _ K h

theorem det_indexS (P : Program) (t : TypeId) (x ix : SV) : DetA (indexS P t x ix) := by
  intro K h
  unfold indexS at h ⊢
  split at h <;> (try split at h) <;> (try split at h) <;> first
    | exact h.elim
    | exact DetA.ifB ((det_segSub _ _ _).bind (fun l => DetA.ret (SV.agg l))) .no K h
    | exact DetA.ifB (det_segGet _ _ _) .no K h
    | exact DetA.ifB (.ret _) .no K h

theorem det_indexAddrS (P : Program) (t : TypeId) (sh : SH) (x ix : SV) : DetA (indexAddrS P t sh x ix) := by
  intro K h
  unfold indexAddrS at h ⊢
  split at h
  · split at h
    · split at h
      · rename_i id a j y s _
        cases y with
        | zero => exact DetA.ifB (DetA.ite (.ret _) (.ret _)) .no K h
        | succ y => exact DetA.ifB (DetA.ite (.ret _) .no) .no K h
      · exact h.elim
    · split at h
      · split at h
        · exact DetA.ite (DetA.ifB (.ret _) .no) .no K h
        · refine DetA.ite (DetA.ite ?_ .no) .no K h
          intro K h
          split at h
          · exact h.elim
          · exact h.elim
          · exact DetA.ifB (.ret _) .no K h
        · exact h.elim
      · exact h.elim
    · exact h.elim
  · exact h.elim

theorem det_binS (P : Program) (op : BinOp) (t : TypeId) (xo yo : Operand) (a b : SV) : DetA (binS P op t xo yo a b) := by
  intro K h
  unfold binS at h ⊢
  split at h
  · cases op <;> simp only at h ⊢ <;> first
      | exact DetA.ifB .no (.ret _) K h
      | exact DetA.ite (.ret _) .no K h
      | exact DetA.ite (DetA.ifB .no (.ret _)) .no K h
      | exact DetA.ite .no .no K h
  · split at h <;> first
      | exact h.elim
      | exact ⟨_, h, fun _ k => k⟩
  · exact h.elim
  · exact h.elim
  · split at h <;> (try split at h) <;> first
      | exact h.elim
      | exact ⟨_, h, fun _ k => k⟩

theorem det_maxS (l : List SV) : DetA (maxS l) := by
  intro K h
  unfold maxS at h ⊢
  split at h
  · exact ⟨_, h, fun _ k => k⟩
  · exact h.elim

theorem det_minS (l : List SV) : DetA (minS l) := by
  intro K h
  unfold minS at h ⊢
  split at h
  · exact ⟨_, h, fun _ k => k⟩
  · exact h.elim

theorem det_findS (P : Program) (t : TypeId) (k : SV) : ∀ (l : List (SV × SV)) (i : Nat), DetA (findS P t k l i)
  | [], _ => .ret _
  | (k', v) :: l, i => by
    intro K h
    simp only [findS] at h ⊢
    split at h
    · exact DetA.ifB (.ret _) (det_findS P t k l (i + 1)) K h
    · exact h.elim

theorem det_hitS (P : Program) (el : TypeId) (ok : Bool) (r : Option (Nat × SV)) : DetA (fun K => hitS P el ok K r) := by
  intro K h
  cases r with
  | none =>
    simp only [hitS] at h ⊢
    split at h
    · exact DetA.ite (.ret _) (.ret _) K h
    · exact h.elim
  | some p => exact DetA.ite (.ret (SV.tuple [p.2, .bool true])) (.ret p.2) K h

theorem det_lookupS (P : Program) (t : TypeId) (sh : SH) (m k : SV) (ok : Bool) : DetA (lookupS P t sh m k ok) := by
  intro K h
  unfold lookupS at h ⊢
  split at h
  · refine DetA.ite ?_ .no K h
    intro K h
    split at h
    · exact det_hitS _ _ _ _ K h
    · split at h
      · exact ((det_findS _ _ _ _ _).bind fun r => det_hitS _ _ _ r) K h
      · exact h.elim
    · exact h.elim
  · exact h.elim

theorem det_sBound (v : SV) (y : Nat) : DetA (sBound v y) := by
  intro K h
  cases v <;> simp only [sBound] at h ⊢ <;> first
    | exact h.elim
    | exact DetA.ifB (.ret _) .no K h

theorem det_lowS (v : Option SV) (y : Nat) : DetA (lowS v y) := by
  cases v with
  | none => exact .ret _
  | some v => exact det_sBound v y

theorem det_sBounds (len : Nat) (cap : Option Nat) (lo hi mx : Option SV) : DetA (fun K : Nat × Nat × Option Nat → Prop => sBounds len cap lo hi mx (fun l h m => K (l, h, m))) := by
  cases mx <;> cases hi <;> simp only [sBounds]
  · exact (det_lowS _ _).bind fun _ => .ret _
  · exact (det_sBound _ _).bind fun _ => (det_lowS _ _).bind fun _ => .ret _
  · exact .no
  · exact (det_sBound _ _).bind fun _ => (det_sBound _ _).bind fun _ => (det_lowS _ _).bind fun _ => .ret _

theorem det_sBounds' (len : Nat) (cap : Option Nat) (lo hi mx : Option SV) (F : Nat → Nat → Option Nat → SV) : DetA (fun K : SV → Prop => sBounds len cap lo hi mx (fun l h m => K (F l h m))) :=
  (det_sBounds len cap lo hi mx).bind (G := fun x K => K (F x.1 x.2.1 x.2.2)) fun _ => .ret _

theorem det_sliceS (P : Program) (t : TypeId) (sh : SH) (x : SV) (lo hi mx : Option SV) : DetA (sliceS P t sh x lo hi mx) := by
  intro K h
  unfold sliceS at h ⊢
  split at h
  · split at h
    · exact det_sBounds' _ _ _ _ _ (fun l h m => .slice _ _ (_ + l) (h - l) (subCap m l)) K h
    · exact h.elim
  · split at h
    · exact det_sBounds' _ _ _ _ _ (fun _ _ _ => .nils) K h
    · split at h
      · refine DetA.ite ?_ .no K h
        intro K h
        split at h
        · exact det_sBounds' _ _ _ _ _ (fun l h m => .slice _ _ (_ + l) (h - l) (subCap m l)) K h
        · exact h.elim
      · refine DetA.ite (DetA.ite ?_ .no) .no K h
        intro K h
        split at h
        · exact h.elim
        · exact h.elim
        · exact det_sBounds' _ _ _ _ _ (fun l h m => .slice _ (_ + l) _ (h - l) (subCap m l)) K h
      · exact h.elim
    · exact h.elim
  · split at h
    · exact det_sBounds' _ _ _ _ _ (fun l h _ => .str (ByteArray.extract _ l h)) K h
    · exact h.elim
  · exact h.elim

theorem det_convertS (P : Program) (src dst : TypeId) (sh : SH) (x : SV) : DetA (convertS P src dst sh x) := by
  intro K h
  unfold convertS at h ⊢
  split at h <;> (try split at h) <;> (try split at h) <;> first
    | exact h.elim
    | exact ⟨_, h, fun _ k => k⟩
    | exact DetA.ifB (.ret _) .no K h
    | exact ((det_objGet _ _ _ _).bind fun _ => .ret _) K h

theorem det_segSet : ∀ (l : List SV) (j x : Nat) (v : SV), DetA (segSet l j x v)
  | [], _, _, _ => .no
  | u :: l, j, x, v => by
    have ih : ∀ j x v, DetA (segSet l j x v) := det_segSet l
    have ih' : ∀ j x v, DetA (fun K => segSet l j x v (fun l' => K (u :: l'))) := fun j x v => (ih j x v).bind fun _ => .ret _
    intro K h
    cases u <;> (try cases j) <;> (try cases x) <;> (try cases v) <;> simp only [segSet] at h ⊢ <;> first
      | exact ih' _ _ _ K h
      | exact h.elim
      | exact ⟨_, h, fun _ k => k⟩
      | exact DetA.ite (.ret _) .no K h
      | exact DetA.ite (DetA.ite (DetA.ifB (.ret _) .no) .no) (ih' _ _ _) K h
      | exact DetA.ite .no (ih' _ _ _) K h

theorem det_segWrite (l : List SV) (j x s : Nat) (v : SV) : DetA (segWrite l j x s v) := by
  intro K h
  unfold segWrite at h ⊢
  split at h
  · split at h
    · refine DetA.ite ?_ .no K h
      intro K h
      split at h
      · exact ⟨_, h, fun _ k => k⟩
      · exact h.elim
    · exact h.elim
  · exact DetA.ite (det_segSet _ _ _ _) .no K h

theorem det_fillS (place : Nat → Option (Nat × Nat)) : ∀ (ps : List (Nat × SV)) (l : List SV), DetA (fillS place ps l)
  | [], _ => .ret _
  | (i, v) :: ps, l => by
    intro K h
    simp only [fillS] at h ⊢
    split at h
    · exact (det_segWrite _ _ _ _ _).bind (fun l' => det_fillS place ps l') K h
    · exact h.elim

theorem det_buildS (P : Program) (t : TypeId) (ps : List (Nat × SV)) : DetA (buildS P t ps) := by
  intro K h
  unfold buildS at h ⊢
  split at h
  · split at h
    · exact DetA.ite ((det_fillS _ _ _).bind fun l => .ret (SV.agg l)) .no K h
    · split at h
      · exact ((det_fillS _ _ _).bind fun l => .ret (SV.agg l)) K h
      · exact h.elim
    · exact h.elim
  · exact h.elim

/-! ## operations that change no heap -/

def detB : Builtin → Bool
  | .len | .max | .min => true
  | _ => false

/-- those that a region of any order may put where it will -/
def detO : Op → Bool
  | .move _ | .assign _ | .pick .. | .build .. | .load .. | .nilCheck _ | .binOp .. | .unOp .. | .convert .. | .sliceToArrayPointer .. | .makeInterface .. | .makeFunc ..
  | .slice .. | .fieldAddr .. | .field .. | .indexAddr .. | .index .. | .lookup .. | .typeAssert .. | .extract .. => true
  | .call c => match c.callee with
    | .builtin b => detB b
    | _ => false
  | _ => false

/-- of these, those that look at no heap -/
def freeO : Op → Bool
  | .move _ | .assign _ | .pick .. | .build .. | .nilCheck _ | .binOp .. | .unOp .. | .sliceToArrayPointer .. | .makeInterface .. | .makeFunc ..
  | .fieldAddr .. | .field .. | .index .. | .typeAssert .. | .extract .. => true
  | _ => false

theorem DetA.to {F : (SV → Prop) → Prop} (h : DetA F) (sh : SH) (K : SV → SH → Prop) (hk : F (fun v => K v sh)) : ∃ v, K v sh ∧ ∀ K' : SV → SH → Prop, K' v sh → F (fun v => K' v sh) := by
  obtain ⟨v, h1, h2⟩ := h _ hk
  exact ⟨v, h1, fun K' k => h2 _ k⟩

theorem DetA.pickB {ts : Ts} {c x y : Operand} : DetA (fun K : SV → Prop => ev1 ts c (fun v => match v with
    | .bool r => Go.Rv.ifB r (ev1 ts x K) (ev1 ts y K)
    | _ => False)) := by
  refine (det_ev1 ts c).bind (G := fun v K => match v with | .bool r => Go.Rv.ifB r (ev1 ts x K) (ev1 ts y K) | _ => False) ?_
  intro v
  cases v <;> first
    | exact .ifB (det_ev1 _ _) (det_ev1 _ _)
    | exact .no

theorem builtin_det {P : Program} {b : Builtin} {tys sh vs K} (hd : detB b = true) (h : builtinS P b tys sh vs K) : ∃ v, K v sh ∧ ∀ K', K' v sh → builtinS P b tys sh vs K' := by
  unfold builtinS at h ⊢
  split at h
  · exact (det_lenS _ _ _ _).to sh K h
  · cases hd
  · cases hd
  · cases hd
  · exact (det_maxS _).to sh K h
  · exact (det_minS _).to sh K h
  · exact h.elim

theorem opW_det {P : Program} {G : CTab} {ts sh} {o : Op} {K} (hd : detO o = true) (h : opW P G ts sh o K) : ∃ v, K v sh ∧ ∀ K', K' v sh → opW P G ts sh o K' := by
  cases o <;> simp only [detO] at hd <;> (try cases hd) <;> simp only [opW] at h ⊢
  case move x => exact (det_ev1 ts x).to sh K h
  case assign x => exact (det_ev1 ts x).to sh K h
  case pick c x y => exact DetA.pickB.to sh K h
  case build t ps => exact ((det_evP ts _).bind fun l => det_buildS P t l).to sh K h
  case load t x => exact ((det_ev1 ts _).bind fun l => det_loadS P t sh l).to sh K h
  case nilCheck x => exact ((det_ev1 ts _).bind fun l => det_nilCheckS l).to sh K h
  case binOp op t x y _ => exact ((det_ev1 ts _).bind fun u => (det_ev1 ts _).bind fun v => det_binS P op t x y u v).to sh K h
  case unOp op _ x => exact ((det_ev1 ts _).bind fun l => det_unS op l).to sh K h
  case convert s d x => exact ((det_ev1 ts _).bind fun l => det_convertS P s d sh l).to sh K h
  case sliceToArrayPointer t x => exact ((det_ev1 ts _).bind fun l => det_arrayAtS P t l).to sh K h
  case makeInterface t x => exact ((det_ev1 ts _).bind fun l => det_makeIfaceS P t l).to sh K h
  case makeFunc fn a b => exact ((det_evL ts _).bind fun l => (det_evL ts _).bind fun m => .ret (SV.func fn l m)).to sh K h
  case slice t x l hh m => exact ((det_ev1 ts _).bind fun v => (det_evO ts _).bind fun a => (det_evO ts _).bind fun b => (det_evO ts _).bind fun c => det_sliceS P t sh v a b c).to sh K h
  case fieldAddr t x f => exact ((det_ev1 ts _).bind fun l => det_fieldAddrS P t l f).to sh K h
  case field t x f => exact ((det_ev1 ts _).bind fun l => det_fieldS P t l f).to sh K h
  case indexAddr t x i => exact ((det_ev1 ts _).bind fun u => (det_ev1 ts _).bind fun v => det_indexAddrS P t sh u v).to sh K h
  case index t x i => exact ((det_ev1 ts _).bind fun u => (det_ev1 ts _).bind fun v => det_indexS P t u v).to sh K h
  case lookup t m k ok => exact ((det_ev1 ts _).bind fun u => (det_ev1 ts _).bind fun v => det_lookupS P t sh u v ok).to sh K h
  case typeAssert x _ t ok => exact ((det_ev1 ts _).bind fun l => det_typeAssertS P l t ok).to sh K h
  case extract x i => exact ((det_ev1 ts _).bind fun l => det_extractS l i).to sh K h
  case call c =>
    cases hc : c.callee <;> simp only [hc] at hd h ⊢ <;> (try cases hd)
    rename_i b
    obtain ⟨l, h1, h2⟩ := det_evL ts _ _ h
    obtain ⟨v, h3, h4⟩ := builtin_det hd h1
    exact ⟨v, h3, fun K' k => h2 _ (h4 K' k)⟩

/-- an operation that looks at no heap does the same in any other -/
theorem opW_free {P : Program} {G : CTab} {ts sh} {o : Op} {v : SV} (hf : freeO o = true) (h : ∀ K' : SV → SH → Prop, K' v sh → opW P G ts sh o K') (sh' : SH) (K : SV → SH → Prop) (k : K v sh') : opW P G ts sh' o K := by
  have hh := h (fun u _ => K u sh') k
  clear h
  cases o <;> simp only [freeO] at hf <;> (try cases hf) <;> simpa only [opW] using hh

end Go.Rv
