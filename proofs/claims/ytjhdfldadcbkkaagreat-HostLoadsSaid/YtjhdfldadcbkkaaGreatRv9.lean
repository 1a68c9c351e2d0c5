/- A part of the evaluator of the model's code, or of its tables: what is proved is said in the claim's last text. -/
import Derived.Test.YtjhdfldadcbkkaaGreatRv8
import Derived.Laws.LoneSync
namespace Go.Rv

/-! ## parts of values -/

def fieldS (P : Program) (t : TypeId) (v : SV) (f : Nat) (K : SV → Prop) : Prop :=
  match P.underlying t, v with
  | some (.struct fs), .agg l => match fs[f]? with
    | some fd => match aggT P fd.type, sizeT P fd.type with
      | some true, some s => segSub l fd.offset s (fun l' => K (.agg l'))
      | some false, _ => segGet l fd.offset 0 K
      | _, _ => False
    | none => False
  | _, _ => False

theorem part_sub {P ρ l cs t off s l'} (w : World) (hv : VRel ρ (.agg l) (.agg cs)) (ha : aggT P t = some true) (hs : sizeT P t = some s)
    (h1 : segLen l' = s) (h2 : off + s ≤ segLen l) (h3 : ∀ c, c < s → segCell l' c = segCell l (off + c)) :
    VRel ρ (.agg l') (.agg (cs.extract off (off + s))) ∧ (part t cs off).run P w = .ok (.agg (cs.extract off (off + s))) w := by
  cases hv with
  | agg a1 a2 a3 =>
  refine ⟨.agg (by simp; omega) (fun c v hc => ?_) (fun c v hc => ?_), by simp [part, run_isAgg ha, run_size hs]⟩
  · have := segCell_lt _ _ _ hc
    rw [h3 c (by omega)] at hc
    exact a2 _ _ hc
  · have hlt := segCell_lt _ _ _ hc
    rw [h3 c (by omega)] at hc
    have := a3 _ _ hc
    have e1 : (cs.extract off (off + s))[c]? = cs[off + c]? := by rw [Array.getElem?_extract, if_pos (by omega)]
    simpa [Array.getD_eq_getD_getElem?, e1] using this

theorem part_get {P ρ l cs t off v} (w : World) (hv : VRel ρ (.agg l) (.agg cs)) (ha : aggT P t = some false) (hc : segCell l off = some v) :
    ∃ v', VRel ρ v v' ∧ (part t cs off).run P w = .ok v' w := by
  cases hv with
  | agg a1 a2 a3 =>
  have hlt := segCell_lt _ _ _ hc
  have hlt' : off < cs.size := by omega
  exact ⟨cs[off], by simpa [Array.getD_eq_getD_getElem?, hlt'] using a3 _ _ hc, by simp [part, run_isAgg ha, hlt']⟩

theorem field_sound {P t v f K ρ} {w : World} {v'} (h : fieldS P t v f K) (hv : VRel ρ v v') : Quiet P (Instr.field t v' f) ρ w K := by
  unfold fieldS at h
  split at h
  · rename_i fs l hu
    have hv0 := hv
    cases hv with
    | agg a1 a2 a3 =>
    split at h
    · rename_i fd hf
      split at h
      · rename_i s ha hs
        obtain ⟨l', h1, h2, h3, h4⟩ := segSub_spec h
        obtain ⟨r1, r2⟩ := part_sub (P := P) w hv0 ha hs h2 h3 h4
        exact ⟨_, _, h1, r1, by simp [Instr.field, run_underlying hu, hf, asAgg, r2]⟩
      · rename_i ha
        obtain ⟨u, h1, h2⟩ := segGet_spec _ _ _ _ h
        obtain ⟨u', r1, r2⟩ := part_get (P := P) w hv0 ha (by simpa using h1)
        exact ⟨_, _, h2, r1, by simp [Instr.field, run_underlying hu, hf, asAgg, r2]⟩
      · exact h.elim
    · exact h.elim
  · exact h.elim

def byteAt (s : ByteArray) (i : Nat) : Int := ((s.data.getD i 0).toNat : Int)

def indexS (P : Program) (t : TypeId) (x ix : SV) (K : SV → Prop) : Prop :=
  match ix with
  | .int _ i => match P.underlying t, x with
    | some (.array len e), .agg l => match aggT P e, sizeT P e with
      | some true, some s => ifB (idx i len) (segSub l (i.toNat * s) s (fun l' => K (.agg l'))) False
      | some false, some 1 => ifB (idx i len) (segGet l 0 i.toNat K) False
      | _, _ => False
    | some .string, .str s => ifB (idx i s.size) (K (.int .u8 (byteAt s i.toNat))) False
    | _, _ => False
  | _ => False

theorem index_sound {P t x ix K ρ} {w : World} {x' ix'} (h : indexS P t x ix K) (hx : VRel ρ x x') (hi : VRel ρ ix ix') : Quiet P (Instr.index t x' ix') ρ w K := by
  unfold indexS at h
  split at h
  · rename_i k i
    cases hi
    split at h
    · rename_i len e l hu
      have hx0 := hx
      cases hx with
      | agg a1 a2 a3 =>
      split at h
      · rename_i s ha hs
        obtain ⟨hb, h⟩ := ifB_yes h
        have hb : 0 ≤ i ∧ i < (len : Int) := of_decide_eq_true hb
        obtain ⟨l', h1, h2, h3, h4⟩ := segSub_spec h
        obtain ⟨r1, r2⟩ := part_sub (P := P) w hx0 ha hs h2 h3 h4
        exact ⟨_, _, h1, r1, by simp [Instr.index, asIntOf, run_underlying hu, hb, run_size hs, r2]⟩
      · rename_i ha hs
        obtain ⟨hb, h⟩ := ifB_yes h
        have hb : 0 ≤ i ∧ i < (len : Int) := of_decide_eq_true hb
        obtain ⟨u, h1, h2⟩ := segGet_spec _ _ _ _ h
        obtain ⟨u', r1, r2⟩ := part_get (P := P) (off := i.toNat * 1) w hx0 ha (by simpa using h1)
        exact ⟨_, _, h2, r1, by simp only [Instr.index, asIntOf, Sem.run_bind, Sem.run_pure, Result.andThen_ok, run_underlying hu, hb, and_self, if_true, run_size hs, r2]⟩
      · exact h.elim
    · rename_i s hu
      cases hx
      obtain ⟨hb, h⟩ := ifB_yes h
      have hb : 0 ≤ i ∧ i < (s.size : Int) := of_decide_eq_true hb
      refine ⟨_, _, h, .int _ _, ?_⟩
      have hlt : i.toNat < s.size := by omega
      have hlt' : i.toNat < s.data.size := hlt
      have hg : s[i.toNat]? = some s.data[i.toNat] := by
        rw [getElem?_pos s i.toNat hlt]; rfl
      have hd : s.data.getD i.toNat 0 = s.data[i.toNat] := by rw [Array.getD_eq_getD_getElem?, Array.getElem?_eq_getElem hlt']; rfl
      simp [Instr.index, asIntOf, run_underlying hu, hb.1, hg, byteAt, hd]
    · exact h.elim
  · exact h.elim

def extractS (v : SV) (i : Nat) (K : SV → Prop) : Prop :=
  match v with
  | .tuple l => match l[i]? with
    | some u => K u
    | none => False
  | _ => False

theorem extract_sound {P v i K ρ} {w : World} {v'} (h : extractS v i K) (hv : VRel ρ v v') : Quiet P (Instr.extract v' i) ρ w K := by
  unfold extractS at h
  split at h
  · rename_i l
    cases hv with
    | tuple h1 h2 =>
    rename_i vs
    split at h
    · rename_i u hu
      have hlt := (List.getElem?_eq_some_iff.1 hu).1
      have hlt' : i < vs.size := by omega
      exact ⟨u, vs[i], h, by simpa [Array.getD_eq_getD_getElem?, hlt'] using h2 i u hu, by simp [Instr.extract, hlt']⟩
    · exact h.elim
  · exact h.elim

/-! ## conversions -/

/-- a string of bytes -/
def mkStr (n : Nat) (f : Nat → Int) : ByteArray := ⟨((List.range n).map fun i => UInt8.ofNat (f i).toNat).toArray⟩

def convertS (P : Program) (src dst : TypeId) (sh : SH) (x : SV) (K : SV → Prop) : Prop :=
  match P.underlying src, P.underlying dst, x with
  | some _, some (.int k), .int _ n => K (.int k (k.wrap n))
  | some .string, some .string, .str s => K (.str s)
  | some (.slice e), some .string, .nils => match P.underlying e with
    | some (.int .u8) => K (.str (mkStr 0 (fun _ => 0)))
    | _ => False
  | some (.slice e), some .string, .slice id i j len _ => match P.underlying e, sh[id]? with
    | some (.int .u8), some (.ints .u8 n f _ _) => match j with
      | 0 => ifB (decide (i + len ≤ n)) (K (.str (mkStr len (fun y => f (i + y))))) False
      | _ + 1 => False
    | _, _ => False
  | some (.pointer t), some .unsafePointer, .ptr id i j x => match sh[id]?, sizeT P t with
    | some o, some (_ + 1) => objGet o i j x (fun _ => K (.ptr id i j x))
    | _, _ => False
  | _, _, _ => False

theorem run_bytesToString {P : Program} (w : World) (a : Addr) (n c : Nat) (f : Nat → Int) (h : ∀ y, y < n → w.cell? (a.add y) = some (.int .u8 (f y))) :
    (Conv.bytesToString (.slice (some a) n c)).run P w = .ok (.string (mkStr n f)) w := by
  have hl := run_loadCells (P := P) w a n (fun y => .int .u8 (f y)) h
  simp only [Conv.bytesToString, Sem.run_bind, hl, Result.andThen_ok]
  rw [← Array.forIn_toList]
  have key : ∀ (l : List Nat) (s : ByteArray), (Sem.run P (forIn (m := Sem) (l.map fun y => Value.int .u8 (f y)) s fun c __s =>
      match c with
      | Value.int IntKind.u8 n => pure (ForInStep.yield (__s.push (UInt8.ofNat n.toNat)))
      | _ => do
        stuck "bytesToString: byte expected"
        pure (ForInStep.yield __s)) w) = Result.ok ⟨s.data ++ (l.map fun y => UInt8.ofNat (f y).toNat).toArray⟩ w := by
    intro l
    induction l with
    | nil => intro s; simp
    | cons y l ih =>
      intro s
      simp only [List.map_cons, List.forIn_cons, Sem.run_bind, Sem.run_pure, Result.andThen_ok]
      rw [ih]
      congr 2
      apply Array.ext'
      simp [ByteArray.push]
  have k0 := key (List.range n) ByteArray.empty
  refine (congrArg (fun r : Result ByteArray => r.andThen (fun a w' => Sem.run P (pure (Value.string a)) w')) k0).trans ?_
  simp only [Result.andThen_ok, Sem.run_pure]
  congr 2
  unfold mkStr
  congr 1
  simp [ByteArray.empty, ByteArray.emptyWithCapacity]
  rfl

theorem convert_sound {P src dst sh x K ρ} {w : World} {x'} (h : convertS P src dst sh x K) (hρ : Rep ρ sh w.heap) (hx : VRel ρ x x') : Quiet P (convert src dst x') ρ w K := by
  unfold convertS at h
  split at h
  · rename_i d k n hs hd
    cases hx
    exact ⟨_, _, h, .int _ _, by simp [convert, run_underlying hs, run_underlying hd, Conv.intToInt]⟩
  · rename_i s hs hd
    cases hx
    exact ⟨_, _, h, .str _, by simp [convert, run_underlying hs, run_underlying hd]⟩
  · rename_i e hs hd
    split at h
    · rename_i he
      cases hx
      exact ⟨_, _, h, .str _, by simp [convert, run_underlying hs, run_underlying hd, run_underlying he, Conv.bytesToString, mkStr]; rfl⟩
    · exact h.elim
  · rename_i e id i j len cap hs hd
    split at h
    · rename_i n f t ro he hsh
      cases hx with
      | slice ha ho hc hl ht =>
      rename_i en off cap'
      split at h
      · obtain ⟨hb, h⟩ := ifB_yes h
        have hb := of_decide_eq_true hb
        refine ⟨_, _, h, .str _, ?_⟩
        have hr := run_bytesToString (P := P) w ⟨en.b, off, none⟩ len cap' (fun y => f (i + y)) (by
          intro y hy
          obtain ⟨en', v', he', hw, hsc, hrel, cc, t', fr, hcell, hcc⟩ := hρ.cell hsh (i := i + y) (j := 0) (v := .int .u8 (f (i + y))) (by simp [SObj.cell]; omega)
          rw [ha] at he'; cases he'
          cases hrel
          rw [addr_add]
          refine cell_of_heap hcell ?_
          rw [← hcc]; congr 1
          have := ho (by omega)
          rw [this, hw]; simp [SObj.width]; omega)
        simp [convert, run_underlying hs, run_underlying hd, run_underlying he, hr]
      · exact h.elim
    · exact h.elim
  · rename_i t id i j y hs hd
    split at h
    · rename_i o n hsh hz
      have hX := hx
      cases hx with
      | ptr ha ho =>
      rename_i en off
      obtain ⟨v, hcell, hk⟩ := objGet_spec h
      obtain ⟨e', v', he', hw, hsc, hr, cc, t', fr, hb, hcc⟩ := hρ.cell hsh hcell
      rw [ha] at he'; cases he'
      refine ⟨_, _, hk, hX, run_convert_to_unsafe hs hd ?_ (cell_of_heap (o := off) (v := v') hb (by rw [← hcc]; congr 1; omega))⟩
      unfold sizeT at hz
      cases hi : P.info? t with
      | none => rw [hi] at hz; cases hz
      | some inf =>
        rw [hi] at hz
        simp only [Option.map_some, Option.some.injEq] at hz ⊢
        simp [hz]
    · exact h.elim
  · exact h.elim

/-! ## interfaces, functions, checks -/

def makeIfaceS (P : Program) (t : TypeId) (v : SV) (K : SV → Prop) : Prop :=
  match P.underlying t with
  | some (.interface _) => False
  | some _ => match v with
    | .vec .. | .tuple _ => False
    | _ => K (.iface t v)
  | none => False

theorem makeIface_sound {P t v K ρ} {w : World} {v'} (h : makeIfaceS P t v K) (hv : VRel ρ v v') : Quiet P (Instr.makeInterface t v') ρ w K := by
  unfold makeIfaceS at h
  split at h
  · exact h.elim
  · rename_i d hn hu
    have : (Instr.makeInterface t v').run P w = .ok (.iface t v') w := by
      cases d <;> first | (exact (hn _ rfl).elim) | simp [Instr.makeInterface, run_underlying hu]
    split at h
    · exact h.elim
    · exact h.elim
    · exact ⟨_, _, h, .iface hv, this⟩
  · exact h.elim

def zeroV (P : Program) (t : TypeId) : Option SV :=
  match P.info? t with
  | some i => match i.zero with
    | some (.agg cs) => match packZ (shapeOf P 20 t) cs.toList with
      | some l => some (.agg l)
      | none => none
    | some v => valSV v
    | none => none
  | none => none

theorem zeroV_spec {P t z} (h : zeroV P t = some z) : ∃ z', (∀ w, (zeroValue t).run P w = .ok z' w) ∧ ∀ ρ, VRel ρ z z' := by
  unfold zeroV at h
  split at h
  · rename_i i hi
    split at h
    · rename_i cs hz
      split at h
      · rename_i l hl
        cases h
        refine ⟨_, fun w => by simp [zeroValue, typeInfo, hi, hz]; rfl, fun ρ => ?_⟩
        obtain ⟨h1, h2⟩ := packZ_spec (ρ := ρ) _ _ _ hl
        exact LRel.agg ⟨by simpa using h1, fun c v hv => by simpa using h2 c v hv⟩
      · cases h
    · rename_i v hn hz
      exact ⟨v, fun w => by simp [zeroValue, typeInfo, hi, hz], fun ρ => (valSV_rel h).1⟩
    · cases h
  · cases h

def typeAssertS (P : Program) (x : SV) (t : TypeId) (ok : Bool) (K : SV → Prop) : Prop :=
  match P.underlying t with
  | some (.interface _) => False
  | some _ => match x with
    | .iface u v => if u = t then (if ok = true then K (.tuple [v, .bool true]) else K v) else (if ok = true then (match zeroV P t with
        | some z => K (.tuple [z, .bool false])
        | none => False) else False)
    | .nili => if ok = true then (match zeroV P t with
        | some z => K (.tuple [z, .bool false])
        | none => False) else False
    | _ => False
  | none => False

theorem tuple2 {ρ : Inj} {a b a' b'} (ha : VRel ρ a a') (hb : VRel ρ b b') : VRel ρ (.tuple [a, b]) (.tuple #[a', b']) := by
  refine .tuple rfl (fun i v hv => ?_)
  match i with
  | 0 => simp at hv; subst hv; exact ha
  | 1 => simp at hv; subst hv; exact hb
  | i + 2 => simp at hv

theorem typeAssert_sound {P x t ok K ρ xt} {w : World} {x'} (h : typeAssertS P x t ok K) (hx : VRel ρ x x') : Quiet P (Instr.typeAssert x' xt t ok) ρ w K := by
  unfold typeAssertS at h
  split at h
  · exact h.elim
  · rename_i d hn hu
    have run1 : ∀ (u : TypeId) (v' : Value), (Instr.typeAssert (.iface u v') xt t ok).run P w = (if u = t then (pure (if ok then .tuple #[v', .bool true] else v') : Sem Value) else
        (if ok then (do pure (.tuple #[← zeroValue t, .bool false])) else runtimePanic (.typeAssertion (some xt) (some u) t ""))).run P w := by
      intro u v'
      cases d <;> first | (exact (hn _ rfl).elim) | (simp only [Instr.typeAssert, Sem.run_bind, run_underlying hu, Result.andThen_ok])
    have run2 : (Instr.typeAssert .nilIface xt t ok).run P w = (if ok then (do pure (.tuple #[← zeroValue t, .bool false])) else runtimePanic (.typeAssertion (some xt) none t "") : Sem Value).run P w := by
      cases d <;> first | (exact (hn _ rfl).elim) | (simp only [Instr.typeAssert, Sem.run_bind, run_underlying hu, Result.andThen_ok])
    split at h
    · rename_i u v
      cases hx with
      | iface hv =>
      rename_i v'
      split at h
      · rename_i hut
        split at h
        · rename_i hok
          exact ⟨_, _, h, tuple2 hv (.bool _), by rw [run1, if_pos hut, if_pos hok]; rfl⟩
        · rename_i hok
          exact ⟨_, _, h, hv, by rw [run1, if_pos hut, if_neg hok]; rfl⟩
      · rename_i hut
        split at h
        · rename_i hok
          split at h
          · rename_i z hz
            obtain ⟨z', h1, h2⟩ := zeroV_spec hz
            exact ⟨_, _, h, tuple2 (h2 ρ) (.bool _), by rw [run1, if_neg hut, if_pos hok]; simp [h1]⟩
          · exact h.elim
        · exact h.elim
    · cases hx
      split at h
      · rename_i hok
        split at h
        · rename_i z hz
          obtain ⟨z', h1, h2⟩ := zeroV_spec hz
          exact ⟨_, _, h, tuple2 (h2 ρ) (.bool _), by rw [run2, if_pos hok]; simp [h1]⟩
        · exact h.elim
      · exact h.elim
    · exact h.elim
  · exact h.elim

def nilCheckS (x : SV) (K : SV → Prop) : Prop :=
  match x with
  | .ptr .. => K x
  | _ => False

def lenS (P : Program) (t : TypeId) (sh : SH) (x : SV) (K : SV → Prop) : Prop :=
  match P.underlying t, x with
  | some .string, .str s => K (.int .i64 s.size)
  | some (.array n _), _ => K (.int .i64 n)
  | some (.slice _), .nils => K (.int .i64 0)
  | some (.slice _), .slice _ _ _ len _ => K (.int .i64 len)
  | some (.map _ _), .nilm => K (.int .i64 0)
  | some (.map _ _), .map id => match sh[id]? with
    | some (.map kvs) => K (.int .i64 kvs.length)
    | _ => False
  | _, _ => False

theorem EntRel.length {ρ : Inj} {l es} (h : EntRel ρ l es) : l.length = es.length := by
  induction h with
  | nil => rfl
  | cons _ _ _ ih => simp [ih]

theorem len_sound {P t ty sh x K ρ} {w : World} {x'} (h : lenS P t sh x K) (hρ : Rep ρ sh w.heap) (hx : VRel ρ x x') : Quiet P (Builtin.len_ #[t] ty #[x']) ρ w K := by
  unfold lenS at h
  split at h
  · rename_i s hu
    cases hx; exact ⟨_, _, h, .int _ _, by simp [Builtin.len_, run_underlying hu, goInt]⟩
  · rename_i n e hu
    exact ⟨_, _, h, .int _ _, by simp [Builtin.len_, run_underlying hu, goInt]⟩
  · rename_i e hu
    cases hx; exact ⟨_, _, h, .int _ _, by simp [Builtin.len_, run_underlying hu, goInt]⟩
  · rename_i e id i j len cap hu
    cases hx; exact ⟨_, _, h, .int _ _, by simp [Builtin.len_, run_underlying hu, goInt]⟩
  · rename_i e1 e2 hu
    cases hx; exact ⟨_, _, h, .int _ _, by simp [Builtin.len_, run_underlying hu, goInt]⟩
  · rename_i e1 e2 id hu
    split at h
    · rename_i kvs hsh
      cases hx with
      | map he =>
      obtain ⟨e', he', es, clock, h1, h2, _⟩ := hρ.obj _ _ hsh rfl
      rw [he] at he'; cases he'
      refine ⟨_, _, h, .int _ _, ?_⟩
      have hl := h2.length
      simp only [Array.length_toList] at hl
      simp [Builtin.len_, run_underlying hu, getObj, Sem.run, h1, goInt, hl]
    · exact h.elim
  · exact h.elim

def maxI (x y : Int) : Int := if y > x then y else x
def minI (x y : Int) : Int := if y < x then y else x

def maxS (l : List SV) (K : SV → Prop) : Prop :=
  match l with
  | [.int k x, .int _ y] => K (.int k (maxI x y))
  | _ => False

def minS (l : List SV) (K : SV → Prop) : Prop :=
  match l with
  | [.int k x, .int _ y] => K (.int k (minI x y))
  | _ => False

inductive VRels (ρ : Inj) : List SV → List Value → Prop where
  | nil : VRels ρ [] []
  | cons {v v' l l'} : VRel ρ v v' → VRels ρ l l' → VRels ρ (v :: l) (v' :: l')

theorem VRels.mono {ρ ρ' : Inj} (h : ρ.le ρ') {l l'} (r : VRels ρ l l') : VRels ρ' l l' := by
  induction r with
  | nil => exact .nil
  | cons a _ ih => exact .cons (a.mono h) ih

theorem VRels.length {ρ : Inj} {l l'} (r : VRels ρ l l') : l.length = l'.length := by
  induction r with
  | nil => rfl
  | cons _ _ ih => simp [ih]

theorem VRels.get {ρ : Inj} {l l'} (r : VRels ρ l l') : ∀ (i : Nat) (v : SV), l[i]? = some v → ∃ v', l'[i]? = some v' ∧ VRel ρ v v' := by
  induction r with
  | nil => intro i v h; simp at h
  | cons a _ ih =>
    intro i v h
    cases i with
    | zero => simp at h; subst h; exact ⟨_, rfl, a⟩
    | succ i => simpa using ih i v (by simpa using h)

theorem VRels.tuple {ρ : Inj} {l l'} (r : VRels ρ l l') : VRel ρ (.tuple l) (.tuple l'.toArray) := by
  refine .tuple (by simpa using r.length.symm) (fun i v hv => ?_)
  obtain ⟨v', h1, h2⟩ := r.get i v hv
  simpa [Array.getD_eq_getD_getElem?, h1] using h2

theorem max_sound {P ty tys l K ρ} {w : World} {l'} (h : maxS l K) (hl : VRels ρ l l') : Quiet P (Builtin.max_ tys ty l'.toArray) ρ w K := by
  unfold maxS at h
  split at h
  · cases hl with
    | cons h1 h2 => cases h2 with
      | cons h2 h3 => cases h3; cases h1; cases h2; exact ⟨_, _, h, .int _ _, by simp [Builtin.max_, Builtin.max2, maxI]⟩
  · exact h.elim

theorem min_sound {P ty tys l K ρ} {w : World} {l'} (h : minS l K) (hl : VRels ρ l l') : Quiet P (Builtin.min_ tys ty l'.toArray) ρ w K := by
  unfold minS at h
  split at h
  · cases hl with
    | cons h1 h2 => cases h2 with
      | cons h2 h3 => cases h3; cases h1; cases h2; exact ⟨_, _, h, .int _ _, by simp [Builtin.min_, Builtin.min2, minI]⟩
  · exact h.elim

end Go.Rv
