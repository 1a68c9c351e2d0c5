/- A part of the evaluator of the model's code, or of its tables: what is proved is said in the claim's last text. -/
import Derived.Test.YtjhdfldadcbkkaaGreatRv17
import Derived.Laws.LoneSync
namespace Go.Rv

/-! ## what the model itself answers -/

theorem cell_sound {P t sh a K ρ} {w : World} {a'} (h : loadS P t sh a K) (hag : aggT P t = some false) (hρ : Rep ρ sh w.heap) (ha : VRel ρ a a') :
    ∃ ad v v', a' = .pointer (some ad) ∧ ad.spot = none ∧ K v ∧ VRel ρ v v' ∧ w.cell? ad = some v' := by
  unfold loadS at h
  split at h
  · rename_i id i j x
    cases ha with
    | ptr he ho =>
    rename_i e off
    split at h
    · rename_i o hsh
      simp only [hag] at h
      obtain ⟨v, hcell, hk⟩ := objGet_spec h
      obtain ⟨e', v', he', hw, hsc, hr, cc, t', fr, hb, hcc⟩ := hρ.cell hsh hcell
      rw [he] at he'; cases he'
      exact ⟨_, v, v', rfl, rfl, hk, hr, cell_of_heap hb (by rw [← hcc]; congr 1; omega)⟩
    · exact h.elim
  · exact h.elim

theorem set_sound {P t sh a K ρ} {w : World} {ad : Addr} {k : IntKind} {y : Int} {u : Value} (h : storeS P t sh a (.int k y) K) (hs : sizeT P t = some 1) (hρ : Rep ρ sh w.heap) (ha : VRel ρ a (.pointer (some ad))) (hc : w.cell? ad = some u) :
    ∃ sh', K sh' ∧ w.frozen? ad = false ∧ Rep ρ sh' (w.setCell ad (.int k y)).heap ∧ Step ρ sh w ρ sh' (w.setCell ad (.int k y)) := by
  obtain ⟨sh', w', h1, h2, h3, h4⟩ := store_sound h hρ ha (.int k y)
  have hadd : ad.add 0 = ad := by cases ad; rfl
  have hrun : (Instr.storeAt t (.pointer (some ad)) (.int k y)).run P w = stored P w ad (.int k y) .plain := by
    simp [Instr.storeAt, Instr.sureAddr, storeVar, run_size hs, Value.cells, storeCells, hadd, run_store_int]
  rw [hrun] at h2
  unfold stored at h2
  rw [hc] at h2
  simp only at h2
  split at h2
  · cases h2
  · rename_i hf
    cases h2
    exact ⟨sh', h1, by simpa using hf, h3, h4⟩

/-- a function of the model's own -/
structure Ext (P : Program) (f : FuncId) (fn : Func) (e : Array Value → Sem Value) : Prop where
  hf : P.funcs[f]? = some fn
  hname : (fn.name == "runtime.NumGoroutine") = false
  hb : fn.body.isNone = true
  hn : Extern.findNext fn = none
  he : Extern.find fn = some e

def xMark : PT := fun _ sh K => K (.tuple []) sh

theorem xMark0_ok {P f fn m} (x : Ext P f fn (fun _ => do mark m; pure Extern.Race.none_)) (sh : SH) (K : SV → SH → Prop) (h : xMark [] sh K) : CT P f [] sh K := by
  intro ρ w args' hρ ha
  cases ha
  exact .inr ⟨_, _, sh, ρ, w, run_call_mark0 x.hf x.hname x.hb x.hn m x.he w, h, .tuple rfl (by simp), hρ, Step.refl _ _ _⟩

def xMarked : PT := fun args sh K => match args with
  | [.ptr ..] => K (.tuple []) sh
  | _ => False

theorem xMarked_ok {P f fn m} (x : Ext P f fn (Extern.Race.marked m)) (args : List SV) (sh : SH) (K : SV → SH → Prop) (h : xMarked args sh K) : CT P f args sh K := by
  unfold xMarked at h
  split at h
  · intro ρ w args' hρ ha
    cases ha with
    | cons h1 h2 =>
    cases h2; cases h1
    exact .inr ⟨_, _, sh, ρ, w, run_call_marked x.hf x.hname x.hb x.hn m x.he _ w, h, .tuple rfl (by simp), hρ, Step.refl _ _ _⟩
  · exact h.elim

def xLoad (P : Program) (t : TypeId) (k : IntKind) : PT := fun args sh K => match args with
  | [a] => loadS P t sh a (fun v => match v with
    | .int k' n => if k' = k then K (.int k n) sh else False
    | _ => False)
  | _ => False

theorem xLoad_ok {P f fn k} (x : Ext P f fn (Extern.Atomic.loadT (.int k))) {t : TypeId} (hag : aggT P t = some false) (args : List SV) (sh : SH) (K : SV → SH → Prop) (h : xLoad P t k args sh K) : CT P f args sh K := by
  unfold xLoad at h
  split at h
  · intro ρ w args' hρ ha
    cases ha with
    | cons h1 h2 =>
    cases h2
    obtain ⟨ad, v, v', rfl, _, h3, h4, h5⟩ := cell_sound h hag hρ h1
    split at h3
    · split at h3
      · rename_i hk; subst hk
        cases h4
        exact .inr ⟨_, _, sh, ρ, w, run_call_load x.hf x.hname x.hb x.hn _ x.he h5, h3, .int _ _, hρ, Step.refl _ _ _⟩
      · exact h3.elim
    · exact h3.elim
  · exact h.elim

def xStore (P : Program) (t : TypeId) : PT := fun args sh K => match args with
  | [a, .int k y] => loadS P t sh a (fun _ => storeS P t sh a (.int k y) (fun sh' => K (.tuple []) sh'))
  | _ => False

theorem xStore_ok {P f fn} (x : Ext P f fn Extern.Atomic.storeT) {t : TypeId} (hag : aggT P t = some false) (hs : sizeT P t = some 1) (args : List SV) (sh : SH) (K : SV → SH → Prop) (h : xStore P t args sh K) : CT P f args sh K := by
  unfold xStore at h
  split at h
  · intro ρ w args' hρ ha
    cases ha with
    | cons h1 h2 =>
    cases h2 with
    | cons h2 h3 =>
    cases h3; cases h2
    obtain ⟨ad, v, v', rfl, _, h3, h4, h5⟩ := cell_sound h hag hρ h1
    obtain ⟨sh', k1, k2, k3, k4⟩ := set_sound h3 hs hρ h1 h5
    exact .inr ⟨_, _, sh', ρ, _, run_call_store x.hf x.hname x.hb x.hn x.he h5 k2, k1, .tuple rfl (by simp), k3, k4⟩
  · exact h.elim

def xAdd (P : Program) (t : TypeId) (k : IntKind) : PT := fun args sh K => match args with
  | [a, .int k' y] => if k' = k then loadS P t sh a (fun v => match v with
    | .int k' n => if k' = k then storeS P t sh a (.int k (addI k n y)) (fun sh' => K (.int k (addI k n y)) sh') else False
    | _ => False) else False
  | _ => False

theorem xAdd_ok {P f fn k} (x : Ext P f fn (Extern.Atomic.update (Op.intArith .add) k true)) {t : TypeId} (hag : aggT P t = some false) (hs : sizeT P t = some 1) (args : List SV) (sh : SH) (K : SV → SH → Prop) (h : xAdd P t k args sh K) : CT P f args sh K := by
  unfold xAdd at h
  split at h
  · split at h
    · rename_i hk; subst hk
      intro ρ w args' hρ ha
      cases ha with
      | cons h1 h2 =>
      cases h2 with
      | cons h2 h3 =>
      cases h3; cases h2
      obtain ⟨ad, v, v', rfl, _, h3, h4, h5⟩ := cell_sound h hag hρ h1
      split at h3
      · split at h3
        · rename_i hk; subst hk
          cases h4
          obtain ⟨sh', k1, k2, k3, k4⟩ := set_sound h3 hs hρ h1 h5
          exact .inr ⟨_, _, sh', ρ, _, run_call_add x.hf x.hname x.hb x.hn _ x.he h5 k2 (by simp [Op.intArith, addI]), k1, .int _ _, k3, k4⟩
        · exact h3.elim
      · exact h3.elim
    · exact h.elim
  · exact h.elim

def xCas (P : Program) (t : TypeId) (k : IntKind) : PT := fun args sh K => match args with
  | [a, .int k1 o, .int k2 y] => if k1 = k then (if k2 = k then loadS P t sh a (fun v => match v with
    | .int k' n => if k' = k then ifB (eqI n o) (storeS P t sh a (.int k y) (fun sh' => K (.bool true) sh')) False else False
    | _ => False) else False) else False
  | _ => False

theorem xCas_ok {P f fn k} (x : Ext P f fn (Extern.Atomic.casT (.int k))) {t : TypeId} (hag : aggT P t = some false) (hs : sizeT P t = some 1) (args : List SV) (sh : SH) (K : SV → SH → Prop) (h : xCas P t k args sh K) : CT P f args sh K := by
  unfold xCas at h
  split at h
  · split at h
    · rename_i hk; subst hk
      split at h
      · rename_i hk; subst hk
        intro ρ w args' hρ ha
        cases ha with
        | cons h1 h2 =>
        cases h2 with
        | cons h2 h3 =>
        cases h3 with
        | cons h3 h4 =>
        cases h4; cases h3; cases h2
        obtain ⟨ad, v, v', rfl, _, h3, h4, h5⟩ := cell_sound h hag hρ h1
        split at h3
        · split at h3
          · rename_i hk; subst hk
            cases h4
            obtain ⟨he, hst⟩ := ifB_yes h3
            clear h3
            simp only [eqI, beq_iff_eq] at he
            subst he
            obtain ⟨sh', k1, k2, k3, k4⟩ := set_sound hst hs hρ h1 h5
            exact .inr ⟨_, _, sh', ρ, _, run_call_cas_hit x.hf x.hname x.hb x.hn _ x.he h5 k2, k1, .bool _, k3, k4⟩
          · exact h3.elim
        · exact h3.elim
      · exact h.elim
    · exact h.elim
  · exact h.elim

end Go.Rv
