/- A part of the evaluator of the model's code, or of its tables: what is proved is said in the claim's last text. -/
import Derived.Test.YtjhdfldadcbkkaaGreatRvZ
namespace Go.Rv
/-! ## plain facts of the evaluator's words -/
theorem eqI_self (a : Int) : eqI a a = true := by simp [eqI]

theorem eqAll_true : ∀ {l : List (Option Bool)} {b}, eqAll l = some b → (∀ x ∈ l, ∀ c, x = some c → c = true) → b = true
  | [], b, h, _ => by simp only [eqAll, Option.some.injEq] at h; exact h.symm
  | a :: l, b, h, hl => by
    obtain ⟨c, d, h1, h2, h3⟩ := eqAll_cons h
    have hc := hl a (List.mem_cons_self ..) c h1
    have hd := eqAll_true h2 (fun x hx => hl x (List.mem_cons_of_mem _ hx))
    rw [h3, hc, hd]; rfl

theorem eqAt_self {P : Program} : ∀ (d : Nat) (t : TypeId) (off : Nat) (x : List SV) (b : Bool), eqAt P d t off x x = some b → b = true
  | 0, t, off, x, b, h => by simp [eqAt] at h
  | d + 1, t, off, x, b, h => by
    unfold eqAt at h
    split at h
    · split at h
      · rename_i a c h1 h2
        rw [h1] at h2; cases h2
        simpa using h.symm
      · cases h
    · split at h
      · rename_i k a k' c h1 h2
        rw [h1] at h2; cases h2
        simpa [eqI] using h.symm
      · cases h
    · split at h
      · split at h
        · cases h
        · split at h
          · refine eqAll_true h ?_
            intro y hy c hc
            obtain ⟨f, _, hf⟩ := List.mem_map.1 hy
            subst hf
            split at hc
            · simpa using hc.symm
            · exact eqAt_self d _ _ _ _ hc
          · cases h
      · cases h
    · split at h
      · split at h
        · refine eqAll_true h ?_
          intro y hy c hc
          obtain ⟨f, _, hf⟩ := List.mem_map.1 hy
          subst hf
          exact eqAt_self d _ _ _ _ hc
        · cases h
      · cases h
    · cases h

theorem wrap_u32 (x : BitVec 32) : IntKind.u32.wrap (x.toNat : Int) = x.toNat := by
  have := x.isLt
  unfold IntKind.wrap
  simp [IntKind.signed, IntKind.bits]
  omega

theorem ofInt_wrap_u32 (x : BitVec 32) : BitVec.ofInt 32 (IntKind.u32.wrap (x.toNat : Int)) = x := by
  rw [wrap_u32]; simp

theorem orI_assoc_u32 (a b c d : Int) (h : (BitVec.ofInt 32 b ||| BitVec.ofInt 32 c) = BitVec.ofInt 32 d) : orI .u32 (orI .u32 a b) c = orI .u32 a d := by
  show IntKind.u32.wrap (((BitVec.ofInt 32 (IntKind.u32.wrap ((BitVec.ofInt 32 a ||| BitVec.ofInt 32 b).toNat : Int))) ||| BitVec.ofInt 32 c).toNat : Int) = IntKind.u32.wrap ((BitVec.ofInt 32 a ||| BitVec.ofInt 32 d).toNat : Int)
  rw [ofInt_wrap_u32, BitVec.or_assoc, h]
end Go.Rv
namespace Go.Rv
/-! ## cells of what came in -/
theorem cellWide_int {P : Program} {w r base t v k} (h : Cell.okWide P w r base t v) (ht : P.underlying t = some (.int k)) : ∃ n, v = .int k n ∧ k.has n := by
  cases v <;> simp only [Cell.okWide, Cell.ok, ht] at h
  obtain ⟨rfl, h3⟩ := h
  exact ⟨_, rfl, h3⟩

theorem cellWide_bool {P : Program} {w r base t v} (h : Cell.okWide P w r base t v) (ht : P.underlying t = some .bool) : ∃ b, v = .bool b := by
  cases v <;> simp only [Cell.okWide, Cell.ok, ht] at h
  exact ⟨_, rfl⟩

/-- the cells of a struct or array by value -/
theorem rowWide_at {P : Program} {w r base t} {cs : Array Value} (h : Row.okWide P w r base t cs) {ts : List TypeId} (hts : P.cellTypes P.depth t = some ts) (hsz : cs.size = ts.length) : ∀ (i : Nat) (u : TypeId), ts[i]? = some u → ∃ v, cs[i]? = some v ∧ Cell.okWide P w r base u v := by
  intro i u hu
  have hi := (List.getElem?_eq_some_iff.1 hu).1
  obtain ⟨ts', h1, _, h3⟩ := h
  rw [hts] at h1; cases h1
  have hi' : i < cs.size := by omega
  obtain ⟨u', h4, h5⟩ := h3 i cs[i] (Array.getElem?_eq_getElem hi')
  rw [Nat.mod_eq_of_lt hi, hu] at h4; cases h4
  exact ⟨cs[i], Array.getElem?_eq_getElem hi', h5⟩

theorem wide_row {P : Program} {w r base t v} (h : Value.okWide P w r base t v) (ha : aggT P t = some true) : ∃ cs : Array Value, v = .agg cs ∧ cs.size = P.cellsOf t ∧ Row.okWide P w r base t cs := by
  unfold Value.okWide at h
  unfold aggT at ha
  split at h
  · exact h
  · exact h
  · rename_i h1 h2
    cases hu : P.underlying t with
    | none => simp [hu] at ha
    | some d => cases d <;> first | (simp [hu] at ha; done) | (exact absurd hu (h1 _)) | (exact absurd hu (h2 _ _))

def cellI (cs : Array Value) (i : Nat) : Int := match cs.getD i undef with
  | .int _ n => n
  | _ => 0

theorem cellI_eq {cs : Array Value} {i : Nat} {k n} (h : cs[i]? = some (.int k n)) : cellI cs i = n := by
  simp [cellI, Array.getD_eq_getD_getElem?, h]

/-- a state that came in -/
theorem state_rel {cs : Array Value} (hsz : cs.size = 19) (hint : ∀ i, i < 18 → ∃ n, cs[i]? = some (.int .u32 n) ∧ IntKind.u32.has n) (hb : ∃ b, cs[18]? = some (.bool b)) :
    ∃ (r cr : Nat → Int) (pc ps : Int) (hl : Bool), (∀ ρ, VRel ρ (.agg [.vec .u32 8 r, .int .u32 pc, .int .u32 ps, .vec .u32 8 cr, .bool hl]) (.agg cs)) ∧
      (∀ i, i < 8 → IntKind.u32.has (r i) ∧ IntKind.u32.has (cr i)) ∧ IntKind.u32.has pc ∧ IntKind.u32.has ps := by
  obtain ⟨b, hb⟩ := hb
  have hI : ∀ i, i < 18 → cs[i]? = some (.int .u32 (cellI cs i)) ∧ IntKind.u32.has (cellI cs i) := by
    intro i hi
    obtain ⟨n, h1, h2⟩ := hint i hi
    rw [cellI_eq h1]; exact ⟨h1, h2⟩
  refine ⟨fun i => cellI cs i, fun i => cellI cs (10 + i), cellI cs 8, cellI cs 9, b, fun ρ => ?_, fun i hi => ⟨(hI i (by omega)).2, (hI (10 + i) (by omega)).2⟩, (hI 8 (by omega)).2, (hI 9 (by omega)).2⟩
  have key : ∀ c v, segCell [.vec .u32 8 (fun i => cellI cs i), .int .u32 (cellI cs 8), .int .u32 (cellI cs 9), .vec .u32 8 (fun i => cellI cs (10 + i)), .bool b] c = some v → v.scal = true ∧ ∃ v', cs[c]? = some v' ∧ VRel ρ v v' := by
    intro c v hv
    simp only [segCell] at hv
    split at hv
    · rename_i hc
      cases hv
      exact ⟨rfl, _, (hI c (by omega)).1, .int _ _⟩
    · rename_i hc
      obtain ⟨d, rfl⟩ : ∃ d, c = 8 + d := ⟨c - 8, by omega⟩
      rw [show 8 + d - 8 = d by omega] at hv
      match d, hv with
      | 0, hv => cases hv; exact ⟨rfl, _, (hI 8 (by omega)).1, .int _ _⟩
      | 1, hv => cases hv; exact ⟨rfl, _, (hI 9 (by omega)).1, .int _ _⟩
      | d + 2, hv =>
        simp only at hv
        split at hv
        · rename_i hd
          cases hv
          refine ⟨rfl, _, ?_, .int _ _⟩
          have := (hI (10 + d) (by omega)).1
          rw [show 8 + (d + 2) = 10 + d by omega]; exact this
        · rename_i hd
          obtain ⟨x, rfl⟩ : ∃ x, d = 8 + x := ⟨d - 8, by omega⟩
          rw [show 8 + x - 8 = x by omega] at hv
          match x, hv with
          | 0, hv => cases hv; exact ⟨rfl, _, hb, .bool _⟩
          | x + 1, hv => simp at hv
  refine .agg (by simp [segLen, SV.len, hsz]) (fun c v hv => (key c v hv).1) (fun c v hv => ?_)
  obtain ⟨_, v', h1, h2⟩ := key c v hv
  simpa [Array.getD_eq_getD_getElem?, h1] using h2
end Go.Rv
