/- Proved: the law ChainNone returns true for every input, and every argument reads afterwards as it read before. Conditions: none beyond the given statement (the row chainNoneRow over the pinned program). -/
import Derived.Test.YtkjdbokhcdmplaaGreatC1
import Derived.Test.YtkjdbokhcdmplaaGreatRows
import Derived.WalkKit
import Derived.ProofKit
import Derived.OpenShut
import Derived.ShutString
import Derived.ChangeOld
open Go Go.Rv Go.Proofs Go.Rv.P1
namespace Go.Proofs.YtkjdbokhcdmplaaGreat
open Go.ChangeShapes Go.WideShapes Go.ChangeAt Go.RowKit
set_option linter.unusedVariables false

theorem own : ownKnob Tryz.prog.godebug = none := by kernel_rfl
theorem laidOut : laidOutB Tryz.prog = true := by kernel_rfl
theorem ag3f : aggT Tryz.prog 3 = some false := by kernel_rfl
theorem ag24 : aggT Tryz.prog 24 = some true := by kernel_rfl
theorem c24 : Tryz.prog.cellsOf 24 = 2 := by kernel_rfl
theorem en3 : enterable Tryz.prog 3 = true := by kernel_rfl

theorem walk (e a b : Value) (w : World) (he : e.oneCell' = true) (ha : ∀ (i : Nat) (v : Value), [a, b][i]? = some v → v.oneCell' = true) :
    Calls Tryz.prog 3 #[e, .agg #[a, b]] w fun e w' => e = .returned (.bool true) ∧ Below w.heap.size w w' :=
  law_of (args := [.any e, .agg [.any a, .any b]]) (args' := [e, .agg #[a, b]]) ((table_ok 60 3 _ _ _ (by rw [chainNone_run]; exact ⟨⟨⟨trivial, trivial⟩, trivial, trivial⟩, ⟨trivial, trivial⟩, trivial, trivial⟩)).calls en3)
    (.cons (.any he) (.cons (rel_any [a, b] ha) .nil))

set_option maxRecDepth 100000 in
theorem lifted (os : Os) (started : os.Started) (H : Type) (enc : TypeId × Value → H) :
    ReturnsInHanded {} Tryz.checked os 3 .any (Rows.chainNoneSpec.pre6 enc Tryz.prog Tryz.f3 Rows.chainNoneRow.domain false) (Rows.chainNoneSpec.post enc Tryz.prog Tryz.f3 false true false false) := by
  refine returnsInHanded_of_change (C := Tryz.checked) own started (by kernel_rfl) Tryz.func3
    (ChangeSpec.witness6 (enc := enc) (C := Tryz.checked) false ⟨#[], #[.int .i64 0, .agg #[.int .u32 0, .int .u32 0]], []⟩ 8 (by kernel_rfl) (by kernel_rfl) (by kernel_rfl) (by kernel_rfl)) ?_
  intro W base args ds gs before hval0 hW hcnd _
  have hval : ∀ (j : Nat) t v, Tryz.f3.params[j]? = some t → args[j]? = some v → Value.okWide Tryz.prog W .any base t v := hval0
  have hW' := hW
  obtain ⟨p, q, hA0, hV, rfl, hfz, hnd⟩ := hW
  have hA : DataW.TrodAll enc Tryz.prog W 0 (fun _ => true) true Tryz.f3.params.toList args.toList ds p := hA0
  rw [Tryz.params3] at hA hval
  obtain ⟨v0, vs0, d0, ds0, p0, q0, hargs, rfl, rfl, h0, r0⟩ := trodAll_cons hA
  obtain ⟨v1, vs1, d1, ds1, p1, q1, rfl, rfl, rfl, h1, r1⟩ := trodAll_cons r0
  obtain ⟨rfl, rfl, rfl⟩ := trodAll_nil r1
  obtain rfl : args = #[v0, v1] := by cases args; simp_all
  obtain ⟨rfl, rfl⟩ := trodVars_none hV
  have lt0 : ∀ x ∈ p0, x.block < W.heap.size := by obtain ⟨m, hm⟩ := h0; exact DataW.trod_lt m _ _ _ hm
  have lt1 : ∀ x ∈ p1, x.block < W.heap.size := by obtain ⟨m, hm⟩ := h1; exact DataW.trod_lt m _ _ _ hm
  have o0 := wide_one (hval 0 3 v0 rfl rfl) ag3f
  obtain ⟨cs, rfl, hsz, hone⟩ := wide_agg (hval 1 24 v1 rfl rfl) ag24
  obtain ⟨a, b, rfl⟩ := arr2 (hsz.trans c24)
  clear hA0 hval0
  refine (walk v0 a b W o0 (by simpa using hone)).mono fun e W' ⟨he, bel⟩ => ?_
  subst he
  exact ⟨_, rfl, _, _, _, [], _, [], hW', trodAll_mk1 (shut_bool Tryz.underlying4 _), (trodAll_cons_mk (Below.trod laidOut (by kernel_rfl) (of_decide_eq_true (by kernel_rfl)) h0 bel lt0) (trodAll_cons_mk (Below.trod laidOut (by kernel_rfl) (of_decide_eq_true (by kernel_rfl)) h1 bel lt1) trodAll_mk0)), rfl, bel.frame _, fun h => by cases h⟩

theorem over : Rows.chainNoneRow.holds Tryz.pinned (OpenSpec.ofChange Rows.chainNoneSpec) :=
  OpenClaim.holds_of_wide 3 Tryz.f3 rfl rfl rfl rfl rfl rfl rfl ⟨rfl, rfl, rfl, rfl, rfl⟩ rfl rfl rfl rfl rfl (by kernel_rfl) Tryz.func3 (by kernel_rfl)
    (of_decide_eq_true (by kernel_rfl)) (by unfold Func.isWrapper; first | (rw [if_pos (by decide +kernel)]; kernel_rfl) | (rw [if_neg (by decide +kernel)]; exact ⟨rfl, rfl⟩))
    (fun os started H enc _ => lifted os started H enc)

theorem chainNone_holds : Rows.ChainNoneSaid := over
#print axioms chainNone_holds
end Go.Proofs.YtkjdbokhcdmplaaGreat
