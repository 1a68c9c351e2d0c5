/- Proved: the law CacheNone returns true for every input, and its argument reads afterwards as it read before. Conditions: none beyond the given statement (the row cacheNoneRow over the pinned program). -/
import Derived.Test.YtkjdbokhcdmplaaGreatC2
import Derived.Test.YtkjdbokhcdmplaaGreatRows
import Derived.WalkKit
import Derived.ProofKit
import Derived.OpenShut
import Derived.ShutString
import Derived.ChangeOld
open Go Go.Rv Go.Proofs Go.Rv.P1
namespace Go.Proofs.YtkjdbokhcdmplaaGreat
open Go.ChangeShapes Go.WideShapes Go.ChangeAt Go.RowKit
set_option linter.unusedVariables false

theorem own : ownKnob Tryz.prog.godebug = none := by kernel_rfl
theorem laidOut : laidOutB Tryz.prog = true := by kernel_rfl
theorem ag57 : aggT Tryz.prog 57 = some true := by kernel_rfl
theorem c57 : Tryz.prog.cellsOf 57 = 11 := by kernel_rfl
theorem en6 : enterable Tryz.prog 6 = true := by kernel_rfl

theorem walk (a b c d e f g i j k l : Value) (w : World) (ha : ∀ (n : Nat) (v : Value), [a, b, c, d, e, f, g, i, j, k, l][n]? = some v → v.oneCell' = true) :
    Calls Tryz.prog 6 #[.agg #[a, b, c, d, e, f, g, i, j, k, l]] w fun e w' => e = .returned (.bool true) ∧ Below w.heap.size w w' :=
  law_of (args := [.agg [.any a, .any b, .any c, .any d, .any e, .any f, .any g, .any i, .any j, .any k, .any l]]) (args' := [.agg #[a, b, c, d, e, f, g, i, j, k, l]])
    ((CTP.ct (tableX_ok 60 6 _ _ _ _ (by rw [cacheNone_run]; exact ⟨rfl, fun _ _ _ => ⟨rfl, fun _ _ _ => ⟨⟨trivial, trivial⟩, trivial, trivial⟩⟩⟩))).calls en6)
    (.cons (rel_any [a, b, c, d, e, f, g, i, j, k, l] ha) .nil)

set_option maxRecDepth 100000 in
theorem lifted (os : Os) (started : os.Started) (H : Type) (enc : TypeId × Value → H) :
    ReturnsInHanded {} Tryz.checked os 6 .any (Rows.cacheNoneSpec.pre6 enc Tryz.prog Tryz.f6 Rows.cacheNoneRow.domain false) (Rows.cacheNoneSpec.post enc Tryz.prog Tryz.f6 false true false false) := by
  refine returnsInHanded_of_change (C := Tryz.checked) own started (by kernel_rfl) Tryz.func6
    (ChangeSpec.witness6 (enc := enc) (C := Tryz.checked) false ⟨#[], #[.agg #[.int .i64 0, .int .i64 0, .int .u32 0, .int .u32 0, .slice none 0 0, .slice none 0 0, .int .u32 0, .int .u32 0, .int .i64 0, .slice none 0 0, .slice none 0 0]], []⟩ 8 (by kernel_rfl) (by kernel_rfl) (by kernel_rfl) (by kernel_rfl)) ?_
  intro W base args ds gs before hval0 hW hcnd _
  have hval : ∀ (j : Nat) t v, Tryz.f6.params[j]? = some t → args[j]? = some v → Value.okWide Tryz.prog W .any base t v := hval0
  have hW' := hW
  obtain ⟨p, q, hA0, hV, rfl, hfz, hnd⟩ := hW
  have hA : DataW.TrodAll enc Tryz.prog W 0 (fun _ => true) true Tryz.f6.params.toList args.toList ds p := hA0
  rw [Tryz.params6] at hA hval
  obtain ⟨v0, vs0, d0, ds0, p0, q0, hargs, rfl, rfl, h0, r0⟩ := trodAll_cons hA
  obtain ⟨rfl, rfl, rfl⟩ := trodAll_nil r0
  obtain rfl : args = #[v0] := by cases args; simp_all
  obtain ⟨rfl, rfl⟩ := trodVars_none hV
  have lt0 : ∀ x ∈ p0, x.block < W.heap.size := by obtain ⟨m, hm⟩ := h0; exact DataW.trod_lt m _ _ _ hm
  obtain ⟨cs, rfl, hsz, hone⟩ := wide_agg (hval 0 57 v0 rfl rfl) ag57
  obtain ⟨a, b, c, d, e, f, g, i, j, k, l, rfl⟩ := arr11 (hsz.trans c57)
  clear hA0 hval0
  refine (walk a b c d e f g i j k l W (by simpa using hone)).mono fun e W' ⟨he, bel⟩ => ?_
  subst he
  exact ⟨_, rfl, _, _, _, [], _, [], hW', trodAll_mk1 (shut_bool Tryz.underlying4 _), (trodAll_cons_mk (Below.trod laidOut (by kernel_rfl) (of_decide_eq_true (by kernel_rfl)) h0 bel lt0) trodAll_mk0), rfl, bel.frame _, fun h => by cases h⟩

theorem over : Rows.cacheNoneRow.holds Tryz.pinned (OpenSpec.ofChange Rows.cacheNoneSpec) :=
  OpenClaim.holds_of_wide 6 Tryz.f6 rfl rfl rfl rfl rfl rfl rfl ⟨rfl, rfl, rfl, rfl, rfl⟩ rfl rfl rfl rfl rfl (by kernel_rfl) Tryz.func6 (by kernel_rfl)
    (of_decide_eq_true (by kernel_rfl)) (by unfold Func.isWrapper; first | (rw [if_pos (by decide +kernel)]; kernel_rfl) | (rw [if_neg (by decide +kernel)]; exact ⟨rfl, rfl⟩))
    (fun os started H enc _ => lifted os started H enc)

theorem cacheNone_holds : Rows.CacheNoneSaid := over
#print axioms cacheNone_holds
end Go.Proofs.YtkjdbokhcdmplaaGreat
