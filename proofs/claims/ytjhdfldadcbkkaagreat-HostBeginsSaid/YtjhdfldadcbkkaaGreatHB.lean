/- Proved: the law HostBegins returns true for every input, and every argument reads afterwards as it read before. Conditions: none beyond the given statement (the row hostBeginsRow over the pinned program). -/
import Derived.Test.YtjhdfldadcbkkaaGreatC3
import Derived.Test.YtjhdfldadcbkkaaGreatRows
import Derived.WalkKit
import Derived.ProofKit
import Derived.OpenShut
import Derived.ShutString
import Derived.ChangeOld
open Go Go.Rv Go.Proofs Go.Rv.P2
namespace Go.Proofs.YtjhdfldadcbkkaaGreat
open Go.ChangeShapes Go.WideShapes Go.ChangeAt Go.RowKit
set_option linter.unusedVariables false

theorem own : ownKnob Tryz.prog.godebug = none := by kernel_rfl
theorem laidOut : laidOutB Tryz.prog = true := by kernel_rfl
theorem ag3f : aggT Tryz.prog 3 = some false := by kernel_rfl
theorem ag25 : aggT Tryz.prog 25 = some true := by kernel_rfl
theorem c25 : Tryz.prog.cellsOf 25 = 19 := by kernel_rfl
theorem en4 : enterable Tryz.prog 4 = true := by kernel_rfl

theorem walk (sl : Int) (n a b c d e f g i j k l m n' o p q r s t : Value) (w : World) (hn : n.oneCell' = true) (ha : ∀ (x : Nat) (v : Value), [a, b, c, d, e, f, g, i, j, k, l, m, n', o, p, q, r, s, t][x]? = some v → v.oneCell' = true) :
    Calls Tryz.prog 4 #[.int .i64 sl, n, .agg #[a, b, c, d, e, f, g, i, j, k, l, m, n', o, p, q, r, s, t]] w fun e w' => e = .returned (.bool true) ∧ Below w.heap.size w w' :=
  law_of (args := [.int .i64 sl, .any n, .agg [.any a, .any b, .any c, .any d, .any e, .any f, .any g, .any i, .any j, .any k, .any l, .any m, .any n', .any o, .any p, .any q, .any r, .any s, .any t]]) (args' := [.int .i64 sl, n, .agg #[a, b, c, d, e, f, g, i, j, k, l, m, n', o, p, q, r, s, t]])
    ((CTP.ct (tableX_ok 60 4 _ _ _ _ (by rw [hostBegins_run]; exact hostBegins_true sl))).calls en4)
    (.cons (.int _ _) (.cons (.any hn) (.cons (rel_any [a, b, c, d, e, f, g, i, j, k, l, m, n', o, p, q, r, s, t] ha) .nil)))

set_option maxRecDepth 100000 in
theorem lifted (os : Os) (started : os.Started) (H : Type) (enc : TypeId × Value → H) :
    ReturnsInHanded {} Tryz.checked os 4 .any (Rows.hostBeginsSpec.pre6 enc Tryz.prog Tryz.f4 Rows.hostBeginsRow.domain false) (Rows.hostBeginsSpec.post enc Tryz.prog Tryz.f4 false true false false) := by
  refine returnsInHanded_of_change (C := Tryz.checked) own started (by kernel_rfl) Tryz.func4
    (ChangeSpec.witness6 (enc := enc) (C := Tryz.checked) false ⟨#[], #[.int .i64 0, .int .i64 0, .agg #[.int .u32 0, .int .u32 0, .int .u32 0, .int .u32 0, .int .u32 0, .int .u32 0, .int .u32 0, .int .u32 0, .int .u32 0, .int .u32 0, .int .u32 0, .int .u32 0, .int .u32 0, .int .u32 0, .int .u32 0, .int .u32 0, .int .u32 0, .int .u32 0, .bool false]], []⟩ 8 (by kernel_rfl) (by kernel_rfl) (by kernel_rfl) (by kernel_rfl)) ?_
  intro W base args ds gs before hval0 hW hcnd _
  have hval : ∀ (j : Nat) t v, Tryz.f4.params[j]? = some t → args[j]? = some v → Value.okWide Tryz.prog W .any base t v := hval0
  have hW' := hW
  obtain ⟨p, q, hA0, hV, rfl, hfz, hnd⟩ := hW
  have hA : DataW.TrodAll enc Tryz.prog W 0 (fun _ => true) true Tryz.f4.params.toList args.toList ds p := hA0
  rw [Tryz.params4] at hA hval
  obtain ⟨v0, vs0, d0, ds0, p0, q0, hargs, rfl, rfl, h0, r0⟩ := trodAll_cons hA
  obtain ⟨v1, vs1, d1, ds1, p1, q1, rfl, rfl, rfl, h1, r1⟩ := trodAll_cons r0
  obtain ⟨v2, vs2, d2, ds2, p2, q2, rfl, rfl, rfl, h2, r2⟩ := trodAll_cons r1
  obtain ⟨rfl, rfl, rfl⟩ := trodAll_nil r2
  obtain rfl : args = #[v0, v1, v2] := by cases args; simp_all
  obtain ⟨rfl, rfl⟩ := trodVars_none hV
  have k0 := h0
  have lt0 : ∀ x ∈ p0, x.block < W.heap.size := by obtain ⟨m, hm⟩ := h0; exact DataW.trod_lt m _ _ _ hm
  have lt1 : ∀ x ∈ p1, x.block < W.heap.size := by obtain ⟨m, hm⟩ := h1; exact DataW.trod_lt m _ _ _ hm
  have lt2 : ∀ x ∈ p2, x.block < W.heap.size := by obtain ⟨m, hm⟩ := h2; exact DataW.trod_lt m _ _ _ hm
  obtain ⟨sl, rfl, _, _, w0⟩ := open_int Tryz.underlying3 (hval 0 3 v0 rfl rfl) h0
  have o1 := wide_one (hval 1 3 v1 rfl rfl) ag3f
  obtain ⟨cs, rfl, hsz, hone⟩ := wide_agg (hval 2 25 v2 rfl rfl) ag25
  obtain ⟨a, b, c, d, e, f, g, i, j, k, l, m, n', o, p, q, r, s, t, rfl⟩ := arr19 (hsz.trans c25)
  clear hA0 hval0
  refine (walk sl v1 a b c d e f g i j k l m n' o p q r s t W o1 (by simpa using hone)).mono fun e W' ⟨he, bel⟩ => ?_
  subst he
  exact ⟨_, rfl, _, _, _, [], _, [], hW', trodAll_mk1 (shut_bool Tryz.underlying4 _), (trodAll_cons_mk (Below.trod laidOut (by kernel_rfl) (of_decide_eq_true (by kernel_rfl)) k0 bel lt0) (trodAll_cons_mk (Below.trod laidOut (by kernel_rfl) (of_decide_eq_true (by kernel_rfl)) h1 bel lt1) (trodAll_cons_mk (Below.trod laidOut (by kernel_rfl) (of_decide_eq_true (by kernel_rfl)) h2 bel lt2) trodAll_mk0))), rfl, bel.frame _, fun h => by cases h⟩

theorem over : Rows.hostBeginsRow.holds Tryz.pinned (OpenSpec.ofChange Rows.hostBeginsSpec) :=
  OpenClaim.holds_of_wide 4 Tryz.f4 rfl rfl rfl rfl rfl rfl rfl ⟨rfl, rfl, rfl, rfl, rfl⟩ rfl rfl rfl rfl rfl (by kernel_rfl) Tryz.func4 (by kernel_rfl)
    (of_decide_eq_true (by kernel_rfl)) (by unfold Func.isWrapper; first | (rw [if_pos (by decide +kernel)]; kernel_rfl) | (rw [if_neg (by decide +kernel)]; exact ⟨rfl, rfl⟩))
    (fun os started H enc _ => lifted os started H enc)

theorem hostBegins_holds : Rows.HostBeginsSaid := over
#print axioms hostBegins_holds
end Go.Proofs.YtjhdfldadcbkkaaGreat
