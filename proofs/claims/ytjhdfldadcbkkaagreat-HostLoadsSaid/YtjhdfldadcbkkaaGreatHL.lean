/- Proved: the law HostLoads returns true for every input, and every argument reads afterwards as it read before. Conditions: none beyond the given statement (the row hostLoadsRow over the pinned program). -/
import Derived.Test.YtjhdfldadcbkkaaGreatC4
import Derived.Test.YtjhdfldadcbkkaaGreatRows
import Derived.WalkKit
import Derived.ProofKit
import Derived.OpenShut
import Derived.ShutString
import Derived.ChangeOld
open Go Go.Rv Go.Proofs Go.Rv.P2
namespace Go.Proofs.YtjhdfldadcbkkaaGreat
open Go.ChangeShapes Go.WideShapes Go.ChangeAt Go.RowKit
set_option linter.unusedVariables false

theorem own : ownKnob Tryz.prog.godebug = none := by kernel_rfl
theorem laidOut : laidOutB Tryz.prog = true := by kernel_rfl
theorem ag3f : aggT Tryz.prog 3 = some false := by kernel_rfl
theorem ag4f : aggT Tryz.prog 4 = some false := by kernel_rfl
theorem ag25 : aggT Tryz.prog 25 = some true := by kernel_rfl
theorem c25 : Tryz.prog.cellsOf 25 = 19 := by kernel_rfl
theorem ct25 : Tryz.prog.cellTypes Tryz.prog.depth 25 = some (List.replicate 18 22 ++ [4]) := by kernel_rfl
theorem en3 : enterable Tryz.prog 3 = true := by kernel_rfl

set_option maxRecDepth 100000 in
theorem walk (r cr : Nat → Int) (pc ps : Int) (hl : Bool) (on n : Value) (cs : Array Value) (w : World) (h : ∀ ρ, VRel ρ (.agg [.vec .u32 8 r, .int .u32 pc, .int .u32 ps, .vec .u32 8 cr, .bool hl]) (.agg cs)) (hon : on.oneCell' = true) (hn : n.oneCell' = true) :
    Calls Tryz.prog 3 #[.agg cs, on, n] w fun e w' => e = .returned (.bool true) ∧ Below w.heap.size w w' :=
  law_of (args := [.agg [.vec .u32 8 r, .int .u32 pc, .int .u32 ps, .vec .u32 8 cr, .bool hl], .any on, .any n]) (args' := [.agg cs, on, n])
    ((CTP.ct (tableX_ok 60 3 _ _ _ _ (by rw [hostLoads_run, orI_assoc_u32 ps 1 4 5 (by decide), hlB_true]; exact fun _ => trivial))).calls en3)
    (.cons (h _) (.cons (.any hon) (.cons (.any hn) .nil)))

set_option maxRecDepth 100000 in
theorem lifted (os : Os) (started : os.Started) (H : Type) (enc : TypeId × Value → H) :
    ReturnsInHanded {} Tryz.checked os 3 .any (Rows.hostLoadsSpec.pre6 enc Tryz.prog Tryz.f3 Rows.hostLoadsRow.domain false) (Rows.hostLoadsSpec.post enc Tryz.prog Tryz.f3 false true false false) := by
  refine returnsInHanded_of_change (C := Tryz.checked) own started (by kernel_rfl) Tryz.func3
    (ChangeSpec.witness6 (enc := enc) (C := Tryz.checked) false ⟨#[], #[.agg #[.int .u32 0, .int .u32 0, .int .u32 0, .int .u32 0, .int .u32 0, .int .u32 0, .int .u32 0, .int .u32 0, .int .u32 0, .int .u32 0, .int .u32 0, .int .u32 0, .int .u32 0, .int .u32 0, .int .u32 0, .int .u32 0, .int .u32 0, .int .u32 0, .bool false], .bool false, .int .i64 0], []⟩ 8 (by kernel_rfl) (by kernel_rfl) (by kernel_rfl) (by kernel_rfl)) ?_
  intro W base args ds gs before hval0 hW hcnd _
  have hval : ∀ (j : Nat) t v, Tryz.f3.params[j]? = some t → args[j]? = some v → Value.okWide Tryz.prog W .any base t v := hval0
  have hW' := hW
  obtain ⟨p, q, hA0, hV, rfl, hfz, hnd⟩ := hW
  have hA : DataW.TrodAll enc Tryz.prog W 0 (fun _ => true) true Tryz.f3.params.toList args.toList ds p := hA0
  rw [Tryz.params3] at hA hval
  obtain ⟨v0, vs0, d0, ds0, p0, q0, hargs, rfl, rfl, h0, r0⟩ := trodAll_cons hA
  obtain ⟨v1, vs1, d1, ds1, p1, q1, rfl, rfl, rfl, h1, r1⟩ := trodAll_cons r0
  obtain ⟨v2, vs2, d2, ds2, p2, q2, rfl, rfl, rfl, h2, r2⟩ := trodAll_cons r1
  obtain ⟨rfl, rfl, rfl⟩ := trodAll_nil r2
  obtain rfl : args = #[v0, v1, v2] := by cases args; simp_all
  obtain ⟨rfl, rfl⟩ := trodVars_none hV
  have lt0 : ∀ x ∈ p0, x.block < W.heap.size := by obtain ⟨m, hm⟩ := h0; exact DataW.trod_lt m _ _ _ hm
  have lt1 : ∀ x ∈ p1, x.block < W.heap.size := by obtain ⟨m, hm⟩ := h1; exact DataW.trod_lt m _ _ _ hm
  have lt2 : ∀ x ∈ p2, x.block < W.heap.size := by obtain ⟨m, hm⟩ := h2; exact DataW.trod_lt m _ _ _ hm
  have o1 := wide_one (hval 1 4 v1 rfl rfl) ag4f
  have o2 := wide_one (hval 2 3 v2 rfl rfl) ag3f
  obtain ⟨cs, rfl, hsz, hrow⟩ := wide_row (hval 0 25 v0 rfl rfl) ag25
  have hsz' : cs.size = 19 := hsz.trans c25
  have hat := rowWide_at hrow ct25 (by simp [hsz'])
  obtain ⟨r, cr, pc, ps, hl, hrel, _⟩ := state_rel hsz' (fun i hi => by
    obtain ⟨v, g1, g2⟩ := hat i 22 (by rw [List.getElem?_append_left (by simp; omega), List.getElem?_replicate, if_pos hi])
    obtain ⟨n, rfl, g3⟩ := cellWide_int g2 Tryz.underlying22
    exact ⟨n, g1, g3⟩) (by
    obtain ⟨v, g1, g2⟩ := hat 18 4 (by simp)
    obtain ⟨b, rfl⟩ := cellWide_bool g2 Tryz.underlying4
    exact ⟨b, g1⟩)
  clear hA0 hval0
  refine (walk r cr pc ps hl v1 v2 cs W hrel o1 o2).mono fun e W' ⟨he, bel⟩ => ?_
  subst he
  exact ⟨_, rfl, _, _, _, [], _, [], hW', trodAll_mk1 (shut_bool Tryz.underlying4 _), (trodAll_cons_mk (Below.trod laidOut (by kernel_rfl) (of_decide_eq_true (by kernel_rfl)) h0 bel lt0) (trodAll_cons_mk (Below.trod laidOut (by kernel_rfl) (of_decide_eq_true (by kernel_rfl)) h1 bel lt1) (trodAll_cons_mk (Below.trod laidOut (by kernel_rfl) (of_decide_eq_true (by kernel_rfl)) h2 bel lt2) trodAll_mk0))), rfl, bel.frame _, fun h => by cases h⟩

theorem over : Rows.hostLoadsRow.holds Tryz.pinned (OpenSpec.ofChange Rows.hostLoadsSpec) :=
  OpenClaim.holds_of_wide 3 Tryz.f3 rfl rfl rfl rfl rfl rfl rfl ⟨rfl, rfl, rfl, rfl, rfl⟩ rfl rfl rfl rfl rfl (by kernel_rfl) Tryz.func3 (by kernel_rfl)
    (of_decide_eq_true (by kernel_rfl)) (by unfold Func.isWrapper; first | (rw [if_pos (by decide +kernel)]; kernel_rfl) | (rw [if_neg (by decide +kernel)]; exact ⟨rfl, rfl⟩))
    (fun os started H enc _ => lifted os started H enc)

theorem hostLoads_holds : Rows.HostLoadsSaid := over
#print axioms hostLoads_holds
end Go.Proofs.YtjhdfldadcbkkaaGreat
