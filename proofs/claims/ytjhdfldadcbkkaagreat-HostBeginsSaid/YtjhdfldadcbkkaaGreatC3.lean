/- A part of the evaluator of the model's code, or of its tables: what is proved is said in the claim's last text. -/
import Derived.Test.YtjhdfldadcbkkaaGreatP2A
import Derived.Test.YtjhdfldadcbkkaaGreatRvZ
open Go Go.Rv Go.Proofs Go.Rv.P2
set_option maxRecDepth 100000
set_option maxHeartbeats 0
theorem hostBegins_run (sl : Int) (n c0 c1 c2 c3 c4 c5 c6 c7 c8 c9 c10 c11 c12 c13 c14 c15 c16 c17 c18 : Value) : inX Tryz.prog tabT [] tabA 60 4 [.int .i64 sl, .any n, .agg [.any c0, .any c1, .any c2, .any c3, .any c4, .any c5, .any c6, .any c7, .any c8, .any c9, .any c10, .any c11, .any c12, .any c13, .any c14, .any c15, .any c16, .any c17, .any c18]] [] isTrue (fun _ _ => False) =
  ifB (ltI sl 1)
    (ifB (geI sl 1) (ifB (!eqI 2 0 == leI sl 64) False True) True)
    (ifB (gtI sl 64)
      (ifB (geI sl 1) (ifB (!eqI 2 0 == leI sl 64) False True) True)
      (ifB (makeOk sl sl 24) (ifB (geI sl 1) (ifB (!eqI 0 0 == leI sl 64) False True) False) False)) := by kernel_rfl

theorem hostBegins_true (sl : Int) : ifB (ltI sl 1)
    (ifB (geI sl 1) (ifB (!eqI 2 0 == leI sl 64) False True) True)
    (ifB (gtI sl 64)
      (ifB (geI sl 1) (ifB (!eqI 2 0 == leI sl 64) False True) True)
      (ifB (makeOk sl sl 24) (ifB (geI sl 1) (ifB (!eqI 0 0 == leI sl 64) False True) False) False)) := by
  have e1 : ltI sl 1 = decide (sl < 1) := rfl
  have e2 : geI sl 1 = decide (sl ≥ 1) := rfl
  have e3 : leI sl 64 = decide (sl ≤ 64) := rfl
  have e4 : gtI sl 64 = decide (sl > 64) := rfl
  have e5 : makeOk sl sl 24 = decide (0 ≤ sl ∧ sl ≤ sl ∧ sl * 24 ≤ 281474976710656) := rfl
  have e6 : eqI 2 0 = false := rfl
  have e7 : eqI 0 0 = true := rfl
  rw [e1, e2, e3, e4, e5, e6, e7]
  by_cases h1 : sl < 1
  · have : ¬ sl ≥ 1 := by omega
    simp [ifB, h1, this]
  · by_cases h2 : sl > 64
    · have h3 : sl ≥ 1 := by omega
      have h4 : ¬ sl ≤ 64 := by omega
      simp [ifB, h1, h2, h3, h4]
    · have h3 : sl ≥ 1 := by omega
      have h4 : sl ≤ 64 := by omega
      have h5 : 0 ≤ sl ∧ sl ≤ sl ∧ sl * 24 ≤ 281474976710656 := by omega
      simp only [h1, h2, h3, h4, h5, decide_true, decide_false, ifB]
      trivial
