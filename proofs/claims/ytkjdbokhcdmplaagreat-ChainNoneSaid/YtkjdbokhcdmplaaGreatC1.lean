/- A part of the evaluator of the model's code, or of its tables: what is proved is said in the claim's last text. -/
import Derived.Test.YtkjdbokhcdmplaaGreatP1B
import Derived.Test.YtkjdbokhcdmplaaGreatRvZ
open Go Go.Rv Go.Proofs Go.Rv.P1
set_option maxRecDepth 100000
set_option maxHeartbeats 0
theorem chainNone_run (e a b : Value) : inG Tryz.prog tabT tabA 60 3 [.any e, .agg [.any a, .any b]] [] isTrue = (((True ∧ True) ∧ (True ∧ True)) ∧ ((True ∧ True) ∧ (True ∧ True))) := by kernel_rfl
