/- A part of the evaluator of the model's code, or of its tables: what is proved is said in the claim's last text. -/
import Derived.Test.YtkjdbokhcdmplaaGreatP1B
import Derived.Test.YtkjdbokhcdmplaaGreatRv24
import Derived.Test.YtkjdbokhcdmplaaGreatRvZ
open Go Go.Rv Go.Proofs Go.Rv.P1
set_option maxRecDepth 100000
set_option maxHeartbeats 0
theorem tableX_ok (n : Nat) : GPOk Tryz.prog (inX Tryz.prog tabT [] tabA n) := inX_ok mixed tabA_ok tabT_ok (TPOk.nil _) n
theorem cacheNone_run (a b c d e f g i j k l : Value) : inX Tryz.prog tabT [] tabA 60 6 [.agg [.any a, .any b, .any c, .any d, .any e, .any f, .any g, .any i, .any j, .any k, .any l]] [] isTrue (fun _ _ => False) =
  (SV.any b = SV.any b ∧ (Nat → Nat → Nat → (SV.any b = SV.any b ∧ (Nat → Nat → Nat → ((True ∧ True) ∧ (True ∧ True)))))) := by kernel_rfl
