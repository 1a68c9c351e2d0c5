/- A part of the evaluator of the model's code, or of its tables: what is proved is said in the claim's last text. -/
import Derived.Test.YtjhdfldadcbkkaaGreatP2A
import Derived.Test.YtjhdfldadcbkkaaGreatRvY
open Go Go.Rv Go.Proofs Go.Rv.P2
set_option maxRecDepth 100000
set_option maxHeartbeats 0
noncomputable def hlX (r cr : Nat → Int) (pc ps : Int) : List SV := [.vec .u32 8 r, .int .u32 pc, .int .u32 ps, .vec .u32 8 cr, .bool false]
noncomputable def hlB (r cr : Nat → Int) (pc ps qs : Int) : Bool := match eqAt Tryz.prog 30 25 0 (hlX r cr pc ps) (hlX r cr pc qs) with
  | some b => b
  | none => false
theorem hostLoads_run (r cr : Nat → Int) (pc ps : Int) (hl : Bool) (on n : Value) : inX Tryz.prog tabT [] tabA 60 3 [.agg [.vec .u32 8 r, .int .u32 pc, .int .u32 ps, .vec .u32 8 cr, .bool hl], .any on, .any n] [] isTrue (fun _ _ => False) =
  ifB (hlB r cr pc (orI .u32 ps 5) (orI .u32 (orI .u32 ps 1) 4)) (Nat → True) False := by kernel_rfl
theorem hlB_some (r cr : Nat → Int) (pc ps : Int) : (eqAt Tryz.prog 30 25 0 (hlX r cr pc ps) (hlX r cr pc ps)).isSome = true := by kernel_rfl
theorem hlB_true (r cr : Nat → Int) (pc ps : Int) : hlB r cr pc ps ps = true := by
  have h := hlB_some r cr pc ps
  unfold hlB
  split
  · rename_i b hb; exact eqAt_self _ _ _ _ _ hb
  · rename_i hb; rw [hb] at h; cases h
theorem hostLoads_true (r cr : Nat → Int) (pc ps : Int) (hl : Bool) (on n : Value) : inX Tryz.prog tabT [] tabA 60 3 [.agg [.vec .u32 8 r, .int .u32 pc, .int .u32 ps, .vec .u32 8 cr, .bool hl], .any on, .any n] [] isTrue (fun _ _ => False) := by
  rw [hostLoads_run, orI_assoc_u32 ps 1 4 5 (by decide), hlB_true]
  exact fun _ => trivial
