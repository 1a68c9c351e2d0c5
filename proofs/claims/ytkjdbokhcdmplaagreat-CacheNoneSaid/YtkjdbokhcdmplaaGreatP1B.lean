/- A part of the evaluator of the model's code, or of its tables: what is proved is said in the claim's last text. -/
import Derived.Test.YtkjdbokhcdmplaaGreatRv19
import Derived.Test.YtkjdbokhcdmplaaGreatP1A
open Go Go.Proofs
namespace Go.Rv.P1
set_option maxRecDepth 100000

def tabT : TTab := [
  (80, xLoad Tryz.prog 3 .i64), (85, xAdd Tryz.prog 3 .i64), (138, xLoad Tryz.prog 3 .u32), (144, xStore Tryz.prog 3), (147, xCas Tryz.prog 3 .i32), (152, xAdd Tryz.prog 3 .i32),
  (146, fun args sh K => match args with | [] => xMark [] sh K | _ => False), (148, fun args sh K => match args with | [] => xMark [] sh K | _ => False), (149, xMarked), (151, xMarked)]

theorem ag3 : aggT Tryz.prog 3 = some false := by kernel_rfl
theorem sz3 : sizeT Tryz.prog 3 = some 1 := by kernel_rfl

theorem e80 : Ext Tryz.prog 80 Tryz.f80 (Extern.Atomic.loadT (.int .i64)) := ⟨Tryz.func80, by kernel_rfl, by kernel_rfl, by kernel_rfl, by kernel_rfl⟩
theorem e85 : Ext Tryz.prog 85 Tryz.f85 (Extern.Atomic.update (Op.intArith .add) .i64 true) := ⟨Tryz.func85, by kernel_rfl, by kernel_rfl, by kernel_rfl, by kernel_rfl⟩
theorem e138 : Ext Tryz.prog 138 Tryz.f138 (Extern.Atomic.loadT (.int .u32)) := ⟨Tryz.func138, by kernel_rfl, by kernel_rfl, by kernel_rfl, by kernel_rfl⟩
theorem e144 : Ext Tryz.prog 144 Tryz.f144 Extern.Atomic.storeT := ⟨Tryz.func144, by kernel_rfl, by kernel_rfl, by kernel_rfl, by kernel_rfl⟩
theorem e147 : Ext Tryz.prog 147 Tryz.f147 (Extern.Atomic.casT (.int .i32)) := ⟨Tryz.func147, by kernel_rfl, by kernel_rfl, by kernel_rfl, by kernel_rfl⟩
theorem e152 : Ext Tryz.prog 152 Tryz.f152 (Extern.Atomic.update (Op.intArith .add) .i32 true) := ⟨Tryz.func152, by kernel_rfl, by kernel_rfl, by kernel_rfl, by kernel_rfl⟩
theorem e146 : Ext Tryz.prog 146 Tryz.f146 (fun _ => do mark .disable; pure Extern.Race.none_) := ⟨Tryz.func146, by kernel_rfl, by kernel_rfl, by kernel_rfl, by kernel_rfl⟩
theorem e148 : Ext Tryz.prog 148 Tryz.f148 (fun _ => do mark .enable; pure Extern.Race.none_) := ⟨Tryz.func148, by kernel_rfl, by kernel_rfl, by kernel_rfl, by kernel_rfl⟩
theorem e149 : Ext Tryz.prog 149 Tryz.f149 (Extern.Race.marked .acquire) := ⟨Tryz.func149, by kernel_rfl, by kernel_rfl, by kernel_rfl, by kernel_rfl⟩
theorem e151 : Ext Tryz.prog 151 Tryz.f151 (Extern.Race.marked .releaseMerge) := ⟨Tryz.func151, by kernel_rfl, by kernel_rfl, by kernel_rfl, by kernel_rfl⟩

theorem mark0_ok {f : FuncId} {fn : Func} {m : Mark} (x : Ext Tryz.prog f fn (fun _ => do mark m; pure Extern.Race.none_)) (args : List SV) (sh : SH) (K : SV → SH → Prop) (h : match args with | [] => xMark [] sh K | _ => False) : CT Tryz.prog f args sh K := by
  cases args with
  | nil => exact xMark0_ok x sh K h
  | cons a l => exact h.elim

theorem tabT_ok : TOk Tryz.prog tabT :=
  .cons (xLoad_ok e80 ag3) <| .cons (xAdd_ok e85 ag3 sz3) <| .cons (xLoad_ok e138 ag3) <| .cons (xStore_ok e144 ag3 sz3) <| .cons (xCas_ok e147 ag3 sz3) <| .cons (xAdd_ok e152 ag3 sz3) <|
  .cons (mark0_ok e146) <| .cons (mark0_ok e148) <| .cons (xMarked_ok e149) <| .cons (xMarked_ok e151) <| .nil _

theorem table_ok (n : Nat) : GOk Tryz.prog (inG Tryz.prog tabT tabA n) := inG_ok mixed tabA_ok tabT_ok n
end Go.Rv.P1
