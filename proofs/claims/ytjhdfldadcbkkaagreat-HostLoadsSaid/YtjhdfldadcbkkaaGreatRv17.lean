/- A part of the evaluator of the model's code, or of its tables: what is proved is said in the claim's last text. -/
import Derived.Test.YtjhdfldadcbkkaaGreatRv16
namespace Go.Rv

/-! ## calls that are walked into -/

abbrev TTab := List (Nat × PT)

def findT : TTab → Nat → Option PT
  | [], _ => none
  | (k, o) :: l, id => if k = id then some o else findT l id

abbrev RAll := List (Nat × RTab)

def findA : RAll → Nat → RTab
  | [], _ => []
  | (k, o) :: l, id => if k = id then o else findA l id

def TOk (P : Program) (T : TTab) : Prop := ∀ f pt, findT T f = some pt → ∀ args sh K, pt args sh K → CT P f args sh K

theorem TOk.nil (P : Program) : TOk P [] := fun _ _ h => by cases h

theorem TOk.cons {P : Program} {f : FuncId} {pt : PT} {T : TTab} (h : ∀ args sh K, pt args sh K → CT P f args sh K) (k : TOk P T) : TOk P ((f, pt) :: T) := by
  intro g q hg
  simp only [findT] at hg
  split at hg
  · rename_i he; subst he; cases hg; exact h
  · exact k g q hg

/-- what is looked at once for a program -/
def allIn (l : List (Nat × Func)) (A : RAll) : Bool := l.all fun x => match x.2.body with
  | some c => !(x.2.name == "runtime.NumGoroutine") && rOk x.2.ntmps (findA A x.1) (drawsOf c)
  | none => true

def numbered : Nat → List Func → List (Nat × Func)
  | _, [] => []
  | n, f :: l => (n, f) :: numbered (n + 1) l

theorem mem_numbered : ∀ {n : Nat} {l : List Func} {i : Nat} {f : Func}, l[i]? = some f → (n + i, f) ∈ numbered n l
  | n, [], i, f, h => by simp at h
  | n, g :: l, 0, f, h => by simp at h; subst h; exact List.mem_cons_self ..
  | n, g :: l, i + 1, f, h => by
    have := mem_numbered (n := n + 1) (l := l) (i := i) (f := f) (by simpa using h)
    rw [show n + 1 + i = n + (i + 1) by omega] at this
    exact List.mem_cons_of_mem _ this

end Go.Rv
