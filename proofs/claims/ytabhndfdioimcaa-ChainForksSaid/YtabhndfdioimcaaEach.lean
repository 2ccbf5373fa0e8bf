/- Walks: poly.at, each, Add, Sub. -/
import Derived.Test.YtabhndfdioimcaaMul
import Derived.Test.YtabhndfdioimcaaDm
set_option linter.unusedVariables false
namespace Go.Proofs.Ytabhndfdioimcaa
open Go.RowKit Zp


theorem i64_getD {xs : List Int} (h : ∀ n ∈ xs, I64 n) (k : Nat) : I64 (xs.getD k 0) := by
  rw [List.getD_eq_getElem?_getD]
  cases hx : xs[k]? with
  | none => constructor <;> decide
  | some x => exact h x (List.mem_of_getElem? hx)

/-- a function that has a body is entered -/
theorem callFunc_enters {K : Nat} {fn : Func} (hf : Try.prog.funcs[K]? = some fn) (hname : (fn.name == "runtime.NumGoroutine") = false) (hb : fn.body.isSome = true) (args : Array Value) (w : World) :
    (callFunc K args).run Try.prog w = .ok (.enter K args) w := by
  have h1 : fn.name ≠ "runtime.NumGoroutine" := by simpa using hname
  obtain ⟨c, hc⟩ := Option.isSome_iff_exists.1 hb
  simp [callFunc, hf, h1, hc]

end Go.Proofs.Ytabhndfdioimcaa
