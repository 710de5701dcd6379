/- The chapter's awake, reckoned. -/
import Derived.Test.YtmomjannlnafcaaSim11
import Derived.Test.YtmomjannlnafcaaProg
namespace Go.Proofs.Ytmomjannlnafcaa
theorem names : (Try.prog.funcs.all fun fn => !(fn.name == "runtime.NumGoroutine")) = true := by kernel_rfl
theorem fit : Sim.Fit Try.prog := by
  refine ⟨fun f fn hf => ?_, by kernel_rfl⟩
  have := Array.all_eq_true'.1 names fn (Array.mem_of_getElem? hf)
  simpa using this
theorem awake_run : ((Sim.acallW Try.prog (Sim.runCode Try.prog 5000) 24 #[] []).map (·.1)) = some (.bool true) := by kernel_rfl
theorem awake_any (w : World) : Calls Try.prog 24 #[] w fun e w' => e = .returned (.bool true) ∧ RowKit.Below w.heap.size w w' :=
  Sim.closed_call fit (by kernel_rfl) (by kernel_rfl) awake_run w
end Go.Proofs.Ytmomjannlnafcaa
