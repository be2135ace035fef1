/- The program of this seat for the evaluator: its regions' form; the functions without a Go body. -/
import Derived.Test.YthfkgdjekmebgaaGreatDoorEv6t
import Derived.Test.YthfkgdjekmebgaaGreatDoorProg
import Derived.KernelRfl
namespace Go.Proofs.YthfkgdjekmebgaaGreatDoor
open Go.Ev Go
set_option linter.unusedVariables false
set_option linter.unusedSimpArgs false
def bodyOk (fn : Func) : Bool := match fn.body with
  | some c => codeOk c
  | none => true
set_option maxRecDepth 1000000 in
theorem all_form : (Tryz.prog.funcs.toList.all bodyOk) = true := by decide +kernel
theorem seat_form : ∀ (f : FuncId) (fn : Func) (c : Code), Tryz.prog.funcs[f]? = some fn → fn.body = some c → codeOk c = true := by
  intro f fn c hf hb
  have hm : fn ∈ Tryz.prog.funcs.toList := by
    rw [← Array.getElem?_toList] at hf
    exact List.mem_of_getElem? hf
  have := List.all_eq_true.1 all_form fn hm
  unfold bodyOk at this
  rw [hb] at this
  exact this
end Go.Proofs.YthfkgdjekmebgaaGreatDoor
