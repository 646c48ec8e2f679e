/- Part of the proof: names for loops of the program; small laws for reading what a function comes to. -/
import Derived.Test.YtkipbdbmeanffaaV21
set_option linter.unusedSimpArgs false
set_option linter.unusedVariables false
namespace Go.Pvm

def loopsOf : Code → List Code
  | .seq a b | .cond _ a b => loopsOf a ++ loopsOf b
  | .block _ a => loopsOf a
  | .loop a => a :: loopsOf a
  | _ => []
def loopAt (P : Program) (f n : Nat) : Code := (loopsOf (((P.funcs[f]?).bind (·.body)).getD .skip)).getD n .skip

/-- A state: what stands in some slots. -/
def mkS (n : Nat) (l : List (Nat × PV)) : List PV := (List.range n).map fun i => (l.lookup i).getD .undef

end Go.Pvm
