/- Part of the proof: locks: the program's holders are the document's: plain. -/
import Derived.Test.YtjfgklgcbogejaaGreatSirM
set_option linter.unusedSimpArgs false
set_option linter.unusedVariables false
namespace Go.Pvm.S
open Go.Pvm Go.Proofs
theorem zqk (q : Wd) : ∀ (l : List Lk) (i : Nat) (out : List Int),(xb (hG q) l i out).length ≤ out.length + l.length
 | [],i,out => Nat.le_refl _
 | a :: l,i,out => by
   rw [jf]
   have := zqk q l (i + 1) (hG q i a out)
   have h2 : (hG q i a out).length ≤ out.length + 1 := by
    unfold hG
    split
    ·rw [List.length_append]; exact Nat.le_refl _
    ·omega
   rw [List.length_cons]
   omega
end Go.Pvm.S
