/- Part of the proof: certifiers: who lives: plain. -/
import Derived.Test.YtjfgklgcbogejaaGreatCrtI
set_option linter.unusedSimpArgs false
set_option linter.unusedVariables false
namespace Go.Pvm.S
open Go.Pvm Go.Proofs
structure St where
 d : Int
 t : Int
 a : Wd
 b : Wd
def St.e (s : St) : List PV := [.int .i64 s.d,.int .i64 s.t,.float .f64 s.a.toNat,.float .f64 s.b.toNat]
end Go.Pvm.S
