/- Part of the proof: all that was printed. -/
import Derived.Test.YtkipbdbmeanffaaEqK1
import Derived.Test.YtkipbdbmeanffaaEqK2
import Derived.Test.YtkipbdbmeanffaaEqK3
import Derived.Test.YtkipbdbmeanffaaEqK4
