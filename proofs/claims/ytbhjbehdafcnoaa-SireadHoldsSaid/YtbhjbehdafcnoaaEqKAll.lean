/- Part of the proof: all that was printed. -/
import Derived.Test.YtbhjbehdafcnoaaEqK1
import Derived.Test.YtbhjbehdafcnoaaEqK2
import Derived.Test.YtbhjbehdafcnoaaEqK3
