/- Part of the proof: all that was printed. -/
import Derived.Test.YtgchbgaicgbebaaEqK1
import Derived.Test.YtgchbgaicgbebaaEqK2
import Derived.Test.YtgchbgaicgbebaaEqK3
