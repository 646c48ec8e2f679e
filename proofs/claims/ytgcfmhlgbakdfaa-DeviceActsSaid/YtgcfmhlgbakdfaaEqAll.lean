/- Part of the proof: all that was printed. -/
import Derived.Test.YtgcfmhlgbakdfaaEq1
import Derived.Test.YtgcfmhlgbakdfaaEq2
import Derived.Test.YtgcfmhlgbakdfaaEq3
