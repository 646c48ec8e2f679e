/- Part of the proof: all that was printed. -/
import Derived.Test.YtpilgmnhkgcgkaaEq1
import Derived.Test.YtpilgmnhkgcgkaaEq2
