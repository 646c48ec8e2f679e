/- Part of the proof: all that was printed. -/
import Derived.Test.YtpilgmnhkgcgkaaEqK1
