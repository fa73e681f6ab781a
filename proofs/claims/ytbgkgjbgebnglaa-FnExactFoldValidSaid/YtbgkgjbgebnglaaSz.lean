/-
  How the laws count the size of their input: what is left of a bound. No condition.
-/
import Derived.Test.YtbgkgjbgebnglaaCore
import Derived.Test.YtbgkgjbgebnglaaBase
namespace Go.Proofs.Ytbgkgjbgebnglaa
/-- What is left of 'left' behind n, or -1. -/
def szN (left n : Int) : Int := if left < n then -1 else left - n
end Go.Proofs.Ytbgkgjbgebnglaa
