/- What the law is about: its argument's shape, its functions. No conditions. -/
import Derived.Test.YtbmleokjdimhkaaCc
import Derived.Test.YtbmleokjdimhkaaFf
namespace Go.Proofs.Ytbmleokjdimhkaa
open Go Go.EF Go.EF.Rk
noncomputable def sh : List Sh := [.agg [.int,.sl (.agg [.int,.int]),.int,.sl (.agg [.str,.int,.int]),.sl (.agg [.int,.int,.int,.int])],.int,.int,.int,.int,.int]
abbrev clos : List Nat := [6, 11, 16, 19, 21, 23, 26, 28]
abbrev gs : List Nat := [14, 25]
set_option maxRecDepth 100000
theorem wf_ok : wfB 5 30 4 31 clos (argQ sh) = true := by kernel_rfl
theorem nil_ok : nilB Try.prog tab 10 { used := 1 } = true := by kernel_rfl
theorem again_ok : compF Try.prog 5 = some (15, [.tmp 2], againCC 30) := c5
end Go.Proofs.Ytbmleokjdimhkaa
