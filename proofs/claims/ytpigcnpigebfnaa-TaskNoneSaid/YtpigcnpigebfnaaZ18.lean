/- DERIVED. Texts put together: NameIt, Name, Name2, RefName, RefName2. -/
import Derived.Test.YtpigcnpigebfnaaProg
import Derived.Test.YtpigcnpigebfnaaZ17
set_option maxRecDepth 1000000
set_option maxHeartbeats 32000000
namespace Go.Proofs.Ytpigcnpigebfnaa
open Go.RowKit Go.Shelf
attribute [local go_sem] Oper.semAt_some
attribute [local go_sem] wrap_bt ByteArray.extract_mk
end Go.Proofs.Ytpigcnpigebfnaa
namespace Go.Proofs.Ytpigcnpigebfnaa
open Go.RowKit Go.Shelf
section
attribute [local go_sem] Oper.semAt_some
end
end Go.Proofs.Ytpigcnpigebfnaa
namespace Go.Proofs.Ytpigcnpigebfnaa
open Go.RowKit
def lo (c : UInt8) : UInt8 := if 65 ≤ c.toNat ∧ c.toNat ≤ 90 then c + 32 else c
end Go.Proofs.Ytpigcnpigebfnaa
namespace Go.Proofs.Ytpigcnpigebfnaa
open Go.RowKit
attribute [local go_sem] wrap_bt ByteArray.extract_mk
end Go.Proofs.Ytpigcnpigebfnaa
namespace Go.Proofs.Ytpigcnpigebfnaa
open Go.RowKit
end Go.Proofs.Ytpigcnpigebfnaa
