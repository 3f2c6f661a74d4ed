/- DERIVED. Texts put together: NameIt, Name, Name2, RefName, RefName2. -/
import Derived.Test.YtknpgjeclmadkaaProg
import Derived.Test.YtknpgjeclmadkaaZ2
set_option maxRecDepth 1000000
set_option maxHeartbeats 32000000
namespace Go.Proofs.Ytknpgjeclmadkaa
open Go.RowKit Go.Shelf
attribute [local go_sem] Oper.semAt_some
def nameSeq : Nat → Bs → List (Option Bs)
 | 0, _ => []
 | f + 1, n => if n = [0] then [] else if n.length = 0 ∨ bt n 0 = 0 ∨ 63 < bt n 0 ∨ n.length ≤ bt n 0 then [none]
  else some (n.tail.take (bt n 0)) :: nameSeq f (n.drop (1 + bt n 0))
attribute [local go_sem] wrap_bt ByteArray.extract_mk
end Go.Proofs.Ytknpgjeclmadkaa
namespace Go.Proofs.Ytknpgjeclmadkaa
open Go.RowKit Go.Shelf
def labels (s : Bs) : List Bs × Int :=
 if none ∈ nameSeq (s.length + 1) s then ([], 4) else if 255 < s.length then ([], 3) else ((nameSeq (s.length + 1) s).filterMap id, 0)
section
attribute [local go_sem] Oper.semAt_some
end
end Go.Proofs.Ytknpgjeclmadkaa
namespace Go.Proofs.Ytknpgjeclmadkaa
open Go.RowKit
def lo (c : UInt8) : UInt8 := if 65 ≤ c.toNat ∧ c.toNat ≤ 90 then c + 32 else c
def lower (l : Bs) : Bs := l.map lo
end Go.Proofs.Ytknpgjeclmadkaa
namespace Go.Proofs.Ytknpgjeclmadkaa
open Go.RowKit
attribute [local go_sem] wrap_bt ByteArray.extract_mk
end Go.Proofs.Ytknpgjeclmadkaa
namespace Go.Proofs.Ytknpgjeclmadkaa
open Go.RowKit
end Go.Proofs.Ytknpgjeclmadkaa
