/- ShardNobody: the rest of the run. -/
import Derived.Test.YthapjgecggdliaaGreatDoorShardNobodyA
namespace Go.Proofs.YthapjgecggdliaaGreatDoor.shardNobody
open Go Go.Ab
set_option maxRecDepth 100000
theorem last (i : Nat → Int) (s : Nat → ByteArray) (b : Bool) (jt : Nat → Value) : saidOf (fin (S (cmdL i s b) jt)) = some (.bool true, []) := by kernel_rfl
end Go.Proofs.YthapjgecggdliaaGreatDoor.shardNobody
