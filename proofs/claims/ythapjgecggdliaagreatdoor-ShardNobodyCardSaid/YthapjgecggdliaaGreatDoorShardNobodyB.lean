/- ShardNobody: the runs with numbers that are good. -/
import Derived.Test.YthapjgecggdliaaGreatDoorShardNobodyA
namespace Go.Proofs.YthapjgecggdliaaGreatDoor.shardNobody
open Go Go.Ab
set_option maxRecDepth 100000
theorem good1 (i : Nat → Int) (s : Nat → ByteArray) (b : Bool) (jt : Nat → Value) (jh : Nat → Nat → Value) : upTo (fun g => p0L (cmdL i s b) (.ofNat g) (.ofNat 1) jt jh) 8 1 = upTo (fun _ => (true, [], some (S (cmdL i s b) jt))) 8 1 := by kernel_rfl
theorem good2 (i : Nat → Int) (s : Nat → ByteArray) (b : Bool) (jt : Nat → Value) (jh : Nat → Nat → Value) : upTo (fun g => p0L (cmdL i s b) (.ofNat g) (.ofNat 2) jt jh) 8 1 = upTo (fun _ => (true, [], some (S (cmdL i s b) jt))) 8 1 := by kernel_rfl
theorem good3 (i : Nat → Int) (s : Nat → ByteArray) (b : Bool) (jt : Nat → Value) (jh : Nat → Nat → Value) : upTo (fun g => p0L (cmdL i s b) (.ofNat g) (.ofNat 3) jt jh) 8 1 = upTo (fun _ => (true, [], some (S (cmdL i s b) jt))) 8 1 := by kernel_rfl
theorem good4 (i : Nat → Int) (s : Nat → ByteArray) (b : Bool) (jt : Nat → Value) (jh : Nat → Nat → Value) : upTo (fun g => p0L (cmdL i s b) (.ofNat g) (.ofNat 4) jt jh) 8 1 = upTo (fun _ => (true, [], some (S (cmdL i s b) jt))) 8 1 := by kernel_rfl
theorem good5 (i : Nat → Int) (s : Nat → ByteArray) (b : Bool) (jt : Nat → Value) (jh : Nat → Nat → Value) : upTo (fun g => p0L (cmdL i s b) (.ofNat g) (.ofNat 5) jt jh) 8 1 = upTo (fun _ => (true, [], some (S (cmdL i s b) jt))) 8 1 := by kernel_rfl
theorem good6 (i : Nat → Int) (s : Nat → ByteArray) (b : Bool) (jt : Nat → Value) (jh : Nat → Nat → Value) : upTo (fun g => p0L (cmdL i s b) (.ofNat g) (.ofNat 6) jt jh) 8 1 = upTo (fun _ => (true, [], some (S (cmdL i s b) jt))) 8 1 := by kernel_rfl
theorem good7 (i : Nat → Int) (s : Nat → ByteArray) (b : Bool) (jt : Nat → Value) (jh : Nat → Nat → Value) : upTo (fun g => p0L (cmdL i s b) (.ofNat g) (.ofNat 7) jt jh) 8 1 = upTo (fun _ => (true, [], some (S (cmdL i s b) jt))) 8 1 := by kernel_rfl
theorem good8 (i : Nat → Int) (s : Nat → ByteArray) (b : Bool) (jt : Nat → Value) (jh : Nat → Nat → Value) : upTo (fun g => p0L (cmdL i s b) (.ofNat g) (.ofNat 8) jt jh) 8 1 = upTo (fun _ => (true, [], some (S (cmdL i s b) jt))) 8 1 := by kernel_rfl
end Go.Proofs.YthapjgecggdliaaGreatDoor.shardNobody
