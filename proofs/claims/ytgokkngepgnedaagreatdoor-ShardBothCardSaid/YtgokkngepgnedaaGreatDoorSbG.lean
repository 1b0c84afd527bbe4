/- ShardBoth: the posts. -/
import Derived.Test.YtgokkngepgnedaaGreatDoorSbF
namespace Go.Proofs.YtgokkngepgnedaaGreatDoor.shardBoth
open Go Go.Ab Go.RowKit
set_option maxRecDepth 100000
def keep0 : List Nat := [1, 2, 7, 9, 10]
noncomputable def shR (l : List Nat) : Shape := ⟨l, 173, inL keep0, fun _ _ => true, fun _ => false, fun y => Nat.beq y 142, fun _ => false⟩
noncomputable def sh0 (s : St) : Shape := shR (List.range 10 ++ reach s ++ [100000])
noncomputable def hB : AHeap := match canonS (sh0 (y2 0 [] 0 0 true).s) 2 (y2 0 [] 0 0 true).s (fun _ => undef) (fun _ _ => undef) with | some s => s.2 | none => bareOf 2
noncomputable def slots (n : Nat) (to : Int) (ok : Bool) (i : Nat) (jt : Nat → Value) : Tree Value := treeF (slotsOf [(1, i64 to), (2, .bool ok), (7, .pointer (some ⟨10, 0, none⟩)), (9, e24 n), (10, e24 i)] jt) 173 0 .leaf
noncomputable def P0 (n : Nat) (to : Int) (ok : Bool) (jt : Nat → Value) : St := (slots n to ok 0 jt, hB)
noncomputable def rnd (n : Nat) (d : List UInt8) (s : St) (tp : Ab.Tape) : RCC := codeK n d 3 lp s tp
end Go.Proofs.YtgokkngepgnedaaGreatDoor.shardBoth
