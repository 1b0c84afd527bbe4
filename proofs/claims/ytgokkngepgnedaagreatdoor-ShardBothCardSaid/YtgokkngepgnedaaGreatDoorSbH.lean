/- ShardBoth: the posts, round by round. -/
import Derived.Test.YtgokkngepgnedaaGreatDoorSbG
namespace Go.Proofs.YtgokkngepgnedaaGreatDoor.shardBoth
open Go Go.Ab Go.RowKit
set_option maxRecDepth 100000
def pr (a b : Value) : Prop := a = b
def bV (q : Bool) : Value := .bool q
noncomputable def ltP (a b : Int) (q : Bool) : Prop := pr (.bool (intLt a b)) (bV q)
noncomputable def geP (a b : Int) (q : Bool) : Prop := pr (.bool (notB (intLt a b))) (bV q)
def yes : Prop := true = true
def ckP (v : Value) : Prop := ((veq 8 v v && true) && true) = true
def ofO (q : Nat) (v : List Value) : AObj := .map #[⟨i64 1, .agg ⟨e24 q :: v⟩, 0⟩] 1
def post1 : List Value := [str [97, 110, 110], str [120]]
noncomputable def pbO (s : St) : Nat := match heapGet s.2 63 with
  | .cells r _ => (match rowGet r 1 with | some (.slice (some a) _ _) => a.block | _ => 0)
  | _ => 0
noncomputable def shP (s : St) : Shape := shR (List.range 142 ++ [pbO s])
/-- Behind so many and one posts. -/
noncomputable def hP (m : Nat) (R : Row) : AHeap := heapPut (heapPut (heapPut hB 67 (ofO (m + 3) [i64 0, e24 m, .slice none 0 0])) 63 (chO 64 142 (m + 1))) 142 (.cells R 131)
noncomputable def P1 (n : Nat) (to : Int) (ok : Bool) (m : Nat) (R : Row) (jt : Nat → Value) : St := (slots n to ok (m + 1) jt, hP m R)
/-- What is looked at of a number that a session asks by: is it one; is it later than the last one. -/
noncomputable def seqN (q : Nat) : Noted := [geP (.ofNat q) 1 true, geP 2147483647 (.ofNat q) true]
def idV (q : Nat) : Value := .agg ⟨[i64 1, e24 q]⟩
noncomputable def ab (c : Value) : Prop := MemoOk Tryz.prog ⟨33, [c], Tr⟩
noncomputable def findN (l q : Nat) : Noted := seqN q ++ [yes, ltP (.ofNat l) (.ofNat q) true, yes]
noncomputable def put1N (l q : Nat) : Noted := seqN q ++ [yes, geP (.ofNat l) (.ofNat q) false, ckP (e24 q)]
/-- Of an op that is done: 'l': the session's last one. -/
noncomputable def opN (c : Value) (l q : Nat) (w : Noted) : Noted := [ab c] ++ findN l q ++ put1N l q ++ [ckP (idV q)] ++ w ++ [yes] ++ put1N l q ++ [yes, yes]
def opT (w : Ab.Tape) : Ab.Tape := [Tr, Tr, Tr] ++ [Tr, Tr, F] ++ w ++ [Tr, Tr, F]
noncomputable def postW (k : Nat) (a : Prop) : Noted := [geP (.ofNat k) 1024 false, a, yes, pr (i64 (wrapF .i64 (Int.sub (.ofNat (k + 1)) 1))) (e24 k)]
def postT (k : Nat) : Ab.Tape := [F, e24 k]
noncomputable def incP (i : Nat) : Prop := pr (i64 (wrapF .i64 (Int.add (.ofNat i) 1))) (e24 (i + 1))
noncomputable def rdN (n l j : Nat) (a : Prop) : Noted := [ltP (.ofNat j) (.ofNat n) true, pr (i64 (wrapF .i64 (Int.add 3 (.ofNat j)))) (e24 (j + 3)), MemoOk Tryz.prog ⟨6, [e24 (j + 3), .agg ⟨oPost⟩], cOp (.ofNat (j + 3)) oPost 6⟩] ++ opN (cOp (.ofNat (j + 3)) oPost 6) l (j + 3) (postW j a) ++ [incP j]
def rdT (j : Nat) : Ab.Tape := [Tr, e24 (j + 3)] ++ opT (postT j) ++ [e24 (j + 1)]
noncomputable def R0 (n : Nat) (d : List UInt8) (to : Int) (ok : Bool) (j0 : Nat → Value) : RCC := rnd n d (P0 n to ok j0) (rdT 0)
theorem t0 (n : Nat) (d : List UInt8) (to : Int) (ok : Bool) (j0 jt : Nat → Value) (jh : Nat → Nat → Value) : (fun r => (isN r, canonS (shP (stOf r)) 2 (stOf r) jt jh)) (R0 n d to ok j0) =
    (some (revN (rdN n 2 0 (appN0 (Row.ofList post1) 0 1 2)) []), some (P1 n to ok 0 (Row.ofList post1) jt)) := by kernel_rfl
noncomputable def R1 (n : Nat) (d : List UInt8) (to : Int) (ok : Bool) (m : Nat) (R : Row) (j0 : Nat → Value) : RCC := rnd n d (P1 n to ok m R j0) (rdT (m + 1))
theorem t1 (n : Nat) (d : List UInt8) (to : Int) (ok : Bool) (m : Nat) (R : Row) (j0 jt : Nat → Value) (jh : Nat → Nat → Value) : (fun r => (isN r, canonS (shP (stOf r)) 2 (stOf r) jt jh)) (R1 n d to ok m R j0) =
    (some (revN (rdN n (m + 3) (m + 1) (appN R.len (m + 1) 1 2)) []), some (P1 n to ok (m + 1) (R.more post1) jt)) := by kernel_rfl
noncomputable def out (n : Nat) (d : List UInt8) (s : St) : RCC := rnd n d s [F]
theorem begins (n : Nat) (d : List UInt8) (po to : Int) (ok : Bool) (jt : Nat → Value) (jh : Nat → Nat → Value) : (fun y z => (y.ok, y.lg, z.ok, z.lg, canonS (sh0 z.s) 2 z.s jt jh)) (y1 n d po to ok) (y2 n d po to ok) =
    (true, [ab (cOp 2 oJoin 6), MemoOk Tryz.prog ⟨6, [i64 2, .agg ⟨oJoin⟩], cOp 2 oJoin 6⟩, ab (cOp 1 oMake 6), MemoOk Tryz.prog ⟨6, [i64 1, .agg ⟨oMake⟩], cOp 1 oMake 6⟩, pr (i64 (bandF po 31)) (e24 n)], true, [], some (P0 n to ok jt)) := by kernel_rfl
end Go.Proofs.YtgokkngepgnedaaGreatDoor.shardBoth
