/- ShardBoth: behind the posts. -/
import Derived.Test.YtgokkngepgnedaaGreatDoorSbH
namespace Go.Proofs.YtgokkngepgnedaaGreatDoor.shardBoth
open Go Go.Ab Go.RowKit
set_option maxRecDepth 100000
noncomputable def finK (n : Nat) (d : List UInt8) (s : St) (tp : Ab.Tape) : Option OutC := lastC Tryz.prog enters (CB n d) (CC n d mk) (DC n d mk) (mk 3) 1000 Tryz.f3 rest s tp
noncomputable def fin (m : Nat) (d : List UInt8) (to : Int) (ok : Bool) (j0 : Nat → Value) (tp : Ab.Tape) : Option OutC := finK (m + 1) d (stOf (out (m + 1) d (P1 (m + 1) to ok m (rowFn pF ((m + 1) * 2)) j0))) tp
/-! ### What is told -/
def slV (b n : Nat) : Value := .slice (some ⟨b, n * 2, none⟩) 0 (OPEN - n)
def readT (b n : Nat) : Ab.Tape := [e24 n, e24 n, e24 n, slV b n, e24 n]
/-- In which order the two slots are locked: 0 the other one first, 1 it behind, 2 there is one. -/
def cls (x : Nat) : Nat := match Nat.beq (slT x) 6 with
  | true => 2
  | false => match Nat.blt (slT x) 6 with
    | true => 0
    | false => 1
def ordT (x : Nat) (d : List UInt8) : Ab.Tape := match cls x with
  | 0 => [str [], str (99 :: d), str (99 :: d)]
  | 1 => [str (99 :: d), str (99 :: d), str (99 :: d)]
  | _ => [str (99 :: d), str (99 :: d)]
def noT (x m : Nat) (d : List UInt8) : Ab.Tape := [e24 x] ++ ordT x d ++ opT (readT 142 (m + 1)) ++ opT [] ++ [Tr]
def okT (b x m : Nat) (d : List UInt8) : Ab.Tape := [e24 x] ++ ordT x d ++ opT [] ++ opT (readT b (m + 1)) ++ opT (postT (m + 1)) ++ [Tr, Tr]
def pbX (x : Nat) : Nat := match cls x with
  | 0 => 512
  | 1 => 591
  | _ => 365
theorem map_mem {α β : Type} {f g : α → β} : ∀ {l : List α}, l.map f = l.map g → ∀ x ∈ l, f x = g x := by
  intro l
  induction l with
  | nil => intro _ x hx; cases hx
  | cons y l ih =>
    intro h x hx
    simp only [List.map_cons, List.cons.injEq] at h
    rcases List.mem_cons.1 hx with rfl | hx
    · exact h.1
    · exact ih h.2 x hx
/-! ### What is looked at -/
noncomputable def catP (a b c : List UInt8) : Prop := (binT Tryz.prog .add 9).un (str a) (str b) = some (str c)
noncomputable def mi (c : Value) (sp ch : List UInt8) (a b : Nat) : Prop := MemoOk Tryz.prog ⟨42, [c, str sp, str ch], .bool (Nat.beq a b)⟩
noncomputable def is6 (s : Nat) (a : Noted) : Noted := match Nat.beq s 6 with
  | true => a
  | false => []
noncomputable def lockN (x m s : Nat) (d : List UInt8) : Noted := [ab (cLock x s), mi (cLock x s) [119] [99] 6 s, mi (cLock x s) [118] (nm x) (slT x) s, mi (cLock x s) [119] [99] 6 s] ++ is6 s [p43 (chO 64 142 (m + 1)) annO (pO (m + 1)) 64 142 (m + 1) d, catP [99] d (99 :: d)] ++ [yes]
noncomputable def locksN (x m : Nat) (d : List UInt8) : Noted := match cls x with
  | 0 => lockN x m (slT x) d ++ [catP [] [] []] ++ lockN x m 6 d ++ [catP [] (99 :: d) (99 :: d)]
  | 1 => lockN x m 6 d ++ [catP [] (99 :: d) (99 :: d)] ++ lockN x m (slT x) d ++ [catP (99 :: d) [] (99 :: d)]
  | _ => lockN x m 6 d ++ [catP [] (99 :: d) (99 :: d)]
noncomputable def finN (x s : Nat) (ok : Bool) (n : Nat) (d : List UInt8) : Noted := match ok with
  | false => [ab (cFin x s false (99 :: d)), yes]
  | true => [ab (cFin x s true (99 :: d)), mi (cFin x s true (99 :: d)) [118] (nm x) (slT x) s] ++ (match Nat.beq s (slT x) with
    | true => [MemoOk Tryz.prog ⟨44, [str (99 :: d), str [99]], .tuple ⟨[str d, Tr]⟩⟩, p45 (strO d) n d]
    | false => []) ++ [mi (cFin x s true (99 :: d)) [119] [99] 6 s, yes]
noncomputable def finsN (x : Nat) (ok : Bool) (n : Nat) (d : List UInt8) : Noted := match cls x with
  | 0 => finN x (slT x) ok n d ++ finN x 6 ok n d
  | 1 => finN x 6 ok n d ++ finN x (slT x) ok n d
  | _ => finN x 6 ok n d
noncomputable def minP (n : Nat) (k : Int) : Prop := pr (i64 (if (.ofNat n : Int) < k then .ofNat n else k)) (e24 n)
noncomputable def addP (n : Nat) : Prop := pr (i64 (wrapF .i64 (Int.add (.ofNat n) 0))) (e24 n)
noncomputable def readW (b n : Nat) : Noted := [minP n 999, yes, addP n, minP n (.ofNat n), sliceFact Tryz.prog 26 (.slice (some ⟨b, 0, none⟩) n OPEN) (some (e24 n)) (some (e24 n)) none (slV b n), yes, addP n, Nat.ble (n * 2) (n * 2) = true]
/-- Of an op that reads posts. -/
noncomputable def opR (c : Value) (l q : Nat) (w : Noted) : Noted := [ab c] ++ findN l q ++ put1N l q ++ [ckP (idV q)] ++ w ++ [yes] ++ seqN q ++ [yes, geP (.ofNat l) (.ofNat q) false, yes, ckP (e24 q)] ++ [yes, yes]
noncomputable def m6 (q : Int) (op : List Value) (s : Nat) : Prop := MemoOk Tryz.prog ⟨6, [i64 q, .agg ⟨op⟩], cOp q op s⟩
def lastA (x : Nat) : Nat := match Nat.beq (slT x) 6 with | true => 100 | false => 0
noncomputable def sameP (n : Nat) : Prop := pr (.bool (intEq (.ofNat n) (.ofNat n))) Tr
noncomputable def noN (x m : Nat) (to : Int) (d : List UInt8) : Noted := [pr (i64 (bandF to 15)) (e24 x)] ++ locksN x m d ++ finsN x false (m + 1) d ++ [m6 100 oHere 6] ++ opR (cOp 100 oHere 6) (m + 3) 100 (readW 142 (m + 1)) ++ [m6 101 (oAway x) (slT x)] ++ opN (cOp 101 (oAway x) (slT x)) (lastA x) 101 [] ++ [sameP (m + 1)]
noncomputable def okN (b x m : Nat) (to : Int) (d : List UInt8) : Noted := [pr (i64 (bandF to 15)) (e24 x)] ++ locksN x m d ++ finsN x true (m + 1) d ++ [m6 100 oHere 6] ++ opN (cOp 100 oHere 6) (m + 3) 100 [] ++ [m6 101 (oAway x) (slT x)] ++ opR (cOp 101 (oAway x) (slT x)) (lastA x) 101 (readW b (m + 1)) ++ [m6 102 (oNew x) (slT x)] ++ opN (cOp 102 (oNew x) (slT x)) 101 102 (postW (m + 1) (appN ((m + 1) * 2) (m + 1) 1 2)) ++ [sameP (m + 1), sameP (m + 1)]
end Go.Proofs.YtgokkngepgnedaaGreatDoor.shardBoth
