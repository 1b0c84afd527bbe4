/- FanReads: its runs. -/
import Derived.Test.YtbkgnlcjnimpcaaDoorStrW
namespace Go.Proofs.YtbkgnlcjnimpcaaDoor.fanReads
open Go Go.Ab Go.RowKit Go.Proofs.YtbkgnlcjnimpcaaDoor.strs
open Go.Proofs.YtbkgnlcjnimpcaaDoor.strs.dig (tblO MT memoT' memoT_of)
open Go.Proofs.YtbkgnlcjnimpcaaDoor.strs.num (tupV)
open Go.Proofs.YtbkgnlcjnimpcaaDoor.strs.rf (ltP catP eqP badV tupR resR fromV from_ok)
set_option maxRecDepth 100000
theorem awake : ((CBk noneK 15).un ([] : List Value).toArray (bareOf 8)).map (·.1) = some Tr := by kernel_rfl
theorem awake_ok : MemoOk Tryd.prog ⟨15, [], Tr⟩ := memo_of_quick (CBkok noneK_sound) rfl rfl awake
def g15 (l : List Value) : Option Value := match l with
  | [] => some Tr
  | _ => none
open Classical in
noncomputable def g23 (l : List Value) : Option Value := match l with
  | [.string ⟨⟨l⟩⟩] => if l.length < BIG then some (fromV l) else none
  | _ => none
noncomputable def kl : Known := orK (pureK 15 g15) (orK (pureT 23 5 tblO g23) kr)
theorem klok : Kok kl := by
  refine orK_sound (pureK_sound fun l v h => ?_) (orK_sound (pureT_sound (show 5 < 8 by decide) dig.tbl_plain fun l v h => ?_) krok)
  · unfold g15 at h
    split at h
    · cases h; exact awake_ok
    · cases h
  · unfold g23 at h
    split at h
    · split at h
      · rename_i hc
        cases h
        exact from_ok hc
      · cases h
    · cases h
noncomputable def jK (f : Nat) (l : List Value) (v : Value) : Prop := ∀ h' : AHeap, (CBk kl f).un ⟨l⟩ h' = some (v, h')
noncomputable def jT (f : Nat) (l : List Value) (v : Value) : Prop := ∀ h' : AHeap, heapGet h' 5 = tblO → (CBk kl f).un ⟨l⟩ h' = some (v, h')
theorem j15 : jK 15 [] Tr := knM (g := g15) rfl rfl
theorem j23 {l : List UInt8} (hl : l.length < BIG) : jT 23 [str l] (fromV l) := knT (g := g23) rfl (by
  show (if l.length < BIG then some (fromV l) else none) = _
  rw [if_pos hl])
theorem j36 {l : List UInt8} {c : UInt8} (hc : c ∈ [(47 : UInt8), 64]) (hl : l.length < BIG) : jK 36 [str l, str [c]] (cut.cutV c l) := knM (g := g36) rfl (by
  show (if c ∈ [(47 : UInt8), 64] ∧ l.length < BIG then some (cut.cutV c l) else none) = _
  rw [if_pos ⟨hc, hl⟩])
theorem j49 {l : List UInt8} (hl : l.length < BIG) : jK 49 [str l] (atoiV l) := knM (g := g49) rfl (by
  show (if l.length < BIG then some (atoiV l) else none) = _
  rw [if_pos hl])
theorem j74 {l : List UInt8} (hl : l.length < BIG) : jK 74 [str l] (str l) := knM (g := g74) rfl (by
  show (if l.length < BIG then some (str l) else none) = _
  rw [if_pos hl])
theorem j32 {a b : List UInt8} (h1 : a.length < BIG) (h2 : b.length < BIG) : jK 32 [opMake a b] (errV (lab a && lab b)) := knM (g := g32) rfl (g32_at h1 h2)
theorem j35 {n : Nat} (h : n < 4294967296) : jT 35 [e24 n] (str (itoa n)) := knT (g := g35) rfl (by
  show (if n < 4294967296 then some (str (itoa n)) else none) = _
  rw [if_pos h])
/-! ### The runs -/
def mk : Marks := with10 [(9, [18]), (16, [22])] 5 (with9 [(9, [33, 68]), (17, [18, 24]), (37, [8]), (58, [7]), (59, [7]), (11, [11])] (marksIn [(9, [46, 60], [], []), (17, [53], [], []), (11, [15, 19], [], []), (16, [], [11, 16, 17, 23], [7]), (33, [11], [], []), (58, [], [], [5]), (59, [], [], [5])]))
def anyO : AObj := .ro (Row.ofList [un]) 94
noncomputable def hp : AHeap := ((tblOf 8 5 tblO).put 3 anyO).put 4 anyO
noncomputable def run (l : List UInt8) (tp : Ab.Tape) : Option OutC := (CCk kl mk 9).un [str l].toArray hp tp []
def hdT (sp r ch u : List UInt8) (f1 f2 : Bool) (n : Int) (e : Value) : Ab.Tape := [cut.tupV sp r f1, cut.tupV ch u f2, tupV n e]
noncomputable def hdN (l sp r ch u : List UInt8) (f1 f2 : Bool) (n : Int) (e : Value) : Noted := [jK 36 [str l, str [47]] (cut.tupV sp r f1), jK 36 [str r, str [64]] (cut.tupV ch u f2), jK 49 [str u] (tupV n e)]
def nwT : Nat → Ab.Tape
  | 0 => [i64 1]
  | 1 => [i64 0, Tr]
  | 2 => [i64 0, F, Tr]
  | _ => [i64 0, F, F]
noncomputable def nwN (sp ch : List UInt8) (n : Int) : Nat → Noted
  | 0 => [jK 32 [opMake sp ch] (i64 1)]
  | 1 => [jK 32 [opMake sp ch] (i64 0), ltP n 0 true]
  | 2 => [jK 32 [opMake sp ch] (i64 0), ltP n 0 false, ltP 1073741824 n true]
  | _ => [jK 32 [opMake sp ch] (i64 0), ltP n 0 false, ltP 1073741824 n false]
noncomputable def badN (l : List UInt8) : Noted := [jT 23 [str l] badV, jK 15 [] Tr]
def badT : Ab.Tape := [badV, Tr]
def errs : List (Value × Nat) := [num.errV 1, num.errV 2].flatMap fun e => [0, 1, 2, 3].map fun k => (e, k)
theorem run_err (l sp r ch u : List UInt8) (f1 f2 : Bool) (n : Int) : errs.map (fun x => saidOf (run l (hdT sp r ch u f1 f2 n x.1 ++ [str u] ++ nwT x.2 ++ badT))) =
    errs.map (fun x => some (Tr, revN (hdN l sp r ch u f1 f2 n x.1 ++ [jK 74 [str u] (str u), (true = true)] ++ nwN sp ch n x.2 ++ badN l) [])) := by kernel_rfl
theorem run_new (l sp r ch u : List UInt8) (f1 f2 : Bool) (n : Int) : [0, 1, 2].map (fun k => saidOf (run l (hdT sp r ch u f1 f2 n .nilIface ++ nwT k ++ badT))) =
    [0, 1, 2].map (fun k => some (Tr, revN (hdN l sp r ch u f1 f2 n .nilIface ++ nwN sp ch n k ++ badN l) [])) := by kernel_rfl
def ckV (a b : List UInt8) : Prop := ((veq 8 (str a) (str a) && true) && ((veq 8 (str b) (str b) && true) && true)) = true
def crT (x1 x2 x3 t x4 : List UInt8) : Ab.Tape := [F, str x1, str x2, str x3, str t, str x4]
noncomputable def crN (sp ch : List UInt8) (n : Nat) (x1 x2 x3 t x4 : List UInt8) : Noted := [pr (.bool (eqL sp [])) F, catP sp [47] x1, catP x1 ch x2, catP x2 [64] x3, jT 35 [e24 n] (str t), catP x3 t x4, ckV sp ch]
theorem run_not (l sp r ch u x1 x2 x3 t x4 : List UInt8) (f1 f2 : Bool) (n : Nat) : saidOf (run l (hdT sp r ch u f1 f2 (.ofNat n) .nilIface ++ nwT 3 ++ crT x1 x2 x3 t x4 ++ [Tr] ++ badT)) =
    some (Tr, revN (hdN l sp r ch u f1 f2 (.ofNat n) .nilIface ++ nwN sp ch (.ofNat n) 3 ++ crN sp ch n x1 x2 x3 t x4 ++ [eqP x4 l true] ++ badN l) []) := by kernel_rfl
theorem run_good (l sp r ch u x1 x2 x3 t x4 : List UInt8) (f1 f2 : Bool) (n : Nat) : saidOf (run l (hdT sp r ch u f1 f2 (.ofNat n) .nilIface ++ nwT 3 ++ crT x1 x2 x3 t x4 ++ [F, tupR (resR sp ch n) 0] ++ crT x1 x2 x3 t x4 ++ [F, Tr, Tr, Tr])) =
    some (Tr, revN (hdN l sp r ch u f1 f2 (.ofNat n) .nilIface ++ nwN sp ch (.ofNat n) 3 ++ crN sp ch n x1 x2 x3 t x4 ++ [eqP x4 l false, jT 23 [str l] (tupR (resR sp ch n) 0)] ++ crN sp ch n x1 x2 x3 t x4 ++ [pr (.bool (eqL sp [])) F, pr (.bool (eqL x4 l)) Tr, pr (.bool (intEq (.ofNat n) (.ofNat n))) Tr, jK 15 [] Tr]) []) := by kernel_rfl
end Go.Proofs.YtbkgnlcjnimpcaaDoor.fanReads
