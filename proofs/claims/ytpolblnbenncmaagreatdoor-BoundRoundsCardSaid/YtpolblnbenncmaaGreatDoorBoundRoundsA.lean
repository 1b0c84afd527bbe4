/- BoundRounds: which configs may be, by runs that are told. -/
import Derived.Test.YtpolblnbenncmaaGreatDoorAbFs
import Derived.Test.YtpolblnbenncmaaGreatDoorAbX
namespace Go.Proofs.YtpolblnbenncmaaGreatDoor.boundRounds
open Go Go.Ab
set_option maxRecDepth 100000
def mkM : Marks := marksIn [(19, [9, 13], [], []), (53, [9, 13], [], []), (20, [25, 29], [], [])]
noncomputable def draw : CallB → DrawB := drawB Tryz.prog enters
noncomputable def drawc : CallB → CallC → DrawC := drawC Tryz.prog enters
noncomputable def CB0 : CallB := quickB noneK 40
noncomputable def CC0 : CallC := callC Tryz.prog enters FT noneK draw drawc mkM 1048576 40
theorem CB0ok : CallSound Tryz.prog 7 (callOf CB0) := quickB_sound noneK_sound 40
theorem CC0ok : CallEq CB0 CC0 := callC_eq (fun _ _ h => drawC_eq h) mkM 1048576 40
def F : Value := .bool false
def Tr : Value := .bool true
def cfg (n g c d s k : Int) : Value := .agg ⟨[.int .i64 n, .int .i64 g, .int .i64 c, .int .i64 d, .int .i64 s, .int .i64 k]⟩
/-- The twelve conditions, in their order. -/
noncomputable def conds (n g c d s k : Int) : List Bool :=
  [notB (intLt n 1), notB (intLt 7 n), notB (intLt g 1), notB (intLt 8 g), notB (intLt c 0), notB (intLt 8 c), notB (intLt d 4096), notB (intLt 16777216 d), notB (intLt s 64), notB (intLt 16777216 s), notB (intLt k 1), notB (intLt 1048576 k)]
noncomputable def pred (n : Int) : Int := wrapF .i64 (Int.sub n 1)
def trs : Nat → Ab.Tape → Ab.Tape
  | 0, t => t
  | k + 1, t => Tr :: trs k t
def goodT (g : Nat) : Ab.Tape := trs 14 (F :: F :: trs (10 * (g + 1)) [])
noncomputable def condN : List Bool → Noted → Noted
  | [], t => t
  | b :: l, t => pr (.bool b) Tr :: condN l t
noncomputable def groupN (n : Int) : Nat → Nat → Noted
  | 0, _ => []
  | m + 1, j => condN [notB (intLt (.ofNat j) 0), notB (intLt 8 (.ofNat j)), notB (intLt n 1), notB (intLt 7 n), notB (intLt 0 0), notB (intLt (pred n) 0), true, true, notB (intLt (-1) (-1)), notB (intLt (pred n) (-1))] (groupN n m (j + 1))
noncomputable def goodN (n g c d s k : Int) (j : Nat) : Noted :=
  condN (conds n g c d s k) (condN [notB (intLt 0 0), notB (intLt (pred n) 0)] (pr (.bool (intLt s 1)) F :: pr (.bool (intLt 16777216 s)) F :: groupN n (j + 1) 0))
noncomputable def badN : List Bool → Nat → Noted
  | b :: _, 0 => [pr (.bool b) F]
  | b :: l, i + 1 => pr (.bool b) Tr :: badN l i
  | [], _ => []
theorem mayg1 (n c d s k : Int) : saidC ((CC0 12).un #[cfg n (.ofNat 1) c d s k] (bareOf 7) (goodT 1) []) = some (.bool true, revN (goodN n (.ofNat 1) c d s k 1) []) := by kernel_rfl
theorem bad (n g c d s k : Int) : upTo (fun i => saidC ((CC0 12).un #[cfg n g c d s k] (bareOf 7) (trs i [F]) [])) 12 0 = upTo (fun i => some (.bool false, revN (badN (conds n g c d s k) i) [])) 12 0 := by kernel_rfl
end Go.Proofs.YtpolblnbenncmaaGreatDoor.boundRounds
