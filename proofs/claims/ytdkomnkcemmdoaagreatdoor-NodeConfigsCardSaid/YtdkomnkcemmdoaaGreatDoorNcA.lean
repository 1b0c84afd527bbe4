/- NodeConfigs: its runs, told: configs, numbers and draws that may not be. -/
import Derived.Test.YtdkomnkcemmdoaaGreatDoorNodeC
namespace Go.Proofs.YtdkomnkcemmdoaaGreatDoor.nodeConfigs
open Go Go.Ab
set_option maxRecDepth 100000
def mkN : Marks := marksIn [(19, [9, 13], [], []), (103, [9, 13], [], []), (20, [25, 29], [], []), (6, [31], [], []), (55, [38], [], []), (7, [5, 9, 14, 19, 24, 29, 34, 39, 44, 49, 54, 59], [], []), (3, [36, 42, 46], [], [])]
noncomputable def draw : CallB → DrawB := drawB Tryz.prog enters
noncomputable def drawc : CallB → CallC → DrawC := drawC Tryz.prog enters
noncomputable def kn : Known := orK (memoK [node.awakeM]) node.knN
theorem knOk : CallSound Tryz.prog 7 kn.call := orK_sound (memoK_sound (fun x hx => by rw [List.mem_singleton] at hx; rw [hx]; exact node.awakeOk)) node.knNok
noncomputable def CB : CallB := quickB kn 40
noncomputable def CC : CallC := callC Tryz.prog enters FT kn draw drawc mkN 1048576 40
theorem CBok : CallSound Tryz.prog 7 (callOf CB) := quickB_sound knOk 40
theorem CCok : CallEq CB CC := callC_eq (fun _ _ h => drawC_eq h) mkN 1048576 40
def F : Value := .bool false
def Tr : Value := .bool true
def cfg (n g c d s k : Int) : Value := .agg ⟨[.int .i64 n, .int .i64 g, .int .i64 c, .int .i64 d, .int .i64 s, .int .i64 k]⟩
/-- The twelve conditions, in their order. -/
noncomputable def conds (n g c d s k : Int) : List Bool :=
  [notB (intLt n 1), notB (intLt 7 n), notB (intLt g 1), notB (intLt 8 g), notB (intLt c 0), notB (intLt 8 c), notB (intLt d 4096), notB (intLt 16777216 d), notB (intLt s 64), notB (intLt 16777216 s), notB (intLt k 1), notB (intLt 1048576 k)]
noncomputable def pred (n : Int) : Int := wrapF .i64 (Int.sub n 1)
def trs : Nat → Ab.Tape → Ab.Tape
  | 0, t => t
  | k + 1, t => Tr :: trs k t
noncomputable def condN : List Bool → Noted → Noted
  | [], t => t
  | b :: l, t => pr (.bool b) Tr :: condN l t
noncomputable def badN : List Bool → Nat → Noted → Noted
  | b :: _, 0, t => pr (.bool b) F :: t
  | b :: l, i + 1, t => pr (.bool b) Tr :: badN l i t
  | [], _, t => t
/-- The second node. -/
def secT : Ab.Tape := trs 14 [F]
noncomputable def secN : Noted := condN (List.replicate 14 true) [pr F F]
noncomputable def run (n g c d s k id dr : Int) (tp : Ab.Tape) : Option (Value × Noted) := saidC ((CC 3).un #[cfg n g c d s k, i64 id, i64 dr] (bareOf 7) tp [])
theorem bad (n g c d s k id dr : Int) : upTo (fun i => run n g c d s k id dr (trs i (F :: trs i (F :: secT)))) 12 0 = upTo (fun i => some (.bool true, revN (badN (conds n g c d s k) i (badN (conds n g c d s k) i secN)) [])) 12 0 := by kernel_rfl
theorem idLow (n g c d s k id dr : Int) : run n g c d s k id dr (trs 12 (F :: trs 12 (F :: secT))) = some (.bool true, revN (condN (conds n g c d s k) (pr (.bool (notB (intLt id 0))) F :: condN (conds n g c d s k) (pr (.bool (notB (intLt id 0))) F :: secN))) []) := by kernel_rfl
theorem idHigh (n g c d s k id dr : Int) : run n g c d s k id dr (trs 12 (Tr :: F :: trs 12 (Tr :: F :: secT))) = some (.bool true, revN (condN (conds n g c d s k) (pr (.bool (notB (intLt id 0))) Tr :: pr (.bool (notB (intLt (pred n) id))) F :: condN (conds n g c d s k) (pr (.bool (notB (intLt id 0))) Tr :: pr (.bool (intLt id n)) F :: secN))) []) := by kernel_rfl
theorem drawLow (n g c d s k id dr : Int) : run n g c d s k id dr (trs 12 (Tr :: Tr :: Tr :: trs 12 (Tr :: Tr :: F :: secT))) = some (.bool true, revN (condN (conds n g c d s k) (pr (.bool (notB (intLt id 0))) Tr :: pr (.bool (notB (intLt (pred n) id))) Tr :: pr (.bool (intLt dr 0)) Tr :: condN (conds n g c d s k) (pr (.bool (notB (intLt id 0))) Tr :: pr (.bool (intLt id n)) Tr :: pr (.bool (notB (intLt dr 0))) F :: secN))) []) := by kernel_rfl
/-! ### All is well -/
def groupT : Nat → Ab.Tape → Ab.Tape
  | 0, t => t
  | m + 1, t => trs 6 (F :: trs 4 (groupT m t))
def goodT (g : Nat) : Ab.Tape := trs 12 (Tr :: Tr :: F :: F :: F :: groupT (g + 1) (trs 12 (Tr :: Tr :: Tr :: secT)))
noncomputable def drw (dr : Int) (j : Nat) : Int := wrapF .i64 (Int.add (remF dr 10) (wrapF .i64 (Int.mul 3 (.ofNat j))))
noncomputable def groupN (n id dr : Int) : Nat → Nat → Noted → Noted
  | 0, _, t => t
  | m + 1, j, t => condN [notB (intLt (.ofNat j) 0), notB (intLt 8 (.ofNat j)), notB (intLt n 1), notB (intLt 7 n), notB (intLt id 0), notB (intLt (pred n) id)] (pr (.bool (intLt (drw dr j) 0)) F :: condN [true, true, notB (intLt (-1) (-1)), notB (intLt (pred n) (-1))] (groupN n id dr m (j + 1) t))
noncomputable def goodN (n g c d s k id dr : Int) (j : Nat) : Noted :=
  condN (conds n g c d s k) (condN [notB (intLt id 0), notB (intLt (pred n) id)] (pr (.bool (intLt dr 0)) F :: pr (.bool (intLt s 1)) F :: pr (.bool (intLt 16777216 s)) F :: groupN n id dr (j + 1) 0 (condN (conds n g c d s k) (condN [notB (intLt id 0), intLt id n, notB (intLt dr 0)] secN))))
end Go.Proofs.YtdkomnkcemmdoaaGreatDoor.nodeConfigs
