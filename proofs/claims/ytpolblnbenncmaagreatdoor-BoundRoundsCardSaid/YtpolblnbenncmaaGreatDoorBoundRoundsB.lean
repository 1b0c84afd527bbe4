/- BoundRounds' run: its parts, told. -/
import Derived.Test.YtpolblnbenncmaaGreatDoorBoundRoundsM
namespace Go.Proofs.YtpolblnbenncmaaGreatDoor.boundRounds
open Go Go.Ab
set_option maxRecDepth 100000
def mkR : Marks := marksIn [(3, [55, 59], [], []), (4, [7, 11, 15], [], []), (5, [11, 15], [], []), (6, [11, 15, 19], [], []), (7, [14, 18], [], []), (8, [7], [], []), (10, [44], [], [22]), (13, [5, 9, 14, 19, 24, 29, 34, 39, 44, 49, 54, 59], [], [])]
/-- What must come, comes. -/
def awakeM : Memo := ⟨11, [], .bool true⟩
theorem awakeOk : MemoOk Tryz.prog awakeM := memo_of_quick (quickB_sound noneK_sound 40) rfl rfl (by kernel_rfl)
noncomputable def kn : Known := orK (famK 12 mayF) (memoK [awakeM])
theorem knOk : CallSound Tryz.prog 7 kn.call := orK_sound (famK_sound mayF_ok) (memoK_sound (fun x hx => by rw [List.mem_singleton] at hx; rw [hx]; exact awakeOk))
noncomputable def CB : CallB := quickB kn 40
noncomputable def CC : CallC := callC Tryz.prog enters FT kn draw drawc mkR 1048576 40
noncomputable def DB : DrawB := draw CB
noncomputable def DC : DrawC := drawc CB CC
theorem CBok : CallSound Tryz.prog 7 (callOf CB) := quickB_sound knOk 40
theorem CCok : CallEq CB CC := callC_eq (fun _ _ h => drawC_eq h) mkR 1048576 40
theorem DCok : DrawEq DB DC := drawC_eq CCok
theorem DBok : DrawGood Tryz.prog 7 (fun ops T h => (DB ops).un T h) := drawB_sound entersOk zerosOk CBok
noncomputable def body : Code := Tryz.f3.body.getD .skip
theorem hasBody : Tryz.f3.body = some body := by kernel_rfl
noncomputable def rest : Code := dropN 3 body
theorem k0 : partsOk Tryz.prog 7 84 3 body = true := by kernel_rfl
theorem okR : codeOk 7 84 rest = true := by kernel_rfl
theorem plR : plansOk Tryz.prog rest = true := by kernel_rfl
noncomputable def parts (k : Nat) (c : Code) (s : St) (tp : Ab.Tape) : SC := goNC Tryz.prog enters CB CC DC (mkR 3) 1000 k c ⟨s, tp, [], true⟩
noncomputable def fin (s : St) (tp : Ab.Tape) : Option OutC := lastC Tryz.prog enters CB CC DC (mkR 3) 1000 Tryz.f3 rest s tp
noncomputable def s0 (n g c d s k calls x : Int) : St := (initT [cfg n g c d s k, i64 calls, i64 x] 0 .leaf, bareOf 7)
def deads : Nat → List AObj → List AObj
  | 0, l => l
  | k + 1, l => .dead :: deads k l
/-- Behind the first part: both bounds are the same. -/
def S (n g c d s k x a e : Int) (jt : Nat → Value) : St := (treeF (slotsOf [(2, i64 x), (3, ptrTo 7), (7, i64 a), (8, i64 e), (9, i64 a), (10, i64 e)] jt) 84 0 .leaf, ⟨heapF (deads 7 [cellsOfL [i64 n, i64 g, i64 c, i64 d, i64 s, i64 k] 23]) 0 .leaf, 7 + 1, 1099511627776⟩)
noncomputable def shS (s : St) : Shape := ⟨List.range 7 ++ [blkOf (Tget s.1 3)], 84, inL [2, 3, 7, 8, 9, 10], fun _ _ => true, fun _ => false, fun _ => false, fun _ => false⟩
noncomputable def may1 (n g c d s k : Int) (v : Value) : Prop := pr (.bool (mayB n g c d s k)) v
/-! ### The first part -/
noncomputable def p1 (n g c d s k calls x : Int) (tp : Ab.Tape) : SC := parts 3 body (s0 n g c d s k calls x) tp
noncomputable def p1L (n g c d s k calls x : Int) (tp : Ab.Tape) (jt : Nat → Value) (jh : Nat → Nat → Value) : Bool × Noted × Option St := (fun y => (y.ok, y.lg, canonS (shS y.s) 7 y.s jt jh)) (p1 n g c d s k calls x tp)
theorem bad1 (n g c d s k calls x : Int) (jt : Nat → Value) (jh : Nat → Nat → Value) : upTo (fun i => p1L n g c d s k calls x (F :: trs i [F]) jt jh) 12 0 = upTo (fun i => (true, revN (may1 n g c d s k F :: badN (conds n g c d s k) i) [], some (S n g c d s k x 0 1 jt))) 12 0 := by kernel_rfl
noncomputable def low1 (calls : Int) (v : Value) : Prop := pr (.bool (intLt calls 0)) v
noncomputable def top1 (calls : Int) (v : Value) : Prop := pr (.bool (intLt 1048576 calls)) v
noncomputable def bound1 (calls : Int) : Int := wrapF .i64 (Int.add 400 (wrapF .i64 (Int.mul 60 calls)))
theorem good1 (n g c d s k calls x : Int) (jt : Nat → Value) (jh : Nat → Nat → Value) :
    (p1L n g c d s k calls x (Tr :: Tr :: trs 12 [Tr]) jt jh, p1L n g c d s k calls x (Tr :: F :: Tr :: trs 12 [F, Tr]) jt jh, p1L n g c d s k calls x (Tr :: F :: F :: trs 12 [F, F]) jt jh) =
    ((true, revN (may1 n g c d s k Tr :: low1 calls Tr :: condN (conds n g c d s k) [low1 calls Tr]) [], some (S n g c d s k x 0 1 jt)),
     (true, revN (may1 n g c d s k Tr :: low1 calls F :: top1 calls Tr :: condN (conds n g c d s k) [low1 calls F, top1 calls Tr]) [], some (S n g c d s k x 0 1 jt)),
     (true, revN (may1 n g c d s k Tr :: low1 calls F :: top1 calls F :: condN (conds n g c d s k) [low1 calls F, top1 calls F]) [], some (S n g c d s k x (bound1 calls) 0 jt))) := by kernel_rfl
/-! ### The second part -/
noncomputable def same1 (a : Int) : Prop := pr (.bool (intEq a a)) Tr
theorem bad2 (n g c d s k x a e : Int) (jt : Nat → Value) : upTo (fun i => saidOf (fin (S n g c d s k x a e jt) (F :: trs i (F :: F :: trs i [F, Tr, Tr])))) 12 0 =
    upTo (fun i => some (.bool true, revN (may1 n g c d s k F :: (badN (conds n g c d s k) i ++ (may1 n g c d s k F :: (badN (conds n g c d s k) i ++ [same1 a, same1 e])))) [])) 12 0 := by kernel_rfl
def fs : Nat → Ab.Tape → Ab.Tape
  | 0, t => t
  | k + 1, t => F :: fs k t
noncomputable def ffN : Nat → Noted → Noted
  | 0, t => t
  | k + 1, t => (true = true) :: pr F F :: ffN k t
/-- The first node's numbers are literal from here on. -/
noncomputable def startsT (m : Nat) (t : Ab.Tape) : Ab.Tape := Tr :: trs 12 (trs 2 t)
noncomputable def startsN (n g c d s k a e : Int) (t : Noted) : Noted := may1 n g c d s k Tr :: condN (conds n g c d s k) (same1 a :: same1 e :: t)
theorem low2 (g c d s k x a e : Int) (jt : Nat → Value) : upTo (fun m => saidOf (fin (S (.ofNat m) g c d s k x a e jt) (Tr :: Tr :: trs 12 (Tr :: startsT m (fs m []))))) 7 1 =
    upTo (fun m => some (.bool true, revN (may1 (.ofNat m) g c d s k Tr :: low1 x Tr :: condN (conds (.ofNat m) g c d s k) (low1 x Tr :: startsN (.ofNat m) g c d s k a e (ffN m []))) [])) 7 1 := by kernel_rfl
theorem top2 (g c d s k x a e : Int) (jt : Nat → Value) : upTo (fun m => saidOf (fin (S (.ofNat m) g c d s k x a e jt) (Tr :: F :: Tr :: trs 12 (F :: Tr :: startsT m (fs m []))))) 7 1 =
    upTo (fun m => some (.bool true, revN (may1 (.ofNat m) g c d s k Tr :: low1 x F :: top1 x Tr :: condN (conds (.ofNat m) g c d s k) (low1 x F :: top1 x Tr :: startsN (.ofNat m) g c d s k a e (ffN m []))) [])) 7 1 := by kernel_rfl
noncomputable def tickX (x : Int) (j : Nat) : Int := wrapF .i64 (Int.add x (.ofNat (3 * j)))
/-- A step's cells. -/
noncomputable def tickV (x : Int) (j : Nat) : Value := .agg ⟨[i64 5, i64 (.ofNat j), i64 (tickX x j), i64 0, i64 0, .string ⟨#[]⟩, .string ⟨#[]⟩, .string ⟨#[]⟩, .string ⟨#[]⟩, .string ⟨#[]⟩, .string ⟨#[]⟩, i64 0, i64 0, .slice none 0 0]⟩
noncomputable def tickN (x : Int) : Nat → Nat → Noted → Noted
  | 0, _, t => t
  | m + 1, j, t => (((veq 8 (tickV x j) (tickV x j) && true) && true) = true) :: pr (.bool (notB (intEq (tickX x j) (tickX x j)))) F :: ffN 3 (tickN x m (j + 1) t)
noncomputable def okL (m : Nat) (g d s k x a e : Int) (jt : Nat → Value) (c : Nat) : Option (Value × Noted) := saidOf (fin (S (.ofNat m) g (.ofNat c) d s k x a e jt) (Tr :: F :: F :: trs 12 (F :: F :: startsT m (fs (m * 4 + c + 3 + m) []))))
noncomputable def okN (m : Nat) (g d s k x a e : Int) (c : Nat) : Noted := may1 (.ofNat m) g (.ofNat c) d s k Tr :: low1 x F :: top1 x F :: condN (conds (.ofNat m) g (.ofNat c) d s k) (low1 x F :: top1 x F :: startsN (.ofNat m) g (.ofNat c) d s k a e (tickN x m 0 (ffN (c + 3 + m) [])))
end Go.Proofs.YtpolblnbenncmaaGreatDoor.boundRounds
