/- The parts of MetaErrors' run that lie ahead of the name's letter, and what is known of 'awake'. -/
import Derived.Test.YtclcobiaiedpbaaDoorAbFi
import Derived.Test.YtclcobiaiedpbaaDoorAbX
namespace Go.Proofs.YtclcobiaiedpbaaDoor.metaErrors
open Go Go.Ab
set_option maxRecDepth 100000
/-- What must come, comes. -/
def awakeM : Memo := ⟨14, [], .bool true⟩
theorem awakeOk : MemoOk Tryd.prog awakeM := memo_of_quick (quickB_sound noneK_sound 40) rfl rfl (by kernel_rfl)
noncomputable def kn : Known := memoK [awakeM]
theorem knOk : CallSound Tryd.prog 2 kn.call := memoK_sound (fun x hx => by rw [List.mem_singleton] at hx; rw [hx]; exact awakeOk)
noncomputable def CB : CallB := quickB kn 40
noncomputable def DB : DrawB := drawB Tryd.prog enters CB
theorem CBok : CallSound Tryd.prog 2 (callOf CB) := quickB_sound knOk 40
theorem DBok : DrawGood Tryd.prog 2 (fun ops T h => (DB ops).un T h) := drawB_sound entersOk zerosOk CBok
noncomputable def body : Code := Tryd.f4.body.getD .skip
theorem hasBody : Tryd.f4.body = some body := by kernel_rfl
noncomputable def r0 : Code := codeL body
noncomputable def b1 : Code := codeR body
noncomputable def r1 : Code := codeL b1
noncomputable def b2 : Code := codeR b1
noncomputable def r2 : Code := codeL b2
noncomputable def b3 : Code := codeR b2
noncomputable def r3 : Code := codeL b3
noncomputable def rest : Code := codeR b3
def opsOf : Code → Array Oper
  | .region _ ops _ => ops
  | _ => #[]
def idOf : Code → Nat
  | .region id _ _ => id
  | _ => 0
noncomputable def ops3 : Array Oper := opsOf r3
theorem e0 : body = .seq r0 b1 := by kernel_rfl
theorem e1 : b1 = .seq r1 b2 := by kernel_rfl
theorem e2 : b2 = .seq r2 b3 := by kernel_rfl
theorem e3 : b3 = .seq r3 rest := by kernel_rfl
theorem e4 : r3 = .region (idOf r3) ops3 false := by kernel_rfl
theorem k0 : codeOk 2 126 r0 = true := by kernel_rfl
theorem k1 : codeOk 2 126 r1 = true := by kernel_rfl
theorem k2 : codeOk 2 126 r2 = true := by kernel_rfl
theorem k3 : ops3.toList.all (opOk 2 126) = true := by kernel_rfl
theorem k4 : codeOk 2 126 rest = true := by kernel_rfl
theorem p0 : plansOk Tryd.prog r0 = true := by kernel_rfl
theorem p1 : plansOk Tryd.prog r1 = true := by kernel_rfl
theorem p2 : plansOk Tryd.prog r2 = true := by kernel_rfl
theorem p4 : plansOk Tryd.prog rest = true := by kernel_rfl
noncomputable def go (r : Code) (s : St) : St := goS Tryd.prog enters CB DB 1000 r s
noncomputable def ok (r : Code) (s : St) : Bool := okS Tryd.prog enters CB DB 1000 r s
noncomputable def goes (l : List Oper) (s : St) : St := goL Tryd.prog enters CB ops3 l s
noncomputable def oks (l : List Oper) (s : St) : Bool := okL Tryd.prog enters CB ops3 l s
noncomputable def args (n : Int) (a b t : Bool) : Array Value := #[.int .i64 n, .agg #[.bool a, .bool b], .bool t]
noncomputable def s0 (n : Int) (a b t : Bool) : St := (initT (args n a b t).toList 0 .leaf, bareOf 2)
noncomputable def s1 (n : Int) (a b t : Bool) : St := go r0 (s0 n a b t)
noncomputable def s2 (n : Int) (a b t : Bool) : St := go r1 (s1 n a b t)
noncomputable def s3 (n : Int) (a b t : Bool) : St := go r2 (s2 n a b t)
noncomputable def la : List Oper := ops3.toList.take 2
noncomputable def lb : List Oper := ops3.toList.drop 2
noncomputable def s4 (n : Int) (a b t : Bool) : St := goes la (s3 n a b t)
theorem o0 (n : Int) (a b t : Bool) : ok r0 (s0 n a b t) = true := by kernel_rfl
theorem o1 (n : Int) (a b t : Bool) : ok r1 (s1 n a b t) = true := by kernel_rfl
theorem o2 (n : Int) (a b t : Bool) : ok r2 (s2 n a b t) = true := by kernel_rfl
theorem o3 (n : Int) (a b t : Bool) : oks la (s3 n a b t) = true := by kernel_rfl
theorem slot (n : Int) (a b t : Bool) : Tget (s4 n a b t).1 29 = .int .i64 (bitI Nat.land (low4 n) .i64 n (Int.ofNat 15)) := by kernel_rfl
theorem low (n : Int) : bitI Nat.land (low4 n) .i64 n (Int.ofNat 15) = low4 n := by
  refine bitI_eq ?_
  rintro m k rfl hk h1 h2
  obtain rfl : 15 = k := by cases hk; rfl
  show IntKind.i64.wrap ((BitVec.ofInt 64 (Int.ofNat m) &&& BitVec.ofInt 64 (Int.ofNat 15)).toNat : Int) = _
  have e1 := ofNat_toNat (k := .i64) h1
  have e2 := ofNat_toNat (k := .i64) h2
  simp only [IntKind.bits] at e1 e2
  rw [BitVec.toNat_and, e1, e2]
  exact wrap_u (Nat.lt_of_le_of_lt Nat.and_le_left h1)
noncomputable def s5 (n : Int) (a b t : Bool) (k : Int) : St := (Tput (s4 n a b t).1 (some 29) (.int .i64 k), (s4 n a b t).2)
noncomputable def s6 (n : Int) (a b t : Bool) (k : Int) : St := goes lb (s5 n a b t k)
/-! ### What is known of calls, for one letter -/
def str (l : List UInt8) : Value := .string ⟨⟨l⟩⟩
def opK (c : UInt8) : Value := .agg #[.int .i64 5, str [119], str [99], str [], str [], str [118], str [99, c], .int .i64 0, .int .i64 0]
def checkM (c : UInt8) : Memo := ⟨36, [opK c], .int .i64 0⟩
def ofM (a b : List UInt8) (r : Int) : Memo := ⟨42, [str a, str b], .tuple #[.int .i64 r, .int .i64 0]⟩
def facts (c : UInt8) (r : Int) : List Memo := [awakeM, checkM c, ofM [119] [99] 6, ofM [118] [99, c] r]
theorem ofOk : MemoOk Tryd.prog (ofM [119] [99] 6) := memo_of_quick (quickB_sound noneK_sound 40) rfl rfl (by kernel_rfl)
theorem facts_ok {c : UInt8} {r : Int} (h1 : MemoOk Tryd.prog (checkM c)) (h2 : MemoOk Tryd.prog (ofM [118] [99, c] r)) : ∀ x ∈ facts c r, MemoOk Tryd.prog x := by
  intro x hx
  simp only [facts, List.mem_cons, List.not_mem_nil, or_false] at hx
  rcases hx with rfl | rfl | rfl | rfl
  · exact awakeOk
  · exact h1
  · exact ofOk
  · exact h2
noncomputable def CK (c : UInt8) (r : Int) : CallB := quickB (memoK (facts c r)) 40
noncomputable def DK (c : UInt8) (r : Int) : DrawB := drawB Tryd.prog enters (CK c r)
noncomputable def ends (c : UInt8) (r : Int) (n : Int) (a b t : Bool) (k : Int) : Option Value := endS Tryd.prog enters (CK c r) (DK c r) 1000 Tryd.f4 rest (s6 n a b t k)
/-- All that is asked of one letter. -/
noncomputable def good (c : UInt8) (r : Int) (n : Int) (a b t : Bool) (k : Int) : Bool := oks lb (s5 n a b t k) && (match ends c r n a b t k with | some (.bool true) => true | _ => false)
noncomputable def goodK (c : UInt8) (r : Int) (n : Int) (k : Int) : Bool := (good c r n true true true k && good c r n true true false k) && ((good c r n true false true k && good c r n true false false k) && ((good c r n false true true k && good c r n false true false k) && (good c r n false false true k && good c r n false false false k)))
structure Letter (k : Int) : Prop where
  ex : ∃ (c : UInt8) (r : Int), MemoOk Tryd.prog (checkM c) ∧ MemoOk Tryd.prog (ofM [118] [99, c] r) ∧ ∀ n, goodK c r n k = true
end Go.Proofs.YtclcobiaiedpbaaDoor.metaErrors
