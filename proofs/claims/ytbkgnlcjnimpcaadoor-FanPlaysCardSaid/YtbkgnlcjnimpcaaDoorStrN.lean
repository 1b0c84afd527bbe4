/- Texts: the digits of a number, by its number of digits. -/
import Derived.Test.YtbkgnlcjnimpcaaDoorStrM
namespace Go.Proofs.YtbkgnlcjnimpcaaDoor.strs.ita
open Go Go.Ab Go.RowKit Go.Proofs.YtbkgnlcjnimpcaaDoor.strs
open Go.Proofs.YtbkgnlcjnimpcaaDoor.strs.dig (tblO u64 MT memoT' digits_ok ixu_ok)
set_option maxRecDepth 100000
def g66 (f : Nat → Option Nat) (l : List Value) : Option Value := match l with
  | [.int .u64 (.ofNat u)] => match f u with | some k => some (e24 k) | none => none
  | _ => none
noncomputable def nd (u : Nat) : Option Nat := open Classical in if h : 1 ≤ u ∧ u < 4294967296 then some (Classical.choose (digits_ok h.1 h.2)) else none
theorem nd_ok {u : Nat} (h1 : 1 ≤ u) (h2 : u < 4294967296) : ∃ k, nd u = some k ∧ 1 ≤ k ∧ k ≤ 10 ∧ 10 ^ (k - 1) ≤ u ∧ u < 10 ^ k ∧ MT ⟨66, [u64 u], e24 k⟩ := by
  refine ⟨_, ?_, Classical.choose_spec (digits_ok h1 h2)⟩
  unfold nd
  rw [dif_pos ⟨h1, h2⟩]
noncomputable def kn66 : Known := pureT 66 5 tblO (g66 nd)
theorem kn66ok : Kok kn66 := pureT_sound (show 5 < 8 by decide) dig.tbl_plain fun l v h => by
  unfold g66 at h
  split at h
  · rename_i u
    split at h
    · rename_i k hk
      cases h
      have hu : 1 ≤ u ∧ u < 4294967296 := by
        unfold nd at hk
        split at hk
        · rename_i h; exact h
        · cases hk
      obtain ⟨k2, e, _, _, _, _, hm⟩ := nd_ok hu.1 hu.2
      rw [hk] at e
      obtain rfl := Option.some.inj e
      exact hm
    · cases h
  · cases h
noncomputable def is66 (u : Nat) (v : Value) : Prop := ∀ h' : AHeap, heapGet h' 5 = tblO → (CBk kn66 66).un ⟨[u64 u]⟩ h' = some (v, h')
open Classical in
theorem is66_ok {u k : Nat} (h : nd u = some k) : is66 u (e24 k) := fun h' hh => (CBk_known (kn := kn66) (f := 66) (g := fun args h => if heapGet h 5 = tblO then (match g66 nd (listOf args) with | some v => some (v, h) | none => none) else none) rfl _ h').trans (by
  rw [if_pos hh]
  show (match (match nd u with | some k => some (e24 k) | none => none) with | some v => some (v, h') | none => none) = _
  rw [h])
def mk : Marks := with10 [(55, [27])] 5 (marksIn [(55, [13, 16, 21, 23, 34], [], []), (67, [22, 23, 25, 27, 29, 31, 32, 34, 35, 37, 38, 40, 41, 49, 62, 75, 88, 97, 101, 103, 105, 106, 108, 109, 117, 130, 141, 142, 144, 152, 164, 165], [50, 52, 63, 65, 76, 78, 89, 91, 118, 120, 131, 133, 153, 155], [])])
def u32 (n : Nat) : Value := .int .u32 (.ofNat n)
noncomputable def w32 (n : Nat) : Value := .int .u32 (wrapF .u32 (.ofNat n))
noncomputable def run (n : Nat) (tp : Ab.Tape) : Option OutC := (CCk kn66 mk 55).un [e24 n, e24 10].toArray dig.hp tp []
def tab : List UInt8 := (List.range 100).flatMap fun j => [UInt8.ofNat (48 + j / 10), UInt8.ofNat (48 + j % 10)]
noncomputable def ixP (i x : Nat) : Prop := (ixB Tryd.prog 9).un (str tab) (u32 i) = some (b8 x)
/-- Two digits, from their place in the table on. -/
def pT (j : Nat) : Ab.Tape := [u32 (j * 2 + 1), b8 (48 + j % 10), b8 (48 + j / 10)]
noncomputable def pN (j : Nat) : Noted := [pr (w32 (j * 2 + 1)) (u32 (j * 2 + 1)), ixP (j * 2 + 1) (48 + j % 10), ixP (j * 2) (48 + j / 10)]
def mulT (j : Nat) : Ab.Tape := [u32 j, u32 (j * 2)]
noncomputable def divN (x k : Nat) : Noted := [pr (w32 (x / k)) (u32 (x / k)), pr (w32 (x / k * 2)) (u32 (x / k * 2))]
noncomputable def modN (x k : Nat) : Noted := [pr (u32 (x % k)) (u32 (x % k)), pr (w32 (x % k * 2)) (u32 (x % k * 2))]
def eT (u : Nat) : Ab.Tape := [u64 (u % 100000000), u32 (u % 100000000), u64 (u / 100000000), u32 (u % 100000000 / 10000), u32 (u % 100000000 % 10000)] ++
  mulT (u % 100000000 % 10000 / 100) ++ mulT (u % 100000000 % 10000 % 100) ++ mulT (u % 100000000 / 10000 / 100) ++ mulT (u % 100000000 / 10000 % 100) ++
  pT (u % 100000000 % 10000 % 100) ++ pT (u % 100000000 % 10000 / 100) ++ pT (u % 100000000 / 10000 % 100) ++ pT (u % 100000000 / 10000 / 100)
noncomputable def eN (u : Nat) : Noted := [pr (u64 (u % 100000000)) (u64 (u % 100000000)), pr (w32 (u % 100000000)) (u32 (u % 100000000)), pr (.int .u64 (wrapF .u64 (.ofNat (u / 100000000)))) (u64 (u / 100000000)), pr (w32 (u % 100000000 / 10000)) (u32 (u % 100000000 / 10000)), pr (u32 (u % 100000000 % 10000)) (u32 (u % 100000000 % 10000))] ++
  divN (u % 100000000 % 10000) 100 ++ modN (u % 100000000 % 10000) 100 ++ divN (u % 100000000 / 10000) 100 ++ modN (u % 100000000 / 10000) 100 ++
  pN (u % 100000000 % 10000 % 100) ++ pN (u % 100000000 % 10000 / 100) ++ pN (u % 100000000 / 10000 % 100) ++ pN (u % 100000000 / 10000 / 100)
def fT (u : Nat) : Ab.Tape := [u32 (u % 10000), u32 (u / 10000)] ++ mulT (u % 10000 / 100) ++ mulT (u % 10000 % 100) ++ pT (u % 10000 % 100) ++ pT (u % 10000 / 100)
noncomputable def fN (u : Nat) : Noted := [pr (u32 (u % 10000)) (u32 (u % 10000)), pr (w32 (u / 10000)) (u32 (u / 10000))] ++ divN (u % 10000) 100 ++ modN (u % 10000) 100 ++ pN (u % 10000 % 100) ++ pN (u % 10000 / 100)
def tT (u : Nat) : Ab.Tape := mulT (u % 100) ++ [u32 (u / 100)] ++ pT (u % 100)
noncomputable def tN (u : Nat) : Noted := modN u 100 ++ [pr (w32 (u / 100)) (u32 (u / 100))] ++ pN (u % 100)
def oT (u : Nat) : Ab.Tape := [u32 (48 + u), b8 (48 + u)]
noncomputable def oN (u : Nat) : Noted := [pr (w32 (48 + u)) (u32 (48 + u)), pr (.int .u8 (wrapF .u8 (.ofNat (48 + u)))) (b8 (48 + u))]
def cT (u : Nat) : Ab.Tape := [u32 u]
noncomputable def cN (u : Nat) : Noted := [pr (w32 u) (u32 u)]
def midT (n : Nat) : Nat → Ab.Tape
  | 3 => cT n ++ tT n ++ oT (n / 100)
  | 4 => cT n ++ fT n
  | 5 => cT n ++ fT n ++ oT (n / 10000)
  | 6 => cT n ++ fT n ++ tT (n / 10000)
  | 7 => cT n ++ fT n ++ tT (n / 10000) ++ oT (n / 10000 / 100)
  | 8 => eT n ++ cT (n / 100000000)
  | 9 => eT n ++ cT (n / 100000000) ++ oT (n / 100000000)
  | 10 => eT n ++ cT (n / 100000000) ++ tT (n / 100000000)
  | _ => []
noncomputable def midN (n : Nat) : Nat → Noted
  | 3 => cN n ++ tN n ++ oN (n / 100)
  | 4 => cN n ++ fN n
  | 5 => cN n ++ fN n ++ oN (n / 10000)
  | 6 => cN n ++ fN n ++ tN (n / 10000)
  | 7 => cN n ++ fN n ++ tN (n / 10000) ++ oN (n / 10000 / 100)
  | 8 => eN n ++ cN (n / 100000000)
  | 9 => eN n ++ cN (n / 100000000) ++ oN (n / 100000000)
  | 10 => eN n ++ cN (n / 100000000) ++ tN (n / 100000000)
  | _ => []
def one (d : Nat) : List UInt8 := [UInt8.ofNat (48 + d)]
def two (j : Nat) : List UInt8 := [UInt8.ofNat (48 + j / 10), UInt8.ofNat (48 + j % 10)]
def four (x : Nat) : List UInt8 := two (x / 100) ++ two (x % 100)
def eight (x : Nat) : List UInt8 := four (x / 10000) ++ four (x % 10000)
def digs (n : Nat) : Nat → List UInt8
  | 3 => one (n / 100) ++ two (n % 100)
  | 4 => four (n % 10000)
  | 5 => one (n / 10000) ++ four (n % 10000)
  | 6 => two (n / 10000 % 100) ++ four (n % 10000)
  | 7 => one (n / 10000 / 100) ++ two (n / 10000 % 100) ++ four (n % 10000)
  | 8 => eight (n % 100000000)
  | 9 => one (n / 100000000) ++ eight (n % 100000000)
  | 10 => two (n / 100000000 % 100) ++ eight (n % 100000000)
  | _ => []
noncomputable def headN (n k : Nat) : Noted := [pr (.bool (notB (intLt (.ofNat n) 0))) Tr, pr (.bool (intLt (.ofNat n) 100)) F, pr (.int .u64 (wrapF .u64 (.ofNat n))) (u64 n), pr (.bool (intLt (.ofNat n) 0)) F, is66 n (e24 k)]
noncomputable def negN (n : Nat) : Noted := [pr (.bool (intLt (.ofNat n) 0)) F]
def ks : List Nat := [3, 4, 5, 6, 7, 8, 9, 10]
theorem runs (n : Nat) : ks.map (fun k => saidOf (run n ([Tr, F, u64 n, F, e24 k] ++ midT n k ++ [F]))) = ks.map (fun k => some (str (digs n k), revN (headN n k ++ midN n k ++ negN n) [])) := by kernel_rfl
end Go.Proofs.YtbkgnlcjnimpcaaDoor.strs.ita
