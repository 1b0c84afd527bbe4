/- Texts: how many digits has a number? -/
import Derived.Test.YtbkgnlcjnimpcaaDoorStrL
namespace Go.Proofs.YtbkgnlcjnimpcaaDoor.strs.dig
open Go Go.Ab Go.RowKit Go.Proofs.YtbkgnlcjnimpcaaDoor.strs
set_option maxRecDepth 100000
def mk : Marks := marksIn [(78, [4, 8, 10, 14, 16, 21], [22], []), (66, [12], [], [])]
def u64 (n : Nat) : Value := .int .u64 (.ofNat n)
def pows : List Nat := [1, 10, 100, 1000, 10000, 100000, 1000000, 10000000, 100000000, 1000000000, 10000000000, 100000000000, 1000000000000, 10000000000000, 100000000000000, 1000000000000000, 10000000000000000, 100000000000000000, 1000000000000000000, 10000000000000000000]
def tblO : AObj := .ro (Row.ofList (pows.map u64)) 123
theorem tbl_plain : PlainRo tblO := ⟨⟨_, _, rfl⟩, fun c t h i v hv => by
  cases h
  rw [Row.ofList_get?, List.getElem?_map] at hv
  cases h2 : pows[i]? with
  | none => rw [h2] at hv; cases hv
  | some x => rw [h2] at hv; cases hv; rfl⟩
noncomputable def hp : AHeap := tblOf 8 5 tblO
abbrev MT (x : Memo) : Prop := MemoT Tryd.prog 8 5 tblO x
theorem memoT' {kn : Known} {mk : Marks} {f : Nat} {tp : Ab.Tape} {lg : Noted} (hk : Kok kn) {l : List Value} {v : Value} (ha : l.all (vflat 8) = true) (hv : vflat 8 v = true) (hx : saidOf ((CCk kn mk f).un l.toArray hp tp []) = some (v, lg)) (hl : NotedOk lg) : MT ⟨f, l, v⟩ := by
  unfold saidOf at hx
  split at hx
  · rename_i o ho
    simp only [Option.some.injEq, Prod.mk.injEq] at hx
    have := (CCkok kn mk _ _ _ _ _ _ ho (by rw [hx.2]; exact hl)).2
    exact memoT_of_run (show 5 < 8 by decide) tbl_plain (CBkok hk) ha hv (by show (((CBk kn f).un l.toArray hp).map (·.1)) = some v; rw [this, ← hx.1]; rfl)
  · cases hx
theorem memoT_of {x : Memo} (h : MemoOk Tryd.prog x) : MT x := ⟨h.1, h.2.1, fun W _ => h.2.2 W⟩
def tab8 : List UInt8 := [0, 1, 2, 2, 3, 3, 3, 3, 4, 4, 4, 4, 4, 4, 4, 4, 5, 5, 5, 5, 5, 5, 5, 5, 5, 5, 5, 5, 5, 5, 5, 5, 6, 6, 6, 6, 6, 6, 6, 6, 6, 6, 6, 6, 6, 6, 6, 6, 6, 6, 6, 6, 6, 6, 6, 6, 6, 6, 6, 6, 6, 6, 6, 6, 7, 7, 7, 7, 7, 7, 7, 7, 7, 7, 7, 7, 7, 7, 7, 7, 7, 7, 7, 7, 7, 7, 7, 7, 7, 7, 7, 7, 7, 7, 7, 7, 7, 7, 7, 7, 7, 7, 7, 7, 7, 7, 7, 7, 7, 7, 7, 7, 7, 7, 7, 7, 7, 7, 7, 7, 7, 7, 7, 7, 7, 7, 7, 7, 8, 8, 8, 8, 8, 8, 8, 8, 8, 8, 8, 8, 8, 8, 8, 8, 8, 8, 8, 8, 8, 8, 8, 8, 8, 8, 8, 8, 8, 8, 8, 8, 8, 8, 8, 8, 8, 8, 8, 8, 8, 8, 8, 8, 8, 8, 8, 8, 8, 8, 8, 8, 8, 8, 8, 8, 8, 8, 8, 8, 8, 8, 8, 8, 8, 8, 8, 8, 8, 8, 8, 8, 8, 8, 8, 8, 8, 8, 8, 8, 8, 8, 8, 8, 8, 8, 8, 8, 8, 8, 8, 8, 8, 8, 8, 8, 8, 8, 8, 8, 8, 8, 8, 8, 8, 8, 8, 8, 8, 8, 8, 8, 8, 8, 8, 8, 8, 8, 8, 8, 8, 8, 8, 8, 8, 8, 8, 8]
def bs : List Bool := [true, false]
def ls : List Nat := [1, 2, 3, 4, 5, 6, 7, 8]
structure Cs where
  f1 : Bool
  f2 : Bool
  b : Bool
  l : Nat
def cases8 : List Cs := bs.flatMap fun f1 => bs.flatMap fun f2 => bs.flatMap fun b => ls.map fun l => ⟨f1, f2, b, l⟩
def bitsOf (c : Cs) : Nat := (match c.f1 with | true => 16 | false => 0) + (match c.f2 with | true => 8 | false => 0) + c.l
def tenOf (c : Cs) : Nat := bitsOf c * 78913 / 262144
def yB (u : Nat) (f1 : Bool) : Nat := match f1 with | true => u / 65536 | false => u
def yOf (u : Nat) (c : Cs) : Nat := yB u c.f1
def zOf (u : Nat) (c : Cs) : Nat := match c.f2 with | true => yOf u c / 256 | false => yOf u c
def tapeT (u : Nat) (c : Cs) : Ab.Tape := F :: (match c.f1 with | true => [Tr, u64 (yOf u c)] | false => [F]) ++ (match c.f2 with | true => [Tr, u64 (zOf u c)] | false => [F]) ++ [b8 (zOf u c), b8 c.l, bV c.b]
noncomputable def geP (u k : Nat) (b : Bool) : Prop := pr (.bool (notB (intLt (.ofNat u) (.ofNat k)))) (bV b)
noncomputable def tabP (z l : Nat) : Prop := (ixB Tryd.prog 9).un (str tab8) (b8 z) = some (b8 l)
noncomputable def noteN (u : Nat) (c : Cs) : Noted := geP u 4294967296 false :: geP u 65536 c.f1 :: (match c.f1 with | true => [pr (u64 (u / 65536)) (u64 (yOf u c))] | false => []) ++ geP (yOf u c) 256 c.f2 :: (match c.f2 with | true => [pr (u64 (yOf u c / 256)) (u64 (zOf u c))] | false => []) ++
  [pr (.int .u8 (wrapF .u8 (.ofNat (zOf u c)))) (b8 (zOf u c)), tabP (zOf u c) c.l, geP u (10 ^ tenOf c) c.b]
noncomputable def run (u : Nat) (tp : Ab.Tape) : Option OutC := (CCk noneK mk 66).un [u64 u].toArray hp tp []
theorem runs (u : Nat) : cases8.map (fun c => saidOf (run u (tapeT u c))) = cases8.map (fun c => some (e24 (tenOf c + (match c.b with | true => 1 | false => 0)), revN (noteN u c) [])) := by kernel_rfl
theorem ixu_ok {k : IntKind} {l : List UInt8} {i : Nat} {x : UInt8} (h : l[i]? = some x) : (ixB Tryd.prog 9).un (str l) (.int k (.ofNat i)) = some (b8 (u8n x)) := by
  unfold ixB
  rw [und9]
  show (match nthL l i with | some n => some (Value.int .u8 (Int.ofNat n)) | none => none) = _
  rw [nthL_get, h]
  rfl
theorem tab_all : ∀ z : Fin 256, 1 ≤ z.1 → ∃ l : Fin 9, 1 ≤ l.1 ∧ (tab8[z.1]?).map u8n = some l.1 ∧ 2 ^ (l.1 - 1) ≤ z.1 ∧ z.1 < 2 ^ l.1 := by decide
theorem ten_all : ∀ c ∈ cases8, (tenOf c = 0 ∨ 10 ^ (tenOf c - 1) ≤ 2 ^ (bitsOf c - 1)) ∧ 2 ^ bitsOf c ≤ 10 ^ (tenOf c + 1) ∧ tenOf c + 1 ≤ 10 := by decide
theorem case_in (f1 f2 b : Bool) (l : Nat) (h1 : 1 ≤ l) (h2 : l ≤ 8) : (⟨f1, f2, b, l⟩ : Cs) ∈ cases8 := by
  obtain rfl | rfl | rfl | rfl | rfl | rfl | rfl | rfl : l = 1 ∨ l = 2 ∨ l = 3 ∨ l = 4 ∨ l = 5 ∨ l = 6 ∨ l = 7 ∨ l = 8 := by omega
  all_goals (cases f1 <;> cases f2 <;> cases b <;> simp [cases8, bs, ls])
theorem ge_ok {u k : Nat} {b : Bool} (h : decide (k ≤ u) = b) : geP u k b := by
  unfold geP
  cases b with
  | true => rw [lt_no (of_decide_eq_true h)]; rfl
  | false => rw [lt_yes (by have := of_decide_eq_false h; omega)]; rfl
theorem wrap8 {z : Nat} (h : z < 256) : wrapF .u8 (.ofNat z) = .ofNat z := by
  rw [wrapF_eq]
  exact wrap_u (show z < 256 from h)
theorem digits_ok {u : Nat} (h1 : 1 ≤ u) (h2 : u < 4294967296) : ∃ k, 1 ≤ k ∧ k ≤ 10 ∧ 10 ^ (k - 1) ≤ u ∧ u < 10 ^ k ∧ MT ⟨66, [u64 u], e24 k⟩ := by
  have key : ∀ f1 f2 : Bool, decide (65536 ≤ u) = f1 → decide (256 ≤ yB u f1) = f2 → ∃ k, 1 ≤ k ∧ k ≤ 10 ∧ 10 ^ (k - 1) ≤ u ∧ u < 10 ^ k ∧ MT ⟨66, [u64 u], e24 k⟩ := by
    intro f1 f2 hf1 hf2
    have hz : 1 ≤ zOf u ⟨f1, f2, false, 0⟩ ∧ zOf u ⟨f1, f2, false, 0⟩ < 256 := by
      cases f1 with
      | true =>
        have q1 := of_decide_eq_true hf1
        cases f2 with
        | true =>
          have q2 : 256 ≤ u / 65536 := of_decide_eq_true hf2
          show 1 ≤ u / 65536 / 256 ∧ u / 65536 / 256 < 256
          omega
        | false =>
          have q2 : ¬ 256 ≤ u / 65536 := of_decide_eq_false hf2
          show 1 ≤ u / 65536 ∧ u / 65536 < 256
          omega
      | false =>
        have q1 := of_decide_eq_false hf1
        cases f2 with
        | true =>
          have q2 : 256 ≤ u := of_decide_eq_true hf2
          show 1 ≤ u / 256 ∧ u / 256 < 256
          omega
        | false =>
          have q2 : ¬ 256 ≤ u := of_decide_eq_false hf2
          show 1 ≤ u ∧ u < 256
          omega
    obtain ⟨l, l1, l2, l3, l4⟩ := tab_all ⟨zOf u ⟨f1, f2, false, 0⟩, hz.2⟩ hz.1
    obtain ⟨b, hb⟩ : ∃ b, decide (10 ^ tenOf ⟨f1, f2, false, l.1⟩ ≤ u) = b := ⟨_, rfl⟩
    have hc := case_in f1 f2 b l.1 l1 (by omega)
    obtain ⟨t1, t2, t3⟩ := ten_all _ hc
    have eb : bitsOf ⟨f1, f2, b, l.1⟩ = bitsOf ⟨f1, f2, false, l.1⟩ := rfl
    have et : tenOf ⟨f1, f2, b, l.1⟩ = tenOf ⟨f1, f2, false, l.1⟩ := rfl
    have ez : zOf u ⟨f1, f2, b, l.1⟩ = zOf u ⟨f1, f2, false, 0⟩ := rfl
    have ey : yOf u ⟨f1, f2, b, l.1⟩ = yOf u ⟨f1, f2, false, 0⟩ := rfl
    have hbits : 2 ^ (bitsOf ⟨f1, f2, false, l.1⟩ - 1) ≤ u ∧ u < 2 ^ bitsOf ⟨f1, f2, false, l.1⟩ := by
      have hl8 : l.1 = 1 ∨ l.1 = 2 ∨ l.1 = 3 ∨ l.1 = 4 ∨ l.1 = 5 ∨ l.1 = 6 ∨ l.1 = 7 ∨ l.1 = 8 := by omega
      generalize l.1 = L at hl8 l3 l4
      cases f1 <;> cases f2 <;> simp only [yOf, zOf, yB] at l3 l4 <;> (obtain rfl | rfl | rfl | rfl | rfl | rfl | rfl | rfl := hl8) <;> simp only [bitsOf] <;> omega
    rw [et, eb] at *
    have hn : NotedOk (noteN u ⟨f1, f2, b, l.1⟩) := by
      have p1 : geP u 4294967296 false := ge_ok (decide_eq_false (by omega))
      have p2 : geP u 65536 f1 := ge_ok hf1
      have p3 : geP (yOf u ⟨f1, f2, b, l.1⟩) 256 f2 := ge_ok hf2
      have p4 : NotedOk [pr (.int .u8 (wrapF .u8 (.ofNat (zOf u ⟨f1, f2, b, l.1⟩)))) (b8 (zOf u ⟨f1, f2, b, l.1⟩)), tabP (zOf u ⟨f1, f2, b, l.1⟩) l.1, geP u (10 ^ tenOf ⟨f1, f2, b, l.1⟩) b] := by
        refine NotedOk.cons (congrArg (Value.int .u8) (wrap8 hz.2)) (NotedOk.cons ?_ (NotedOk.cons (ge_ok hb) NotedOk.nil))
        cases hx : tab8[zOf u ⟨f1, f2, false, 0⟩]? with
        | none => rw [hx] at l2; cases l2
        | some x =>
          rw [hx] at l2
          have := ixu_ok (k := .u8) hx
          rw [Option.some.inj l2] at this
          exact this
      unfold noteN
      cases f1 with
      | true => cases f2 with
        | true => exact NotedOk.cons p1 (NotedOk.cons p2 (NotedOk.cons rfl (NotedOk.cons p3 (NotedOk.cons rfl p4))))
        | false => exact NotedOk.cons p1 (NotedOk.cons p2 (NotedOk.cons rfl (NotedOk.cons p3 p4)))
      | false => cases f2 with
        | true => exact NotedOk.cons p1 (NotedOk.cons p2 (NotedOk.cons p3 (NotedOk.cons rfl p4)))
        | false => exact NotedOk.cons p1 (NotedOk.cons p2 (NotedOk.cons p3 p4))
    have hm := memoT' (kn := noneK) (mk := mk) noneK_sound rfl rfl (map_mem (runs u) _ hc) (revN_ok _ _ hn NotedOk.nil)
    cases b with
    | true =>
      have hb' := of_decide_eq_true hb
      refine ⟨tenOf ⟨f1, f2, false, l.1⟩ + 1, by omega, t3, hb', ?_, hm⟩
      exact Nat.lt_of_lt_of_le hbits.2 t2
    | false =>
      have hb' := of_decide_eq_false hb
      have ht : tenOf ⟨f1, f2, false, l.1⟩ ≠ 0 := by
        intro e
        rw [e] at hb'
        omega
      refine ⟨tenOf ⟨f1, f2, false, l.1⟩, by omega, by omega, ?_, by omega, hm⟩
      rcases t1 with t1 | t1
      · exact absurd t1 ht
      · exact Nat.le_trans t1 hbits.1
  exact key _ _ rfl rfl
end Go.Proofs.YtbkgnlcjnimpcaaDoor.strs.dig
