/- Texts: Cut at one byte. -/
import Derived.Test.YtbkgnlcjnimpcaaDoorStrD
namespace Go.Proofs.YtbkgnlcjnimpcaaDoor.strs.cut
open Go Go.Ab Go.RowKit Go.Proofs.YtbkgnlcjnimpcaaDoor.strs
set_option maxRecDepth 100000
def mk : Marks := marksIn [(56, [22, 30], [], []), (48, [20], [15, 21], [])]
def tupV (a b : List UInt8) (f : Bool) : Value := .tuple ⟨[str a, str b, .bool f]⟩
noncomputable def run (l : List UInt8) (c : UInt8) (tp : Ab.Tape) : Option OutC := (CCk noneK mk 36).un [str l, str [c]].toArray (bareOf 8) tp []
noncomputable def slN (l : List UInt8) (lo hi : Option Value) (a : List UInt8) : Prop := (ssB Tryd.prog 9).un (str l) lo hi = some (str a)
noncomputable def outN (l : List UInt8) (p : Nat) (a b : List UInt8) : Noted := [slN l none (some (e24 p)) a, pr (i64 (wrapF .i64 (Int.add (.ofNat p) 1))) (e24 (p + 1)), slN l (some (e24 (p + 1))) none b]
theorem run_same (l : List UInt8) (a b : List UInt8) : [(47 : UInt8), 64].map (fun c => saidOf (run l c [Tr, str a, e24 1, str b])) = [(47 : UInt8), 64].map (fun c => some (tupV a b true, revN (pr (.bool (eqL [c] l)) Tr :: outN l 0 a b) [])) := by kernel_rfl
theorem runAt (l : List UInt8) (p : Nat) (a b : List UInt8) : [(47 : UInt8), 64].map (fun c => saidOf (run l c [F, e24 p, str a, e24 (p + 1), str b])) = [(47 : UInt8), 64].map (fun c => some (tupV a b true, revN (pr (.bool (eqL [c] l)) F :: pr (i64 (idxF l (u8n c) 0)) (e24 p) :: outN l p a b) [])) := by kernel_rfl
theorem run_out (l : List UInt8) : [(47 : UInt8), 64].map (fun c => saidOf (run l c [F, i64 (-1)])) = [(47 : UInt8), 64].map (fun c => some (tupV l [] false, revN [pr (.bool (eqL [c] l)) F, pr (i64 (idxF l (u8n c) 0)) (i64 (-1))] [])) := by kernel_rfl
/-- Where a byte stands first. -/
def posOf (c : UInt8) (l : List UInt8) : Option Nat := l.findIdx? (fun x => x == c)
theorem idx_eq (c : UInt8) : ∀ (l : List UInt8) (i : Nat), idxF l (u8n c) i = match l.findIdx? (fun x => x == c) with | some k => .ofNat (i + k) | none => .negSucc 0 := by
  intro l
  induction l with
  | nil => intro i; rfl
  | cons x l ih =>
    intro i
    rw [List.findIdx?_cons]
    unfold idxF
    by_cases h : x = c
    · subst h
      rw [Nat.beq_refl]
      simp
    · have h1 : Nat.beq (u8n x) (u8n c) = false := beq_f (fun q => h (UInt8.toNat_inj.1 q))
      rw [h1]
      dsimp only
      rw [show (x == c) = false from by simpa using h]
      rw [ih (Nat.succ i)]
      cases l.findIdx? (fun x => x == c) with
      | none => rfl
      | some k => show Int.ofNat (i + 1 + k) = Int.ofNat (i + (k + 1)); rw [show i + 1 + k = i + (k + 1) by omega]
def cutV (c : UInt8) (l : List UInt8) : Value := match posOf c l with
  | some p => tupV (l.take p) (l.drop (p + 1)) true
  | none => tupV l [] false
theorem sl_ok {l : List UInt8} {lo hi : Option Value} {x y : Nat} (hl : lo = some (e24 x) ∨ lo = none ∧ x = 0) (hh : hi = some (e24 y) ∨ hi = none ∧ y = l.length) (hxy : x ≤ y) (hy : y ≤ l.length) : slN l lo hi ((l.drop x).take (y - x)) := by
  unfold slN ssB
  rw [und9]
  have hb : ∀ (o : Option Value) (d z : Nat) (f : Nat → Option Value), (o = some (e24 z) ∨ o = none ∧ z = d) → boundF o d f = f z := by
    intro o d z f h
    rcases h with rfl | ⟨rfl, rfl⟩ <;> rfl
  show boundF hi (lenL l) (fun b => boundF lo 0 (fun a => match Nat.ble b (lenL l), Nat.ble a b with | true, true => some (.string ⟨⟨takeL' (Nat.sub b a) (dropL a l)⟩⟩) | _, _ => none)) = _
  rw [hb hi (lenL l) y _ (by rw [lenL_len]; exact hh), hb lo 0 x _ hl, lenL_len, show Nat.ble y l.length = true by rw [Nat.ble_eq]; exact hy, show Nat.ble x y = true by rw [Nat.ble_eq]; exact hxy]
  dsimp only
  rw [takeL'_eq, dropL_eq]
  rfl
theorem pos_lt {c : UInt8} {l : List UInt8} {p : Nat} (h : posOf c l = some p) : p < l.length := by
  obtain ⟨h1, _⟩ := List.findIdx?_eq_some_iff_getElem.1 h
  exact h1
theorem outN_ok {l : List UInt8} {p : Nat} (hp : p < l.length) (hl : l.length < 9223372036854775807) : NotedOk (outN l p (l.take p) (l.drop (p + 1))) := by
  refine NotedOk.cons ?_ (NotedOk.cons (congrArg i64 (wadd (a := p) (b := 1) (by omega))) (NotedOk.cons ?_ NotedOk.nil))
  · have := sl_ok (l := l) (lo := none) (hi := some (e24 p)) (x := 0) (y := p) (.inr ⟨rfl, rfl⟩) (.inl rfl) (Nat.zero_le _) (by omega)
    rw [List.drop_zero, Nat.sub_zero] at this
    exact this
  · have := sl_ok (l := l) (lo := some (e24 (p + 1))) (hi := none) (x := p + 1) (y := l.length) (.inl rfl) (.inr ⟨rfl, rfl⟩) (by omega) (Nat.le_refl _)
    rw [List.take_of_length_le (by rw [List.length_drop]; exact Nat.le_refl _)] at this
    exact this
theorem cut_ok (c : UInt8) (hc : c ∈ [(47 : UInt8), 64]) (l : List UInt8) (hl : l.length < 9223372036854775807) : MemoOk Tryd.prog ⟨36, [str l, str [c]], cutV c l⟩ := by
  have hne : ∀ b, eqL [c] l = b → pr (.bool (eqL [c] l)) (bV b) := fun b h => congrArg Value.bool h
  have hi := idx_eq c l 0
  cases hp : posOf c l with
  | some p =>
    have hlt := pos_lt hp
    have hv : cutV c l = tupV (l.take p) (l.drop (p + 1)) true := by unfold cutV; rw [hp]
    rw [hv]
    cases he : eqL [c] l with
    | true =>
      have e : [c] = l := by rw [eqL_eq] at he; simpa using he
      have p0 : p = 0 := by rw [← e] at hlt; simpa using hlt
      subst p0
      exact memoK' (kn := noneK) (mk := mk) noneK_sound rfl rfl (map_mem (run_same l _ _) c hc) (revN_ok _ _ (NotedOk.cons (hne true he) (outN_ok hlt hl)) NotedOk.nil)
    | false =>
      refine memoK' (kn := noneK) (mk := mk) noneK_sound rfl rfl (map_mem (runAt l p _ _) c hc) (revN_ok _ _ (NotedOk.cons (hne false he) (NotedOk.cons ?_ (outN_ok hlt hl))) NotedOk.nil)
      unfold posOf at hp
      rw [hp] at hi
      exact congrArg i64 (hi.trans (congrArg Int.ofNat (Nat.zero_add p)))
  | none =>
    have hv : cutV c l = tupV l [] false := by unfold cutV; rw [hp]
    rw [hv]
    have he : eqL [c] l = false := by
      cases he : eqL [c] l with
      | false => rfl
      | true =>
        have e : [c] = l := by rw [eqL_eq] at he; simpa using he
        rw [← e] at hp
        simp [posOf] at hp
    refine memoK' (kn := noneK) (mk := mk) noneK_sound rfl rfl (map_mem (run_out l) c hc) (revN_ok _ _ (NotedOk.cons (hne false he) (NotedOk.cons ?_ NotedOk.nil)) NotedOk.nil)
    unfold posOf at hp
    rw [hp] at hi
    exact congrArg i64 hi
end Go.Proofs.YtbkgnlcjnimpcaaDoor.strs.cut
