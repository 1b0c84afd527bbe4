/- How many bytes all files of a disk have: what is known of it, by its run. -/
import Derived.Test.YtdkomnkcemmdoaaGreatDoorEvX
namespace Go.Proofs.YtdkomnkcemmdoaaGreatDoor.node
open Go Go.Ab
set_option maxRecDepth 100000
def mkU : Marks := with4 [(57, [17])] (marksIn [(57, [19], [], [])])
noncomputable def drawU : CallB → DrawB := drawB Tryz.prog enters
noncomputable def drawcU : CallB → CallC → DrawC := drawC Tryz.prog enters
noncomputable def CBu : CallB := quickB noneK 40
noncomputable def CCu : CallC := callC Tryz.prog enters FT noneK drawU drawcU mkU 1048576 40
theorem CBuok : CallSound Tryz.prog 7 (callOf CBu) := quickB_sound noneK_sound 40
theorem CCuok : CallEq CBu CCu := callC_eq (fun _ _ h => drawC_eq h) mkU 1048576 40
def sl (B : Nat → Option Addr) (n c : Nat → Nat) (i : Nat) : Value := .slice (B i) (n i) (c i)
def ac (a : Nat → Nat) (i : Nat) : Int := match i with
  | 0 => 0
  | i + 1 => .ofNat (a (i + 1))
def tapeU (B : Nat → Option Addr) (n c a : Nat → Nat) : Nat → Nat → Ab.Tape
  | 0, _ => []
  | k + 1, i => sl B n c i :: i64 (.ofNat (a (i + 1))) :: tapeU B n c a k (i + 1)
noncomputable def notesU (b : Nat) (h : AHeap) (B : Nat → Option Addr) (n c a : Nat → Nat) : Nat → Nat → Noted
  | 0, _ => []
  | k + 1, i => ((ldO Tryz.prog 58).un (heapGet h b) (1 + i * 2) = some (sl B n c i)) :: pr (i64 (wrapF .i64 (Int.add (ac a i) (.ofNat (n i))))) (i64 (.ofNat (a (i + 1)))) :: notesU b h B n c a k (i + 1)
def outL (r : Option OutC) : Option (Value × AHeap × Noted) := match r with
  | some x => some (x.v, x.h, x.lg)
  | none => none
theorem runU (b : Nat) (h : AHeap) (B : Nat → Option Addr) (n c a : Nat → Nat) :
    outL ((CCu 57).un #[ptrTo b] h (tapeU B n c a 256 0) []) = some (i64 (.ofNat (a 256)), h, revN (notesU b h B n c a 256 0) []) := by kernel_rfl
/-! ### What it comes to -/
noncomputable def sumU (L : Row) : Nat → Nat → Nat → Option Nat
  | 0, _, x => some x
  | k + 1, i, x => match rowGet L (1 + i * 2) with
    | some (.slice _ n _) => (match Nat.ble (x + n) 1099511627776 with | true => sumU L k (i + 1) (x + n) | false => none)
    | _ => none
noncomputable def usedG (args : Array Value) (h : AHeap) : Option (Value × AHeap) := match args with
  | ⟨[.pointer (some ⟨b, 0, none⟩)]⟩ => (match heapGet h b with
    | .cells L _ => (match sumU L 256 0 0 with
      | some r => some (i64 (.ofNat r), h)
      | none => none)
    | _ => none)
  | _ => none
noncomputable def usedK : Known := fun f => match Nat.beq f 57 with
  | true => some usedG
  | false => none
def baseF (L : Row) (i : Nat) : Option Addr := match L.get? (1 + i * 2) with
  | some (.slice b _ _) => b
  | _ => none
def lenF (L : Row) (i : Nat) : Nat := match L.get? (1 + i * 2) with
  | some (.slice _ n _) => n
  | _ => 0
def capF (L : Row) (i : Nat) : Nat := match L.get? (1 + i * 2) with
  | some (.slice _ _ c) => c
  | _ => 0
def accF (L : Row) : Nat → Nat
  | 0 => 0
  | i + 1 => accF L i + lenF L i
theorem sumU_some {L : Row} : ∀ (k i r : Nat), sumU L k i (accF L i) = some r → r = accF L (i + k) ∧ ∀ j, i ≤ j → j < i + k → L.get? (1 + j * 2) = some (sl (baseF L) (lenF L) (capF L) j) ∧ accF L (j + 1) ≤ 1099511627776 := by
  intro k
  induction k with
  | zero => intro i r h; cases h; exact ⟨rfl, fun j h1 h2 => by omega⟩
  | succ k ih =>
    intro i r h
    simp only [sumU] at h
    split at h
    · rename_i b n c hg
      split at h
      · rename_i hb
        rw [Nat.ble_eq] at hb
        rw [rowGet_eq] at hg
        have e1 : lenF L i = n := by simp only [lenF, hg]
        have e2 : sl (baseF L) (lenF L) (capF L) i = .slice b n c := by simp only [sl, baseF, lenF, capF, hg]
        have e3 : accF L (i + 1) = accF L i + n := by simp only [accF, e1]
        rw [← e3] at h
        obtain ⟨q1, q2⟩ := ih (i + 1) r h
        refine ⟨by rw [q1]; congr 1; omega, fun j h1 h2 => ?_⟩
        by_cases e : j = i
        · subst e
          exact ⟨by rw [hg, e2], by rw [e3]; exact hb⟩
        · exact q2 j (by omega) (by omega)
      · cases h
    · cases h
theorem wadd {a b : Nat} (h : a + b ≤ 1099511627776) : wrapF .i64 (Int.add (.ofNat a) (.ofNat b)) = .ofNat (a + b) := by
  rw [wrapF_eq]
  exact wrap_u (k := .i64) (Nat.lt_of_le_of_lt h (by decide))
theorem ldU {b : Nat} {h : AHeap} {L : Row} {t : TypeId} (hg : heapGet h b = .cells L t) (o : Nat) : (ldO Tryz.prog 58).un (heapGet h b) o = L.get? o := by
  rw [hg, ← rowGet_eq]
  have e : (ldO Tryz.prog 58).un = fun ob o => match rowIn ob with | some c => rowGet c o | none => none := by kernel_rfl
  rw [e]
  rfl
theorem notesU_ok {b : Nat} {h : AHeap} {L : Row} {t : TypeId} (hg : heapGet h b = .cells L t) : ∀ (k i : Nat), (∀ j, i ≤ j → j < i + k → L.get? (1 + j * 2) = some (sl (baseF L) (lenF L) (capF L) j) ∧ accF L (j + 1) ≤ 1099511627776) →
    NotedOk (notesU b h (baseF L) (lenF L) (capF L) (accF L) k i) := by
  intro k
  induction k with
  | zero => intro i _; exact NotedOk.nil
  | succ k ih =>
    intro i hall
    obtain ⟨q1, q2⟩ := hall i (Nat.le_refl _) (by omega)
    refine NotedOk.cons ?_ (NotedOk.cons ?_ (ih (i + 1) fun j h1 h2 => hall j (by omega) (by omega)))
    · rw [ldU hg]; exact q1
    · have e : ac (accF L) i = .ofNat (accF L i) := by cases i <;> rfl
      unfold pr
      rw [e, wadd (show accF L i + lenF L i ≤ _ from q2)]
      rfl
theorem usedK_sound : CallSound Tryz.prog 7 usedK.call := by
  refine known_of_eq CBuok fun f g args hp r hf hr => ?_
  unfold usedK at hf
  split at hf
  · rename_i hb
    rw [Nat.beq_eq] at hb
    subst hb
    obtain rfl := Option.some.inj hf
    unfold usedG at hr
    split at hr
    · rename_i b
      split at hr
      · rename_i L t hg
        split at hr
        · rename_i x hx
          obtain rfl := Option.some.inj hr
          obtain ⟨q1, q2⟩ := sumU_some 256 0 x hx
          have q := runU b hp (baseF L) (lenF L) (capF L) (accF L)
          revert q
          cases e : (CCu 57).un #[ptrTo b] hp (tapeU (baseF L) (lenF L) (capF L) (accF L) 256 0) [] with
          | none => intro q; cases q
          | some y =>
            intro q
            obtain ⟨v, h2, tp, lg⟩ := y
            simp only [outL, Option.some.injEq, Prod.mk.injEq] at q
            obtain ⟨rfl, rfl, rfl⟩ := q
            have := (CCuok _ _ _ _ _ _ e (revN_ok _ _ (notesU_ok hg 256 0 (fun j h1 h2 => q2 j h1 h2)) NotedOk.nil)).2
            rw [q1]
            exact this
        · cases hr
      · cases hr
    · cases hr
  · cases hf
end Go.Proofs.YtdkomnkcemmdoaaGreatDoor.node
