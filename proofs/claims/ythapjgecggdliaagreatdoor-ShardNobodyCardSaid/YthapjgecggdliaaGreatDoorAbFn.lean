import Derived.Test.YthapjgecggdliaaGreatDoorAbFm
namespace Go.Ab
open Go Go.RowKit
section
variable {P : Program} {G n : Nat} {enters : FuncId → FKind} {CB : CallB} {CC : CallC} {DB : DrawB} {DC : DrawC}
/-- Rounds of a loop, the last of which leaves it. -/
theorem rounds_loopB (hE : Enters P enters) (hz : ZF P) (hC : CallSound P G (callOf CB)) (hD : DrawGood P G (fun ops T h => (DB ops).un T h)) {K : Nat} {c : Code} (hp : plansOk P c = true) (hok : codeOk G n c = true)
    {B : Base} {Q : Exit → Act → World → Prop} {id : Nat} {T' : Tree Value} {h' : AHeap} : ∀ (k : Nat) (T : Tree Value) (h : AHeap) (m : Mu) (a : Act) (w : World),
    loopB (codeB P enters CB DB K c).un k T h = .exit id T' h' → TRel m n T a.tmps → Rel P B m h w → GRel G m →
    (∀ m' a' w', GRel G m' → TRel m' n T' a'.tmps → a'.defers = a.defers → Rel P B m' h' w' → Q (.exit id) a' w') → Code.rounds P c Q k a w := by
  intro k
  induction k with
  | zero => intro T h m a w q; cases q
  | succ k ih =>
    intro T h m a w q hT hr hG hk
    have q' : (match (codeB P enters CB DB K c).un T h with | .normal T' h' => loopB (codeB P enters CB DB K c).un k T' h' | .none => .none | .exit id T' h' => .exit id T' h' | .ret T' h' => .ret T' h') = RC.exit id T' h' := q
    rw [rounds_succ]
    split at q'
    · rename_i T2 h2 h1
      obtain ⟨_, q2⟩ := codeB_sound (n := n) hE hz hC hD K c hp _ _ .normal _ _ h1
      refine q2 B m a w _ hok hT hr hG ?_
      intro m' a' w' c1 c2 c3 c4
      exact ih _ _ m' a' w' q' c2 c4 (hG.mono c1.1) fun m2 a2 w2 d1 d2 d3 d4 => hk m2 a2 w2 d1 d2 (d3.trans c3) d4
    · cases q'
    · rename_i id2 T2 h2 h1
      cases q'
      obtain ⟨_, q2⟩ := codeB_sound (n := n) hE hz hC hD K c hp _ _ (.exit id) _ _ h1
      refine q2 B m a w _ hok hT hr hG ?_
      intro m' a' w' c1 c2 c3 c4
      exact hk m' a' w' (hG.mono c1.1) c2 c3 c4
    · cases q'
/-- The same by the run that is told: K rounds, then out. -/
noncomputable def exitC (P : Program) (enters : FuncId → FKind) (CB : CallB) (CC : CallC) (DC : DrawC) (mk : Mk) (K : Nat) (id : Nat) (c : Code) (s : Tree Value × AHeap) (tp : Tape) : SC :=
  match (codeC P enters CB CC DC mk K (.loop c)).un s.1 s.2 tp [] with
  | .exit id' T h tp lg => ⟨(T, h), tp, lg, Nat.beq id' id⟩
  | _ => ⟨s, tp, [], false⟩
theorem exitC_wp (hE : Enters P enters) (hz : ZF P) (hC : CallSound P G (callOf CB)) (hCC : CallEq CB CC) (hDC : DrawEq DB DC) (hD : DrawGood P G (fun ops T h => (DB ops).un T h)) {mk : Mk} {K : Nat} {id : Nat} {c : Code} {s : Tree Value × AHeap} {tp : Tape} {B : Base} {m : Mu} {a : Act} {w : World} {Q : Exit → Act → World → Prop} {x : SC}
    (hp : plansOk P c = true) (hok : codeOk G n c = true) (hx : exitC P enters CB CC DC mk K id c s tp = x) (hs : x.ok = true) (hl : NotedOk x.lg) (hT : TRel m n s.1 a.tmps) (hr : Rel P B m s.2 w) (hG : GRel G m)
    (hk : ∀ m' a' w', GRel G m' → TRel m' n x.s.1 a'.tmps → a'.defers = a.defers → Rel P B m' x.s.2 w' → Q (.exit id) a' w') : Code.rounds P c Q K a w := by
  subst hx
  have q := codeC_eq (P := P) (enters := enters) (DB := DB) hCC hDC mk K (.loop c) s.1 s.2 tp []
  unfold exitC at hs hl hk
  revert hs hl hk q
  cases (codeC P enters CB CC DC mk K (.loop c)).un s.1 s.2 tp [] with
  | exit id' T' h' tp' lg' =>
    intro hs hl hk q
    obtain rfl := Nat.eq_of_beq_eq_true hs
    have q2 := (q hl).2
    simp only [codeB] at q2
    exact rounds_loopB hE hz hC hD hp hok K _ _ m a w q2 hT hr hG hk
  | _ => intro hs; cases hs
end
/-! ### 'x & c' -/
def bandF (x : Int) (c : Nat) : Int := bitI Nat.land (IntKind.i64.wrap ((BitVec.ofInt 64 x &&& BitVec.ofInt 64 (Int.ofNat c)).toNat : Int)) .i64 x (Int.ofNat c)
theorem bandF_eq (x : Int) (c : Nat) : bandF x c = IntKind.i64.wrap ((BitVec.ofInt 64 x &&& BitVec.ofInt 64 (Int.ofNat c)).toNat : Int) := by
  refine bitI_eq ?_
  rintro m k rfl hk h1 h2
  obtain rfl : c = k := by cases hk; rfl
  have e1 := ofNat_toNat (k := .i64) h1
  have e2 := ofNat_toNat (k := .i64) h2
  simp only [IntKind.bits] at e1 e2
  rw [BitVec.toNat_and, e1, e2]
  exact wrap_u (Nat.lt_of_le_of_lt Nat.and_le_left h1)
theorem bandF_lt (x : Int) {c : Nat} (hc : c < topOf .i64) : ∃ k : Nat, k ≤ c ∧ bandF x c = Int.ofNat k := by
  have e2 := ofNat_toNat (k := .i64) hc
  simp only [IntKind.bits] at e2
  have h : (BitVec.ofInt 64 x &&& BitVec.ofInt 64 (Int.ofNat c)).toNat ≤ c := by
    rw [BitVec.toNat_and, e2]
    exact Nat.and_le_right
  refine ⟨_, h, ?_⟩
  rw [bandF_eq]
  exact wrap_u (Nat.lt_of_le_of_lt h hc)
end Go.Ab
