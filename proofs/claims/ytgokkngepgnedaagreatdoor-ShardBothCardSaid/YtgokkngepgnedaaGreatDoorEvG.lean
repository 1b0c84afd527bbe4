/- The evaluator over an abstract memory, proved sound: part 7. -/
import Derived.Test.YtgokkngepgnedaaGreatDoorEvF
import Derived.Laws.Externs
import Derived.OpenShut
import Derived.Recover
import Derived.RangeFuncLeaves
import Derived.RangeFuncRecord
import Derived.RangeFuncCalls
import Derived.LoopNIn
import Derived.TacticsIn
namespace Go.Ab
open Go Go.RowKit

/-! ## A body, part by part, by the run that is told -/
structure SC where
  s : Tree Value × AHeap
  tp : Tape
  lg : Noted
  ok : Bool
section
variable {P : Program} {G n : Nat} {enters : FuncId → FKind} {CB : CallB} {CC : CallC} {DB : DrawB} {DC : DrawC}
noncomputable def goC (P : Program) (enters : FuncId → FKind) (CB : CallB) (CC : CallC) (DC : DrawC) (mk : Mk) (K : Nat) (r : Code) (s : Tree Value × AHeap) (tp : Tape) : SC :=
  match (codeC P enters CB CC DC mk K r).un s.1 s.2 tp [] with
  | .normal T h tp lg => ⟨(T, h), tp, lg, true⟩
  | _ => ⟨s, tp, [], false⟩
theorem goC_wp (hE : Enters P enters) (hz : ZF P) (hC : CallSound P G (callOf CB)) (hCC : CallEq CB CC) (hDC : DrawEq DB DC) (hD : DrawGood P G (fun ops T h => (DB ops).un T h)) {mk : Mk} {K : Nat} {r : Code} {s : Tree Value × AHeap} {tp : Tape} {B : Base} {m : Mu} {a : Act} {w : World} {Q : Exit → Act → World → Prop} {x : SC}
    (hp : plansOk P r = true) (hok : codeOk G n r = true) (hx : goC P enters CB CC DC mk K r s tp = x) (hs : x.ok = true) (hl : NotedOk x.lg) (hT : TRel m n s.1 a.tmps) (hr : Rel P B m s.2 w) (hG : GRel G m)
    (hk : ∀ m' a' w', GRel G m' → TRel m' n x.s.1 a'.tmps → a'.defers = a.defers → Rel P B m' x.s.2 w' → Q .normal a' w') : r.wp P Q a w := by
  subst hx
  have q := codeC_eq (P := P) (enters := enters) (DB := DB) hCC hDC mk K r s.1 s.2 tp []
  unfold goC at hs hl hk
  revert q hs hl hk
  cases (codeC P enters CB CC DC mk K r).un s.1 s.2 tp [] with
  | normal T' h' tp' lg' =>
    intro hs hl hk q
    obtain ⟨_, q2⟩ := codeB_sound (n := n) hE hz hC hD K r hp _ _ .normal _ _ (q hl).2
    exact q2 B m a w Q hok hT hr hG fun m' a' w' c1 c2 c3 c4 => hk m' a' w' (hG.mono c1.1) c2 c3 c4
  | _ => intro hs; cases hs

/-- So many rounds of a loop, none of which leaves it. -/
noncomputable def roundsC (f : Tree Value → AHeap → Tape → Noted → RCC) (K : Nat) : Tree Value × AHeap → Tape → Noted → SC :=
  Nat.rec (motive := fun _ => Tree Value × AHeap → Tape → Noted → SC) (fun s tp lg => ⟨s, tp, lg, true⟩) (fun _ ih s tp lg => match f s.1 s.2 tp lg with | .normal T' h' tp' lg' => ih (T', h') tp' lg' | _ => ⟨s, tp, lg, false⟩) K
theorem roundsC_wp (hE : Enters P enters) (hz : ZF P) (hC : CallSound P G (callOf CB)) (hCC : CallEq CB CC) (hDC : DrawEq DB DC) (hD : DrawGood P G (fun ops T h => (DB ops).un T h)) {mk : Mk} {K : Nat} {c : Code} (hp : plansOk P c = true) (hok : codeOk G n c = true)
    {B : Base} {Q : Exit → Act → World → Prop} {r : Nat} : ∀ (k : Nat) (s : Tree Value × AHeap) (tp : Tape) (lg : Noted) (x : SC) (m : Mu) (a : Act) (w : World),
    roundsC (codeC P enters CB CC DC mk K c).un k s tp lg = x → x.ok = true → NotedOk x.lg → TRel m n s.1 a.tmps → Rel P B m s.2 w → GRel G m →
    (∀ m' a' w', GRel G m' → TRel m' n x.s.1 a'.tmps → a'.defers = a.defers → Rel P B m' x.s.2 w' → Code.rounds P c Q r a' w') → NotedOk lg ∧ Code.rounds P c Q (r + k) a w := by
  intro k
  induction k with
  | zero =>
    intro s tp lg x m a w hx hs hl hT hr hG hk
    subst hx
    exact ⟨hl, hk m a w hG hT rfl hr⟩
  | succ k ih =>
    intro s tp lg x m a w hx hs hl hT hr hG hk
    have hx' : (match (codeC P enters CB CC DC mk K c).un s.1 s.2 tp lg with | .normal T' h' tp' lg' => roundsC (codeC P enters CB CC DC mk K c).un k (T', h') tp' lg' | _ => ⟨s, tp, lg, false⟩) = x := hx
    have q := codeC_eq (P := P) (enters := enters) (DB := DB) hCC hDC mk K c s.1 s.2 tp lg
    revert hx' q
    cases (codeC P enters CB CC DC mk K c).un s.1 s.2 tp lg with
    | normal T' h' tp' lg' =>
      intro hx' q
      have base : NotedOk lg' → (codeB P enters CB DB K c).un s.1 s.2 = .normal T' h' → NotedOk lg ∧ Code.rounds P c Q (r + (k + 1)) a w := by
        intro hl' hb
        refine ⟨(q hl').1, ?_⟩
        show Code.rounds P c Q ((r + k) + 1) a w
        rw [rounds_succ]
        obtain ⟨_, q2⟩ := codeB_sound (n := n) hE hz hC hD K c hp _ _ .normal _ _ hb
        refine q2 B m a w _ hok hT hr hG ?_
        intro m' a' w' c1 c2 c3 c4
        exact (ih (T', h') tp' lg' x m' a' w' hx' hs hl c2 c4 (hG.mono c1.1) fun m2 a2 w2 d1 d2 d3 d4 => hk m2 a2 w2 d1 d2 (d3.trans c3) d4).2
      have hlg : NotedOk lg' := by
        clear base q hT hr hG hk
        have mono : ∀ (k : Nat) (s : Tree Value × AHeap) (tp : Tape) (lg : Noted) (x : SC), roundsC (codeC P enters CB CC DC mk K c).un k s tp lg = x → x.ok = true → NotedOk x.lg → NotedOk lg := by
          intro k
          induction k with
          | zero => intro s tp lg x hx _ hl; subst hx; exact hl
          | succ k ihk =>
            intro s tp lg x hx hs hl
            have hx' : (match (codeC P enters CB CC DC mk K c).un s.1 s.2 tp lg with | .normal T' h' tp' lg' => roundsC (codeC P enters CB CC DC mk K c).un k (T', h') tp' lg' | _ => ⟨s, tp, lg, false⟩) = x := hx
            have q := codeC_eq (P := P) (enters := enters) (DB := DB) hCC hDC mk K c s.1 s.2 tp lg
            revert hx' q
            cases (codeC P enters CB CC DC mk K c).un s.1 s.2 tp lg with
            | normal T2 h2 tp2 lg2 => intro hx' q; exact (q (ihk _ _ _ _ hx' hs hl)).1
            | _ => intro hx' q; subst hx'; cases hs
        exact mono k _ _ _ _ hx' hs hl
      exact base hlg (q hlg).2
    | _ => intro hx' q; subst hx'; cases hs

/-- A loop to its end, and what stands behind it, to the function's end. -/
noncomputable def lastC (P : Program) (enters : FuncId → FKind) (CB : CallB) (CC : CallC) (DC : DrawC) (mk : Mk) (K : Nat) (fn : Func) (r : Code) (s : Tree Value × AHeap) (tp : Tape) : Option OutC :=
  match (codeC P enters CB CC DC mk K r).un s.1 s.2 tp [] with
  | .ret T h tp lg => (match (resB P fn.results.toList).un h T with | some vs => some ⟨oneA vs, h, tp, lg⟩ | none => none)
  | _ => none
theorem lastC_wp (hE : Enters P enters) (hz : ZF P) (hC : CallSound P G (callOf CB)) (hCC : CallEq CB CC) (hDC : DrawEq DB DC) (hD : DrawGood P G (fun ops T h => (DB ops).un T h)) {mk : Mk} {K : Nat} {r : Code} {s : Tree Value × AHeap} {tp : Tape} {fn : Func} {W : World} {m : Mu} {a : Act} {w : World} {v : Value} {x : OutC}
    (hp : plansOk P r = true) (hok : codeOk G n r = true) (hv : vflat 8 v = true) (hx : lastC P enters CB CC DC mk K fn r s tp = some x) (hxv : x.v = v) (hl : NotedOk x.lg) (hT : TRel m n s.1 a.tmps) (hr : Rel P (baseOf W) m s.2 w) (hG : GRel G m) (hd : a.defers = []) :
    r.wp P (bodyPost P fn fun e w' => e = .returned v ∧ Below W.heap.size W w') a w := by
  subst hxv
  have q := codeC_eq (P := P) (enters := enters) (DB := DB) hCC hDC mk K r s.1 s.2 tp []
  unfold lastC at hx
  revert q hx
  cases (codeC P enters CB CC DC mk K r).un s.1 s.2 tp [] with
  | ret T' h' tp' lg' =>
    intro hx q
    dsimp only at hx
    split at hx
    · rename_i vs hvs
      cases hx
      obtain ⟨_, q2⟩ := codeB_sound (n := n) hE hz hC hD K r hp _ _ .ret _ _ (q hl).2
      refine q2 (baseOf W) m a w _ hok hT hr hG ?_
      intro m' a' w' c1 c2 c3 c4
      obtain ⟨v', r1, r2⟩ := results_sound c4 c2 (resB_some hvs)
      exact ⟨c3.trans hd, v', r1, by rw [r2.of_flat 8 hv], below_of_rel c4⟩
    · cases hx
  | _ => intro hx; cases hx
end
end Go.Ab
namespace Go.Ab
open Go Go.RowKit
section
variable {P : Program} {G n : Nat} {enters : FuncId → FKind} {CB : CallB} {CC : CallC} {DB : DrawB} {DC : DrawC}
/-- Rounds of a loop, the last of which leaves it. -/
theorem rounds_loopB (hE : Enters P enters) (hz : ZF P) (hC : CallSound P G (callOf CB)) (hD : DrawGood P G (fun ops T h => (DB ops).un T h)) {K : Nat} {c : Code} (hp : plansOk P c = true) (hok : codeOk G n c = true)
    {B : Base} {Q : Exit → Act → World → Prop} {id : Nat} {T' : Tree Value} {h' : AHeap} : ∀ (k : Nat) (T : Tree Value) (h : AHeap) (m : Mu) (a : Act) (w : World),
    loopB (codeB P enters CB DB K c).un k T h = .exit id T' h' → TRel m n T a.tmps → Rel P B m h w → GRel G m →
    (∀ m' a' w', GRel G m' → TRel m' n T' a'.tmps → a'.defers = a.defers → Rel P B m' h' w' → Q (.exit id) a' w') → Code.rounds P c Q k a w := by
  intro k
  induction k with
  | zero => intro T h m a w q; cases q
  | succ k ih =>
    intro T h m a w q hT hr hG hk
    have q' : (match (codeB P enters CB DB K c).un T h with | .normal T' h' => loopB (codeB P enters CB DB K c).un k T' h' | .none => .none | .exit id T' h' => .exit id T' h' | .ret T' h' => .ret T' h') = RC.exit id T' h' := q
    rw [rounds_succ]
    split at q'
    · rename_i T2 h2 h1
      obtain ⟨_, q2⟩ := codeB_sound (n := n) hE hz hC hD K c hp _ _ .normal _ _ h1
      refine q2 B m a w _ hok hT hr hG ?_
      intro m' a' w' c1 c2 c3 c4
      exact ih _ _ m' a' w' q' c2 c4 (hG.mono c1.1) fun m2 a2 w2 d1 d2 d3 d4 => hk m2 a2 w2 d1 d2 (d3.trans c3) d4
    · cases q'
    · rename_i id2 T2 h2 h1
      cases q'
      obtain ⟨_, q2⟩ := codeB_sound (n := n) hE hz hC hD K c hp _ _ (.exit id) _ _ h1
      refine q2 B m a w _ hok hT hr hG ?_
      intro m' a' w' c1 c2 c3 c4
      exact hk m' a' w' (hG.mono c1.1) c2 c3 c4
    · cases q'
/-- The same by the run that is told: K rounds, then out. -/
noncomputable def exitC (P : Program) (enters : FuncId → FKind) (CB : CallB) (CC : CallC) (DC : DrawC) (mk : Mk) (K : Nat) (id : Nat) (c : Code) (s : Tree Value × AHeap) (tp : Tape) : SC :=
  match (codeC P enters CB CC DC mk K (.loop c)).un s.1 s.2 tp [] with
  | .exit id' T h tp lg => ⟨(T, h), tp, lg, Nat.beq id' id⟩
  | _ => ⟨s, tp, [], false⟩
theorem exitC_wp (hE : Enters P enters) (hz : ZF P) (hC : CallSound P G (callOf CB)) (hCC : CallEq CB CC) (hDC : DrawEq DB DC) (hD : DrawGood P G (fun ops T h => (DB ops).un T h)) {mk : Mk} {K : Nat} {id : Nat} {c : Code} {s : Tree Value × AHeap} {tp : Tape} {B : Base} {m : Mu} {a : Act} {w : World} {Q : Exit → Act → World → Prop} {x : SC}
    (hp : plansOk P c = true) (hok : codeOk G n c = true) (hx : exitC P enters CB CC DC mk K id c s tp = x) (hs : x.ok = true) (hl : NotedOk x.lg) (hT : TRel m n s.1 a.tmps) (hr : Rel P B m s.2 w) (hG : GRel G m)
    (hk : ∀ m' a' w', GRel G m' → TRel m' n x.s.1 a'.tmps → a'.defers = a.defers → Rel P B m' x.s.2 w' → Q (.exit id) a' w') : Code.rounds P c Q K a w := by
  subst hx
  have q := codeC_eq (P := P) (enters := enters) (DB := DB) hCC hDC mk K (.loop c) s.1 s.2 tp []
  unfold exitC at hs hl hk
  revert hs hl hk q
  cases (codeC P enters CB CC DC mk K (.loop c)).un s.1 s.2 tp [] with
  | exit id' T' h' tp' lg' =>
    intro hs hl hk q
    obtain rfl := Nat.eq_of_beq_eq_true hs
    have q2 := (q hl).2
    simp only [codeB] at q2
    exact rounds_loopB hE hz hC hD hp hok K _ _ m a w q2 hT hr hG hk
  | _ => intro hs; cases hs
end
/-! ### 'x & c' -/
def bandF (x : Int) (c : Nat) : Int := bitI Nat.land (IntKind.i64.wrap ((BitVec.ofInt 64 x &&& BitVec.ofInt 64 (Int.ofNat c)).toNat : Int)) .i64 x (Int.ofNat c)
theorem bandF_eq (x : Int) (c : Nat) : bandF x c = IntKind.i64.wrap ((BitVec.ofInt 64 x &&& BitVec.ofInt 64 (Int.ofNat c)).toNat : Int) := by
  refine bitI_eq ?_
  rintro m k rfl hk h1 h2
  obtain rfl : c = k := by cases hk; rfl
  have e1 := ofNat_toNat (k := .i64) h1
  have e2 := ofNat_toNat (k := .i64) h2
  simp only [IntKind.bits] at e1 e2
  rw [BitVec.toNat_and, e1, e2]
  exact wrap_u (Nat.lt_of_le_of_lt Nat.and_le_left h1)
theorem bandF_lt (x : Int) {c : Nat} (hc : c < topOf .i64) : ∃ k : Nat, k ≤ c ∧ bandF x c = Int.ofNat k := by
  have e2 := ofNat_toNat (k := .i64) hc
  simp only [IntKind.bits] at e2
  have h : (BitVec.ofInt 64 x &&& BitVec.ofInt 64 (Int.ofNat c)).toNat ≤ c := by
    rw [BitVec.toNat_and, e2]
    exact Nat.and_le_right
  refine ⟨_, h, ?_⟩
  rw [bandF_eq]
  exact wrap_u (Nat.lt_of_le_of_lt h hc)
end Go.Ab
namespace Go.Ab
open Go Go.RowKit
section
variable {P : Program} {G n : Nat} {enters : FuncId → FKind} {CB : CallB} {CC : CallC} {DB : DrawB} {DC : DrawC}

/-! ## The first parts of a body, told -/
noncomputable def goNC (P : Program) (enters : FuncId → FKind) (CB : CallB) (CC : CallC) (DC : DrawC) (mk : Mk) (K : Nat) : Nat → Code → SC → SC
  | 0, _, x => x
  | k + 1, .seq a b, x => match (codeC P enters CB CC DC mk K a).un x.s.1 x.s.2 x.tp x.lg with
    | .normal T h tp lg => goNC P enters CB CC DC mk K k b ⟨(T, h), tp, lg, x.ok⟩
    | _ => ⟨x.s, x.tp, x.lg, false⟩
  | _ + 1, _, x => ⟨x.s, x.tp, x.lg, false⟩
def dropN : Nat → Code → Code
  | 0, c => c
  | k + 1, .seq _ b => dropN k b
  | _ + 1, c => c
def partsOk (P : Program) (G n : Nat) : Nat → Code → Bool
  | 0, _ => true
  | k + 1, .seq a b => plansOk P a && codeOk G n a && partsOk P G n k b
  | _ + 1, _ => false
theorem goNC_noted (hCC : CallEq CB CC) (hDC : DrawEq DB DC) {mk : Mk} {K : Nat} : ∀ (k : Nat) (c : Code) (x y : SC), goNC P enters CB CC DC mk K k c x = y → y.ok = true → NotedOk y.lg → NotedOk x.lg := by
  intro k
  induction k with
  | zero => intro c x y hx _ hl; subst hx; exact hl
  | succ k ih =>
    intro c x y hx hok hl
    cases c with
    | seq a b =>
      simp only [goNC] at hx
      have q := codeC_eq (P := P) (enters := enters) (DB := DB) hCC hDC mk K a x.s.1 x.s.2 x.tp x.lg
      revert hx q
      cases (codeC P enters CB CC DC mk K a).un x.s.1 x.s.2 x.tp x.lg with
      | normal T h tp lg => intro hx q; exact (q (ih _ _ _ hx hok hl)).1
      | _ => intro hx q; subst hx; cases hok
    | _ => simp only [goNC] at hx; subst hx; cases hok
theorem goNC_wp (hE : Enters P enters) (hz : ZF P) (hC : CallSound P G (callOf CB)) (hCC : CallEq CB CC) (hDC : DrawEq DB DC) (hD : DrawGood P G (fun ops T h => (DB ops).un T h)) {mk : Mk} {K : Nat} {B : Base} {Q : Exit → Act → World → Prop} : ∀ {k : Nat} {c : Code} {x y : SC} {m : Mu} {a : Act} {w : World},
    partsOk P G n k c = true → goNC P enters CB CC DC mk K k c x = y → y.ok = true → NotedOk y.lg → TRel m n x.s.1 a.tmps → Rel P B m x.s.2 w → GRel G m →
    (∀ m' a' w', GRel G m' → TRel m' n y.s.1 a'.tmps → a'.defers = a.defers → Rel P B m' y.s.2 w' → (dropN k c).wp P Q a' w') → c.wp P Q a w := by
  intro k
  induction k with
  | zero => intro c x y m a w _ hx _ _ hT hr hG hk; subst hx; exact hk m a w hG hT rfl hr
  | succ k ih =>
    intro c x y m a w hp hx hok hl hT hr hG hk
    cases c with
    | seq c1 c2 =>
      simp only [partsOk, Bool.and_eq_true] at hp
      simp only [goNC] at hx
      have q := codeC_eq (P := P) (enters := enters) (DB := DB) hCC hDC mk K c1 x.s.1 x.s.2 x.tp x.lg
      revert hx q
      cases (codeC P enters CB CC DC mk K c1).un x.s.1 x.s.2 x.tp x.lg with
      | normal T h tp lg =>
        intro hx q
        have hlg := goNC_noted (P := P) (enters := enters) hCC hDC _ _ _ _ hx hok hl
        obtain ⟨_, q2⟩ := codeB_sound (n := n) hE hz hC hD K c1 hp.1.1 _ _ .normal _ _ (q hlg).2
        refine wp_seq (q2 B m a w _ hp.1.2 hT hr hG ?_)
        intro m' a' w' d1 d2 d3 d4
        exact ih hp.2 hx hok hl d2 d4 (hG.mono d1.1) fun m2 a2 w2 e1 e2 e3 e4 => hk m2 a2 w2 e1 e2 (e3.trans d3) e4
      | _ => intro hx q; subst hx; cases hok
    | _ => simp only [goNC] at hx; subst hx; cases hok
/-- One part, told, from a tape. -/
theorem oneC_wp (hE : Enters P enters) (hz : ZF P) (hC : CallSound P G (callOf CB)) (hCC : CallEq CB CC) (hDC : DrawEq DB DC) (hD : DrawGood P G (fun ops T h => (DB ops).un T h)) {mk : Mk} {K : Nat} {c : Code} {s s' : Tree Value × AHeap} {tp tp' : Tape} {lg : Noted} {e : AExit} {B : Base} {m : Mu} {a : Act} {w : World} {Q : Exit → Act → World → Prop}
    (hp : plansOk P c = true) (hok : codeOk G n c = true) (hx : (codeC P enters CB CC DC mk K c).un s.1 s.2 tp [] = (match e with | .normal => .normal s'.1 s'.2 tp' lg | .exit id => .exit id s'.1 s'.2 tp' lg | .ret => .ret s'.1 s'.2 tp' lg)) (hl : NotedOk lg) (hT : TRel m n s.1 a.tmps) (hr : Rel P B m s.2 w) (hG : GRel G m)
    (hk : ∀ m' a' w', GRel G m' → TRel m' n s'.1 a'.tmps → a'.defers = a.defers → Rel P B m' s'.2 w' → Q e.toExit a' w') : c.wp P Q a w := by
  have q := codeC_eq (P := P) (enters := enters) (DB := DB) hCC hDC mk K c s.1 s.2 tp []
  rw [hx] at q
  cases e with
  | normal =>
    obtain ⟨_, q2⟩ := codeB_sound (n := n) hE hz hC hD K c hp _ _ .normal _ _ (q hl).2
    exact q2 B m a w Q hok hT hr hG fun m' a' w' d1 d2 d3 d4 => hk m' a' w' (hG.mono d1.1) d2 d3 d4
  | exit id =>
    obtain ⟨_, q2⟩ := codeB_sound (n := n) hE hz hC hD K c hp _ _ (.exit id) _ _ (q hl).2
    exact q2 B m a w Q hok hT hr hG fun m' a' w' d1 d2 d3 d4 => hk m' a' w' (hG.mono d1.1) d2 d3 d4
  | ret =>
    obtain ⟨_, q2⟩ := codeB_sound (n := n) hE hz hC hD K c hp _ _ .ret _ _ (q hl).2
    exact q2 B m a w Q hok hT hr hG fun m' a' w' d1 d2 d3 d4 => hk m' a' w' (hG.mono d1.1) d2 d3 d4
end
/-! ## A byte's place in a text -/
def idxF : List UInt8 → Nat → Nat → Int
  | [], _, _ => .negSucc 0
  | x :: l, c, i => match Nat.beq (u8n x) c with
    | true => .ofNat i
    | false => idxF l c (Nat.succ i)
def idxB (l : List Value) : Option Value := match l with
  | [.string s, .int .u8 (.ofNat c)] => (match Nat.blt c 256 with | true => some (.int .i64 (idxF (byteList s) c 0)) | false => none)
  | _ => none
theorem idx_find (s : ByteArray) (c : UInt8) : ∀ (l : List UInt8) (i : Nat), s.data.toList.drop i = l →
    (match (List.range' i l.length).find? (fun j => s[j]! == c) with | some j => (j : Int) | none => -1) = idxF l c.toNat i := by
  intro l
  induction l with
  | nil => intro i _; rfl
  | cons x l ih =>
    intro i h
    have hi : i < s.data.toList.length := by
      rcases Nat.lt_or_ge i s.data.toList.length with h2 | h2
      · exact h2
      · rw [List.drop_eq_nil_of_le h2] at h; cases h
    rw [List.drop_eq_getElem_cons hi] at h
    obtain ⟨hx, hl⟩ := List.cons.inj h
    have hi2 : i < s.data.size := by simpa using hi
    have hget : s[i]! = x := by
      rw [getElem!_pos s i hi2]
      show s.data[i] = x
      rw [← hx]
      simp
    rw [List.length_cons, List.range'_succ, List.find?_cons]
    simp only [hget, idxF]
    cases hb : x == c with
    | true =>
      have : x = c := by simpa using hb
      subst this
      rw [show Nat.beq (u8n x) x.toNat = true from Nat.beq_refl _]
      rfl
    | false =>
      have hne : x ≠ c := by simpa using hb
      have : Nat.beq (u8n x) c.toNat = false := by
        rw [Bool.eq_false_iff]
        intro q
        exact hne (UInt8.toNat_inj.1 (Nat.eq_of_beq_eq_true q))
      rw [this]
      exact ih (i + 1) hl
theorem firstIdx_eq (s : ByteArray) (c : Nat) (hc : c < 256) : firstIdx s (Int.toNat (.ofNat c)).toUInt8 = idxF (byteList s) c 0 := by
  have := idx_find s (Int.toNat (.ofNat c)).toUInt8 s.data.toList 0 rfl
  have hs : s.data.toList.length = s.size := Array.length_toList
  rw [hs, ← List.range_eq_range'] at this
  unfold firstIdx
  refine Eq.trans this ?_
  have hn : ((Int.toNat (.ofNat c)).toUInt8).toNat = c := by
    show (c.toUInt8).toNat = c
    simp [Nat.toUInt8]
    omega
  rw [hn]
  rfl
theorem idxB_ok {P : Program} {f : FuncId} (hf : ∀ args w, (callFunc f args).run P w = ((Extern.BytealgIndexByte.indexByte args).run P w).andThen fun v w' => .ok (.value v) w') (l : List Value) (v : Value) (h : idxB l = some v) :
    l.all flatV = true ∧ flatV v = true ∧ ∀ w, (callFunc f l.toArray).run P w = .ok (.value v) w := by
  unfold idxB at h
  split at h
  · rename_i s c
    split at h
    · rename_i hc
      obtain rfl := Option.some.inj h
      refine ⟨rfl, rfl, fun w => ?_⟩
      rw [Nat.blt_eq] at hc
      rw [hf]
      show ((Extern.BytealgIndexByte.indexByte #[.string s, .int .u8 (.ofNat c)]).run P w).andThen _ = _
      rw [run_indexByte_string, firstIdx_eq s c hc]
      rfl
    · cases h
  · cases h

/-! ## Marks out of lists -/
def inL (l : List Nat) (t : Nat) : Bool := l.any (Nat.beq t)
def marksOf (l l2 l3 : List Nat) (t : Nat) : Nat := match inL l t with
  | true => 1
  | false => match inL l2 t with
    | true => 2
    | false => match inL l3 t with
      | true => 3
      | false => 0
def marksIn : List (Nat × List Nat × List Nat × List Nat) → Marks
  | [], _ => fun _ => 0
  | (f, l, l2, l3) :: r, g => match Nat.beq f g with
    | true => marksOf l l2 l3
    | false => marksIn r g
/-- 4: loads of whose object alone a fact is noted. -/
def with4 (l : List (Nat × List Nat)) (mk : Marks) (g : Nat) (t : Nat) : Nat := match l.any (fun x => Nat.beq x.1 g && inL x.2 t) with
  | true => 4
  | false => mk g t
/-- 5: parts and rooms of slices that are told. -/
def with5 (l : List (Nat × List Nat)) (mk : Marks) (g : Nat) (t : Nat) : Nat := match l.any (fun x => Nat.beq x.1 g && inL x.2 t) with
  | true => 5
  | false => mk g t
/-- So many of them. -/
def upTo {α : Type} (f : Nat → α) : Nat → Nat → List α
  | 0, _ => []
  | k + 1, i => f i :: upTo f k (i + 1)
theorem upTo_eq {α : Type} {f g : Nat → α} : ∀ (k i : Nat), upTo f k i = upTo g k i → ∀ j, i ≤ j → j < i + k → f j = g j := by
  intro k
  induction k with
  | zero => intro i _ j h1 h2; omega
  | succ k ih =>
    intro i h j h1 h2
    simp only [upTo, List.cons.injEq] at h
    by_cases e : j = i
    · rw [e]; exact h.1
    · exact ih (i + 1) h.2 j (by omega) (by omega)
def stOf (r : RCC) : Tree Value × AHeap := match r with
  | .normal T h _ _ => (T, h)
  | .exit _ T h _ _ => (T, h)
  | .ret T h _ _ => (T, h)
  | .none => (.leaf, ⟨.leaf, 0, 0⟩)
def isN (r : RCC) : Option Noted := match r with | .normal _ _ _ lg => some lg | _ => none
def isX (r : RCC) : Option (Nat × Noted) := match r with | .exit id _ _ _ lg => some (id, lg) | _ => none
theorem norm_of {r : RCC} {lg : Noted} (h : isN r = some lg) : ∃ tp, r = .normal (stOf r).1 (stOf r).2 tp lg := by
  cases r <;> first | (cases h; exact ⟨_, rfl⟩) | cases h
theorem exit_of {r : RCC} {id : Nat} {lg : Noted} (h : isX r = some (id, lg)) : ∃ tp, r = .exit id (stOf r).1 (stOf r).2 tp lg := by
  cases r <;> first | (cases h; exact ⟨_, rfl⟩) | cases h
def saidOf (r : Option OutC) : Option (Value × Noted) := match r with | some o => some (o.v, o.lg) | none => none
def slotsOf (l : List (Nat × Value)) (jt : Nat → Value) : Nat → Value := fun t => match l with
  | [] => jt t
  | (k, v) :: l => match Nat.beq k t with | true => v | false => slotsOf l jt t

/-! ## States in one form -/
def treeF (f : Nat → Value) : Nat → Nat → Tree Value → Tree Value
  | 0, _, acc => acc
  | k + 1, i, acc => treeF f k (i + 1) (acc.set undef i (f i))
def heapF : List AObj → Nat → Tree AObj → Tree AObj
  | [], _, acc => acc
  | o :: l, i, acc => heapF l (i + 1) (acc.set .dead i o)
def cellsOfL (l : List Value) (t : TypeId) : AObj := .cells ⟨l.length, treeF (fun i => l.getD i undef) l.length 0 .leaf⟩ t
def blkOf (v : Value) : Nat := match v with
  | .pointer (some a) => a.block
  | .slice (some a) _ _ => a.block
  | .map (some b) => b
  | _ => 0
def ptrTo (b : Nat) : Value := .pointer (some ⟨b, 0, none⟩)
def i64 (n : Int) : Value := .int .i64 n
def pr (a b : Value) : Prop := a = b
end Go.Ab
namespace Go.Ab
open Go Go.RowKit

/-! ## A row that the caller keeps -/
theorem treeF_get (f : Nat → Value) : ∀ (k i : Nat) (acc : Tree Value) (j : Nat), (treeF f k i acc).get undef j = if i ≤ j ∧ j < i + k then f j else acc.get undef j := by
  intro k
  induction k with
  | zero => intro i acc j; rw [if_neg (by omega)]; rfl
  | succ k ih =>
    intro i acc j
    show (treeF f k (i + 1) (acc.set undef i (f i))).get undef j = _
    rw [ih, Tree.get_set]
    by_cases e : j = i
    · subst e
      rw [if_neg (by omega), if_pos rfl, if_pos (by omega)]
    · rw [if_neg e]
      by_cases h : i + 1 ≤ j ∧ j < i + 1 + k
      · rw [if_pos h, if_pos (by omega)]
      · rw [if_neg h, if_neg (by omega)]
def rowFn (f : Nat → Value) (n : Nat) : Row := ⟨n, treeF f n 0 .leaf⟩
theorem rowFn_get? (f : Nat → Value) (n i : Nat) (h : i < n) : (rowFn f n).get? i = some (f i) := by
  rw [Row.get?_eq]
  show (if i < n then some ((treeF f n 0 .leaf).get undef i) else none) = _
  rw [if_pos h, treeF_get, if_pos ⟨Nat.zero_le _, by omega⟩]
theorem rowFn_lt {f : Nat → Value} {n i : Nat} {v : Value} (h : (rowFn f n).get? i = some v) : i < n ∧ f i = v := by
  have hi : i < n := Row.lt_of_get? h
  rw [rowFn_get? f n i hi] at h
  exact ⟨hi, Option.some.inj h⟩
/-- A block that nothing is known of. -/
theorem _root_.Go.Ab.Rel.name {P : Program} {B : Base} {m : Mu} {h : AHeap} {w : World} (hr : Rel P B m h w) (hlim : h.next < h.lim) (l : Loc) : Rel P B (m.add h.next l) (h.push .dead) w := by
  have hle : Mu.le m (m.add h.next l) := Mu.le_add (hr.fresh _ (Nat.le_refl _) hlim).2
  have hg : ∀ b, (h.push .dead).get b = h.get b := fun b => by
    rw [AHeap.get_push]
    split
    · rename_i e; rw [e, (hr.fresh _ (Nat.le_refl _) hlim).1]
    · rfl
  have old : ∀ b l', h.get b ≠ .dead → (m.add h.next l) b = some l' → m b = some l' := by
    intro b l' hb hl'
    have hne : b ≠ h.next := by rintro rfl; exact hb (hr.fresh _ (Nat.le_refl _) hlim).1
    unfold Mu.add at hl'
    rwa [if_neg hne] at hl'
  refine ⟨hr.os, hr.tape, hr.output, hr.prot, ?_, ?_, ?_⟩
  · intro b hb
    rw [hg] at hb ⊢
    obtain ⟨l2, h1, h2, h3⟩ := hr.obj b hb
    exact ⟨l2, hle _ _ h1, h2, h3.congr hle rfl⟩
  · intro b1 b2 l1 l2 h1 h2 h3 m1 m2 e12
    rw [hg] at h1 h2 h3
    exact hr.sep b1 b2 l1 l2 h1 h2 h3 (old b1 l1 h1 m1) (old b2 l2 h2 m2) e12
  · intro b hb hb2
    have hb' : h.next + 1 ≤ b := hb
    have hf := hr.fresh b (by omega) hb2
    refine ⟨by rw [hg]; exact hf.1, ?_⟩
    unfold Mu.add; rw [if_neg (by omega)]; exact hf.2
/-- An argument's slice: what is known of it. -/
structure SliceArg (P : Program) (W : World) (e : TypeId) (size : Nat) (v : Value) (f : Nat → Value) (n c : Nat) : Prop where
  ex : ∃ b off C t fr, v = .slice (some ⟨b, off, none⟩) n c ∧ W.heap[b]? = some (.cells C t fr) ∧ off + n * size ≤ C.size ∧ ∀ i, i < n * size → C[off + i]? = some (f i) ∧ vflat 8 (f i) = true
  cap : c ≤ HALF
/-- It is laid under a number of its own. -/
theorem SliceArg.lay {P : Program} {W : World} {e : TypeId} {size : Nat} {v : Value} {f : Nat → Value} {n c : Nat} (hs : SliceArg P W e size v f n c) {m : Mu} {h : AHeap} {w : World} (hr : Rel P (baseOf W) m h w) (hlim : h.next < h.lim) :
    ∃ m', Mu.le m m' ∧ VRel m' (.slice (some ⟨h.next, 0, none⟩) n c) v ∧ Rel P (baseOf W) m' (h.push (.ro (rowFn f (n * size)) e)) w := by
  obtain ⟨b, off, C, t, fr, rfl, hC, hsz, hcell⟩ := hs.ex
  refine ⟨m.add h.next ⟨b, off, 0⟩, Mu.le_add (hr.fresh _ (Nat.le_refl _) hlim).2, ?_, ?_⟩
  · have := VRel.slice (m := m.add h.next ⟨b, off, 0⟩) h.next 0 n c ⟨b, off, 0⟩ (Mu.add_self _ _ _) hs.cap
    exact this
  · have hp : (baseOf W).prot b = some (.cells C t fr) := hC
    refine hr.pushRo hlim (by rw [hp]; intro q; cases q) ⟨C, t, fr, hr.prot b _ hp, hsz, fun i v hv => ?_⟩
    obtain ⟨hi, rfl⟩ := rowFn_lt hv
    exact ⟨_, (hcell i hi).1, vflat_rel _ 8 _ (hcell i hi).2⟩
/-- What a claim's reading tells of a slice whose elements are plain. -/
theorem sliceArg_of {H : Type} {enc : TypeId × Value → H} {P : Program} {W : World} {t e : TypeId} {v : Value} {d : DataW H} {ps : List MemPlace} {r : Reach} {base b0 : Nat} {spare : Nat → Bool} {held : Bool} (ht : P.underlying t = some (.slice e))
    (hval : Value.okWide P W r b0 t v) (hd : DataW.Trod enc P W base spare held t v d ps)
    (hpos : 0 < P.cellsOf e) (hflat : ∀ fuel cs x, DataW.trod enc P W base spare held fuel e cs = some x → ∀ v ∈ cs, vflat 8 v = true) :
    v = .slice none 0 0 ∨ (∃ b off c, v = .slice (some ⟨b, off, none⟩) 0 c ∧ c ≤ HALF) ∨ ∃ f n c, 0 < n ∧ SliceArg P W e (P.cellsOf e) v f n c ∧ ∀ i, i < n → ∃ fuel x, DataW.trod enc P W base spare held fuel e ((List.range (P.cellsOf e)).map fun j => f (i * P.cellsOf e + j)) = some x := by
  unfold Value.okWide at hval
  rw [ht] at hval
  dsimp only at hval
  unfold Cell.okWide at hval
  rw [ht] at hval
  obtain ⟨fuel, hf⟩ := hd
  have hcell : v = .slice none 0 0 ∨ ∃ b off n c, v = .slice (some ⟨b, off, none⟩) n c ∧ (c : Int) ≤ IntKind.i64.max ∧ ∃ C t' fr, W.heap[b]? = some (.cells C t' fr) ∧ n ≤ c ∧ ∀ i, i < n → ∃ cs fuel x, (W.cells? base ((⟨b, off, none⟩ : Addr).add (i * P.cellsOf e)) (P.cellsOf e)) = some cs ∧ DataW.trod enc P W base spare held fuel e cs = some x := by
    have hv : ∃ s n c, v = .slice s n c := by
      cases v <;> first | exact ⟨_, _, _, rfl⟩ | (exfalso; simp only [Cell.ok, ht] at hval)
    obtain ⟨s, n, c, rfl⟩ := hv
    cases s with
    | none =>
      left
      rcases DataW.trod_slice ht hf with ⟨h, _⟩ | ⟨a, len, cap, elems, rest, n', _, h, _⟩
      · simpa [Value.cells] using h
      · simp [Value.cells] at h
    | some a =>
      right
      have hk : n ≤ c ∧ (c : Int) ≤ IntKind.i64.max ∧ W.has P r b0 a e c := by
        simpa only [Cell.ok, ht] using hval
      obtain ⟨h1, h2, _, h4, row, cells, h5, _⟩ := hk
      obtain ⟨b, off, spot⟩ := a
      dsimp only at h4
      subst h4
      refine ⟨b, off, n, c, rfl, h2, ?_⟩
      unfold World.shape? at h5
      dsimp only at h5
      split at h5
      · rename_i C t' fr hh
        refine ⟨C, t', fr, hh, h1, fun i hi => ?_⟩
        rcases DataW.trod_slice ht hf with ⟨h, _⟩ | ⟨a, len, cap, elems, rest, n', _, h, _, _, _, _, hlen, hel, _⟩
        · simp [Value.cells] at h
        · simp [Value.cells] at h
          obtain ⟨rfl, rfl, rfl⟩ := h
          have hx := hel i hi
          have hsome : ∃ y, elems[i]? = some y := ⟨elems[i]'(by omega), List.getElem?_eq_getElem (by omega)⟩
          obtain ⟨y, hy⟩ := hsome
          rw [hy, Option.bind_eq_some_iff] at hx
          obtain ⟨cs, q1, q2⟩ := hx
          exact ⟨cs, n', y, q1, q2⟩
      · cases h5
  rcases hcell with h | ⟨b, off, n, c, rfl, hc, C, t', fr, hC, hnc, hel⟩
  · exact .inl h
  right
  have hget : ∀ i, i < n → ∀ j, j < P.cellsOf e → ∃ v, C[off + (i * P.cellsOf e + j)]? = some v ∧ vflat 8 v = true := by
    intro i hi j hj
    obtain ⟨cs, fu, x, q1, q2⟩ := hel i hi
    obtain ⟨_, hlen, hcs⟩ := World.cells?_some q1
    have q3 := hcs j hj
    have hjl : j < cs.length := by omega
    rw [List.getElem?_eq_getElem hjl] at q3
    rw [add_none, add_none] at q3
    simp only [World.cell?, hC] at q3
    refine ⟨cs[j], ?_, hflat _ _ _ q2 _ (List.getElem_mem hjl)⟩
    rw [← Nat.add_assoc]
    simpa using q3
  have hcap : c ≤ HALF := by
    have : IntKind.i64.max = 9223372036854775807 := rfl
    rw [this] at hc
    show c ≤ 2 ^ 63
    omega
  rcases Nat.eq_zero_or_pos n with h0 | h0
  · subst h0
    exact .inl ⟨b, off, c, rfl, hcap⟩
  right
  refine ⟨fun i => C.getD (off + i) undef, n, c, h0, ⟨⟨b, off, C, t', fr, rfl, hC, ?_, ?_⟩, hcap⟩, ?_⟩
  · obtain ⟨v, q1, _⟩ := hget (n - 1) (by omega) (P.cellsOf e - 1) (by omega)
    have hlt := (Array.getElem?_eq_some_iff.1 q1).1
    have : n * P.cellsOf e = (n - 1) * P.cellsOf e + P.cellsOf e := by
      obtain ⟨k, rfl⟩ : ∃ k, n = k + 1 := ⟨n - 1, by omega⟩
      rw [Nat.add_sub_cancel, Nat.succ_mul]
    omega
  · intro i hi
    have hs : 0 < P.cellsOf e := Nat.pos_of_ne_zero (fun q => by rw [q] at hi; simp at hi)
    obtain ⟨v, q1, q2⟩ := hget (i / P.cellsOf e) ((Nat.div_lt_iff_lt_mul hs).2 hi) (i % P.cellsOf e) (Nat.mod_lt _ hs)
    have e1 : i / P.cellsOf e * P.cellsOf e + i % P.cellsOf e = i := by rw [Nat.mul_comm]; exact Nat.div_add_mod _ _
    rw [e1] at q1
    rw [Array.getD_eq_getD_getElem?, q1]
    exact ⟨rfl, q2⟩
  · intro i hi
    obtain ⟨cs, fu, x, q1, q2⟩ := hel i hi
    refine ⟨fu, x, ?_⟩
    have : ((List.range (P.cellsOf e)).map fun j => C.getD (off + (i * P.cellsOf e + j)) undef) = cs := by
      obtain ⟨_, hlen, hcs⟩ := World.cells?_some q1
      refine List.ext_getElem? fun j => ?_
      rcases Nat.lt_or_ge j (P.cellsOf e) with hj | hj
      · have q3 := hcs j hj
        rw [← q3, add_none, add_none]
        simp only [World.cell?, hC]
        rw [List.getElem?_map, List.getElem?_range hj]
        obtain ⟨v, q4, _⟩ := hget i hi j hj
        simp only [Option.map_some, Array.getD_eq_getD_getElem?, q4, Option.getD_some]
        rw [Nat.add_assoc, q4]
        simp
      · rw [List.getElem?_eq_none (by simpa using hj), List.getElem?_eq_none (by omega)]
    rw [this]
    exact q2
end Go.Ab
namespace Go.Ab
open Go Go.RowKit

/-! ## A function that defers one call, which finds nothing to recover -/
/-- What is known of such a function's text. -/
structure DeferText where
  fn : Func
  g : FuncId
  gn : Func
  r0 : Code
  idD : Nat
  oD : Oper
  rest : Code
  idR : Nat
  oR : Oper
  grest : Code
structure DeferOk (P : Program) (G : Nat) (f : FuncId) (x : DeferText) (dargs : List Operand) : Prop where
  hf : P.funcs[f]? = some x.fn
  hb : x.fn.body = some (.seq x.r0 (.seq (.region x.idD #[x.oD] false) x.rest))
  hD : ∃ c, x.oD.op = .defer c ∧ c.callee = .value (.func x.g) ∧ c.args = dargs.toArray
  gD : x.oD.guard = none
  hg : P.funcs[x.g]? = some x.gn
  gb : x.gn.body = some (.seq (.region x.idR #[x.oR] false) x.grest)
  hR : ∃ c, x.oR.op = .call c ∧ c.callee = .builtin .recover ∧ c.args = #[]
  gR : x.oR.guard = none
  ok0 : codeOk G x.fn.ntmps x.r0 = true
  okr : codeOk G x.fn.ntmps x.rest = true
  okg : codeOk G x.gn.ntmps x.grest = true
  pl0 : plansOk P x.r0 = true
  plr : plansOk P x.rest = true
  plg : plansOk P x.grest = true
  dstD : ∀ d, x.oD.dst = some d → d < x.fn.ntmps
  dstR : ∀ d, x.oR.dst = some d → d < x.gn.ntmps
  ops : ∀ o ∈ dargs, opndOk G o = true
  ent : ∀ args w, (callFunc x.g args).run P w = .ok (.enter x.g args) w
noncomputable def deferF (P : Program) (enters : FuncId → FKind) (CB : CallB) (DB : DrawB) (K : Nat) (x : DeferText) (dargs : List Operand) : Array Value → AHeap → Option (Value × AHeap) := fun args h =>
  match Nat.ble (lenV (listOf args)) x.fn.ntmps with
  | true => match (codeB P enters CB DB K x.r0).un (treeOfB (listOf args) 0 .leaf) h with
    | .normal T1 h1 => match (codeB P enters CB DB K x.rest).un ((putB x.oD.dst).un T1 undef) h1 with
      | .ret T2 h2 => match Nat.ble (lenV ((argsB dargs).un T1)) x.gn.ntmps with
        | true => match (codeB P enters CB DB K x.grest).un ((putB x.oR.dst).un (treeOfB ((argsB dargs).un T1) 0 .leaf) .nilIface) h2 with
          | .normal T4 h4 => match (resB P x.gn.results.toList).un h4 T4, (resB P x.fn.results.toList).un h4 T2 with
            | some _, some vs => some (oneA vs, h4)
            | _, _ => none
          | _ => none
        | false => none
      | _ => none
    | _ => none
  | false => none
section
variable {P : Program} {G : Nat} {enters : FuncId → FKind} {CB : CallB} {DB : DrawB}
theorem initT_self (l : List Value) : treeOfB l 0 .leaf = initT l 0 .leaf := by rw [treeOfB_eq, initT_treeOf]
theorem deferF_sound (hE : Enters P enters) (hz : ZF P) (hC : CallSound P G (callOf CB)) (hD : DrawGood P G (fun ops T h => (DB ops).un T h)) {K : Nat} {f : FuncId} {x : DeferText} {dargs : List Operand} (hx : DeferOk P G f x dargs)
    {args : Array Value} {h : AHeap} {v : Value} {h' : AHeap} (e : deferF P enters CB DB K x dargs args h = some (v, h')) : Nx h h' ∧
    ∀ (B : Base) m args' w, ARel m args args' → Rel P B m h w → GRel G m →
      Calls P f args' w (fun e w' => ∃ v' m', e = .returned v' ∧ Ext h m m' ∧ Rel P B m' h' w' ∧ VRel m' v v') := by
  unfold deferF at e
  split at e <;> try (cases e; done)
  rename_i hsz
  split at e <;> try (cases e; done)
  rename_i T1 h1 q1
  split at e <;> try (cases e; done)
  rename_i T2 h2 q2
  split at e <;> try (cases e; done)
  rename_i hsz2
  split at e <;> try (cases e; done)
  rename_i T4 h4 q4
  split at e <;> try (cases e; done)
  rename_i us vs hus hvs
  cases e
  rw [Nat.ble_eq, lenV_eq] at hsz hsz2
  rw [listOf_eq] at hsz
  rw [listOf_eq, initT_self] at q1
  rw [putB_eq] at q2
  rw [putB_eq, initT_self] at q4
  rw [argsB_eq] at hsz2 q4
  obtain ⟨n1, c1⟩ := codeB_sound (n := x.fn.ntmps) hE hz hC hD K x.r0 hx.pl0 _ _ .normal _ _ q1
  obtain ⟨n2, c2⟩ := codeB_sound (n := x.fn.ntmps) hE hz hC hD K x.rest hx.plr _ _ .ret _ _ q2
  obtain ⟨n4, c4⟩ := codeB_sound (n := x.gn.ntmps) hE hz hC hD K x.grest hx.plg _ _ .normal _ _ q4
  refine ⟨(n1.trans n2).trans n4, fun B m args' w ha hr hG => ?_⟩
  refine calls_of_wp_defers hx.hf hx.hb (wp_seq (c1 B m _ w _ hx.ok0 (initT_rel ha hsz) hr hG ?_))
  intro m1 a1 w1 x1 t1 d1 r1
  show (Code.seq (.region x.idD #[x.oD] false) x.rest).wp P _ a1 w1
  obtain ⟨cD, oD1, oD2, oD3⟩ := hx.hD
  have hrun : (execOp a1.eval x.oD).run P w1 = .ok (.defer { target := .fn (.func x.g) #[], args := (dargs.map a1.eval).toArray }) w1 := by
    unfold execOp
    rw [oD1]
    simp only [resolve, oD2, oD3, Act.eval, Deferred.ofValue, pure_bind, Sem.run_pure]
    simp
  refine wp_seq (wp_region_list ?_)
  show wpList P #[x.oD] _ [x.oD] a1 w1
  unfold wpList
  rw [if_pos (by unfold Region.wanted; rw [hx.gD])]
  refine .inl ?_
  unfold Oper.wp
  rw [hrun]
  rw [Oper.upon_defer]
  unfold wpList
  have t1' : TRel m1 x.fn.ntmps (Tput T1 x.oD.dst undef) ({ a1 with defers := { target := .fn (.func x.g) #[], args := (dargs.map a1.eval).toArray } :: a1.defers }.put x.oD.dst undef).tmps :=
    TRel.put (a := { a1 with defers := { target := .fn (.func x.g) #[], args := (dargs.map a1.eval).toArray } :: a1.defers }) t1 hx.dstD (undef_rel m1)
  refine c2 B m1 _ w1 _ hx.okr t1' r1 (hG.mono x1.1) ?_
  intro m2 a2 w2 x2 t2 d2 r2
  have hdef : a2.defers = [{ target := .fn (.func x.g) #[], args := (dargs.map a1.eval).toArray }] := by
    rw [d2]
    cases x.oD.dst <;> (simp only [Act.put]; rw [d1])
  show Leaves P x.fn a2.tmps _ a2.defers .returning w2
  rw [hdef]
  have hinv : (invoke (.fn (.func x.g) #[]) (dargs.map a1.eval).toArray).run P w2 = .ok (.enter x.g (dargs.map a1.eval).toArray) w2 := by
    show (callFunc x.g ((dargs.map a1.eval).toArray ++ #[])).run P w2 = _
    rw [Array.append_empty]
    exact hx.ent _ _
  refine leaves_cons (by intro q; cases q) hinv ?_
  refine callsD_of_wpS hx.hg hx.gb fun c0 cs hmode => ?_
  obtain ⟨cR, oR1, oR2, oR3⟩ := hx.hR
  refine wpS_seq (wpS_region ?_)
  have hrec : ∀ ρ : Operand → Value, (execOp ρ x.oR).run P w2 = .ok .recover w2 := by
    intro ρ
    unfold execOp
    rw [oR1]
    simp only [resolve, oR2, oR3, pure_bind, invoke, builtin, Sem.run_pure]
  have hnone : recoverD (c0 :: cs) = none := by
    unfold recoverD
    simp only [hmode]
  show wpOpsS P #[x.oR] _ (List.range 1) _ _ _
  rw [show List.range 1 = [0] from rfl]
  simp only [wpOpsS]
  rw [show (#[x.oR] : Array Oper)[0]? = some x.oR from rfl]
  dsimp only
  rw [if_pos (by unfold Region.wanted; rw [hx.gR]), hrec]
  dsimp only
  rw [hnone]
  dsimp only
  show Code.wpS P x.grest _ _ _ _
  have hdr : ARel m2 (dargs.map (rhoA T1)).toArray (dargs.map a1.eval).toArray := by
    refine ⟨by simp, fun i hi hi' => ?_⟩
    simp only [List.getElem_toArray, List.getElem_map]
    exact (rho_rel t1 (hG.mono x1.1) (hx.ops _ (List.getElem_mem (by simpa using hi)))).mono x2.1
  refine wpS_of_wp (c4 B m2 _ w2 _ hx.okg (TRel.put (a := { tmps := (dargs.map a1.eval).toArray ++ Array.replicate (x.gn.ntmps - (dargs.map a1.eval).toArray.size) undef, defers := [] }) (initT_rel (args := (dargs.map (rhoA T1)).toArray) hdr (by simpa using hsz2)) hx.dstR .nilIface) r2 ((hG.mono x1.1).mono x2.1) ?_)
  intro m4 a4 w4 x4 t4 d4 r4
  obtain ⟨u', hu1, hu2⟩ := results_sound r4 t4 (resB_some hus)
  obtain ⟨v', hv1, hv2⟩ := results_sound r4 (t2.mono x4.1) (resB_some hvs)
  refine ⟨?_, .returning, ?_, u', hu1, ?_⟩
  · rw [d4]; cases x.oR.dst <;> rfl
  · rw [← hmode]
  · exact ⟨v', hv1, v', m4, rfl, (x1.trans x2 n1.1 n1.2.1).trans x4 (n1.trans n2).1 (n1.trans n2).2.1, r4, hv2⟩
end
end Go.Ab
namespace Go.Ab
open Go Go.RowKit

/-! ## Elements of plain parts -/
inductive LK where
  | b
  | i (k : IntKind)
  | s
def LK.ok : LK → Value → Prop
  | .b, v => ∃ x, v = .bool x
  | .i k, v => ∃ n, v = .int k n
  | .s, v => ∃ x, v = .string x
def AllOk : List LK → List Value → Prop
  | [], [] => True
  | k :: ks, v :: vs => k.ok v ∧ AllOk ks vs
  | _, _ => False
def leavesKF (P : Program) (lv : TypeId → Option (List LK)) : List Field → Nat → Option (List LK)
  | [], _ => some []
  | f :: rest, k => match lv f.type with
    | some ks => match Nat.beq f.offset k && Nat.beq (P.cellsOf f.type) ks.length with
      | true => match leavesKF P lv rest (k + ks.length) with
        | some r => some (ks ++ r)
        | none => none
      | false => none
    | none => none
def leavesK (P : Program) : Nat → TypeId → Option (List LK)
  | 0, _ => none
  | d + 1, t => match P.underlying t with
    | some .bool => some [.b]
    | some (.int k) => some [.i k]
    | some .string => some [.s]
    | some (.struct fs) => match leavesKF P (leavesK P d) fs.toList 0 with
      | some ks => match Nat.beq (P.cellsOf t) ks.length with
        | true => some ks
        | false => none
      | none => none
    | _ => none
theorem AllOk.append : ∀ {ks ks' : List LK} {l l' : List Value}, AllOk ks l → AllOk ks' l' → AllOk (ks ++ ks') (l ++ l') := by
  intro ks
  induction ks with
  | nil => intro ks' l l' h h'; cases l with | nil => exact h' | cons => exact h.elim
  | cons k ks ih => intro ks' l l' h h'; cases l with | nil => exact h.elim | cons v l => exact ⟨h.1, ih h.2 h'⟩
theorem AllOk.flat : ∀ {ks : List LK} {l : List Value}, AllOk ks l → ∀ v ∈ l, vflat 8 v = true := by
  intro ks
  induction ks with
  | nil => intro l h v hv; cases l with | nil => cases hv | cons => exact h.elim
  | cons k ks ih =>
    intro l h v hv
    cases l with
    | nil => exact h.elim
    | cons x l =>
      rcases List.mem_cons.1 hv with rfl | hv
      · have h1 := h.1
        cases k <;> (obtain ⟨y, rfl⟩ := h1; rfl)
      · exact ih h.2 v hv
theorem trod_leaves {H : Type} {enc : TypeId × Value → H} {P : Program} {W : World} {base : Nat} {spare : Nat → Bool} {held : Bool} : ∀ (d : Nat) (t : TypeId) (ks : List LK), leavesK P d t = some ks →
    ∀ (fuel : Nat) (cs : List Value) (x : DataW H × List MemPlace), DataW.trod enc P W base spare held fuel t cs = some x → AllOk ks cs := by
  intro d
  induction d with
  | zero => intro t ks h; cases h
  | succ d ih =>
    intro t ks h fuel cs x hx
    simp only [leavesK] at h
    split at h
    · rename_i ht; cases h; obtain ⟨b, rfl, _⟩ := DataW.trod_bool ht hx; exact ⟨⟨b, rfl⟩, trivial⟩
    · rename_i k ht; cases h; obtain ⟨n, rfl, _⟩ := DataW.trod_int ht hx; exact ⟨⟨n, rfl⟩, trivial⟩
    · rename_i ht; cases h; obtain ⟨s, rfl, _⟩ := DataW.trod_string ht hx; exact ⟨⟨s, rfl⟩, trivial⟩
    · rename_i fs ht
      split at h
      · rename_i ks0 hk0
        split at h
        · rename_i hsz
          cases h
          rw [Nat.beq_eq] at hsz
          obtain ⟨xs, n, _, _, hl, hxl, hall⟩ := DataW.trod_struct ht hx
          rw [hsz] at hl
          have key : ∀ (l : List Field) (j k : Nat) (ks : List LK), l = fs.toList.drop j → leavesKF P (leavesK P d) l k = some ks → k + ks.length ≤ cs.length → AllOk ks ((cs.drop k).take ks.length) := by
            intro l
            induction l with
            | nil => intro j k ks _ h _; cases h; simp [AllOk]
            | cons f l ihl =>
              intro j k ks hj h hle
              simp only [leavesKF] at h
              split at h
              · rename_i ks1 h1
                split at h
                · rename_i hc
                  simp only [Bool.and_eq_true, Nat.beq_eq] at hc
                  split at h
                  · rename_i r hr
                    cases h
                    rw [List.length_append] at hle ⊢
                    have hjl : j < fs.toList.length := by
                      rcases Nat.lt_or_ge j fs.toList.length with h2 | h2
                      · exact h2
                      · rw [List.drop_eq_nil_of_le h2] at hj; cases hj
                    rw [List.drop_eq_getElem_cons hjl] at hj
                    obtain ⟨hf, hl2⟩ := List.cons.inj hj
                    have hfj : fs[j]? = some f := by
                      rw [← Array.getElem?_toList, List.getElem?_eq_getElem hjl, hf]
                    have q := hall j f hfj
                    have hxj : ∃ y, xs[j]? = some y := ⟨xs[j]'(by rw [hxl]; simpa using hjl), List.getElem?_eq_getElem _⟩
                    obtain ⟨y, hy⟩ := hxj
                    rw [hy, hc.1, hc.2] at q
                    have a1 := ih f.type ks1 h1 n _ y q
                    have a2 := ihl (j + 1) (k + ks1.length) r hl2 hr (by omega)
                    rw [List.take_add, List.drop_drop]
                    exact a1.append a2
                  · cases h
                · cases h
              · cases h
          have := key fs.toList 0 0 _ (by simp) hk0 (by omega)
          rw [List.drop_zero, List.take_of_length_le (by omega)] at this
          exact this
        · cases h
      · cases h
    · cases h
theorem part_treeF (f : Nat → Value) (N : Nat) : ∀ (k o : Nat), o + k ≤ N → Row.part (rowFn f N) o k = (List.range k).map fun j => f (o + j) := by
  intro k
  induction k with
  | zero => intro o _; rfl
  | succ k ih =>
    intro o h
    simp only [Row.part]
    rw [ih (o + 1) (by omega), List.range_succ_eq_map, List.map_cons, List.map_map]
    congr 1
    · show (treeF f N 0 .leaf).get undef o = _
      rw [treeF_get, if_pos ⟨Nat.zero_le _, by omega⟩]
      rfl
    · refine List.map_congr_left fun j _ => ?_
      show f (o + 1 + j) = f (o + (j + 1))
      congr 1
      omega
theorem ld_agg {P : Program} {t : TypeId} {d : TypeDesc} {i : TypeInfo} {h : AHeap} {b o N : Nat} {f : Nat → Value} {e : TypeId} (hd : P.underlying t = some d) (hi : P.info? t = some i) (hag : isAggD d = true) (hg : heapGet h b = .ro (rowFn f N) e) (hle : o + i.size ≤ N) :
    (ldB P t).un (.pointer (some ⟨b, o, none⟩)) h = some (.agg ⟨(List.range i.size).map fun j => f (o + j)⟩) := by
  unfold ldB
  rw [hd, hi]
  dsimp only
  rw [hag]
  show (match rowIn (heapGet h b) with | some c => (match c with | ⟨n, t⟩ => (match Nat.ble (Nat.add o i.size) n with | true => some (Value.agg ⟨partB i.size t o⟩) | false => none)) | none => none) = _
  rw [hg]
  show (match Nat.ble (Nat.add o i.size) N with | true => some (Value.agg ⟨partB i.size (treeF f N 0 .leaf) o⟩) | false => none) = _
  rw [show Nat.ble (Nat.add o i.size) N = true by rw [Nat.ble_eq]; exact hle]
  dsimp only
  rw [show partB i.size (treeF f N 0 .leaf) o = Row.part (rowFn f N) o i.size from partB_eq (rowFn f N) i.size o, part_treeF f N _ _ hle]
theorem ix_slice {P : Program} {t e : TypeId} {ei : TypeInfo} {b o n c i : Nat} {k : IntKind} (ht : P.underlying t = some (.slice e)) (he : P.info? e = some ei) (h : i < n) :
    (iaB P t).un (.slice (some ⟨b, o, none⟩) n c) (.int k (.ofNat i)) = some (.pointer (some ⟨b, Nat.add o (Nat.mul i ei.size), none⟩)) := by
  unfold iaB
  rw [ht]
  dsimp only
  rw [he]
  show idxOf (.ofNat i) n (fun m => some (Value.pointer (some ⟨b, Nat.add o (Nat.mul m ei.size), none⟩))) = _
  unfold idxOf
  dsimp only
  rw [show Nat.blt i n = true by rw [Nat.blt_eq]; exact h]
end Go.Ab
namespace Go.Ab
open Go Go.RowKit
variable {P : Program} {G : Nat}

/-! ## What a function answers, by a told run, and for whole families of arguments -/
theorem memo_of_told {CB : CallB} {CC : CallC} (hs : CallSound P G (callOf CB)) (hC : CallEq CB CC) {x : Memo} {tp : Tape} {r : OutC} (ha : x.args.all (vflat 8) = true) (hv : vflat 8 x.v = true)
    (h : (CC x.f).un x.args.toArray (bareOf G) tp [] = some r) (hr : r.v = x.v) (hl : NotedOk r.lg) : MemoOk P x := by
  refine memo_of_quick hs ha hv ?_
  rw [(hC _ _ _ _ _ _ h hl).2, ← hr]
  rfl
/-- What such a run said and noted. -/
def saidC (r : Option OutC) : Option (Value × Noted) := match r with | some o => some (o.v, o.lg) | none => none
theorem memo_of_said {CB : CallB} {CC : CallC} (hs : CallSound P G (callOf CB)) (hC : CallEq CB CC) {x : Memo} {tp : Tape} {lg : Noted} (ha : x.args.all (vflat 8) = true) (hv : vflat 8 x.v = true)
    (h : saidC ((CC x.f).un x.args.toArray (bareOf G) tp []) = some (x.v, lg)) (hl : NotedOk lg) : MemoOk P x := by
  unfold saidC at h
  split at h
  · rename_i o ho
    simp only [Option.some.injEq, Prod.mk.injEq] at h
    exact memo_of_told hs hC ha hv ho h.1 (by rw [h.2]; exact hl)
  · cases h
/-- A function that is known for all arguments of a kind. -/
def famK (f : FuncId) (F : List Value → Option Value) : Known := fun g => match Nat.beq f g with
  | true => some fun args h => match F args.toList with | some v => some (v, h) | none => none
  | false => none
theorem famK_sound {f : FuncId} {F : List Value → Option Value} (hF : ∀ l v, F l = some v → MemoOk P ⟨f, l, v⟩) : CallSound P G (famK f F).call := by
  intro g args h v h' e
  unfold Known.call famK at e
  cases hb : Nat.beq f g with
  | false => rw [hb] at e; cases e
  | true =>
    rw [hb] at e
    obtain rfl := Nat.eq_of_beq_eq_true hb
    dsimp only at e
    split at e
    · rename_i v0 hv
      simp only [Option.some.injEq, Prod.mk.injEq] at e
      obtain ⟨rfl, rfl⟩ := e
      obtain ⟨k1, k2, k3⟩ := hF _ _ hv
      refine ⟨Nx.refl _, fun B m args' w ha hr hG => ?_⟩
      have e2 : args' = args := by
        refine Array.ext ha.1.symm fun i a b => ?_
        exact (ha.2 i b a).of_flat 8 (List.all_eq_true.1 k1 _ (by simp))
      rw [e2]
      have k3' : Calls P f args w fun e w' => e = .returned v0 ∧ Below w.heap.size w w' := by
        have := k3 w
        rwa [Array.toArray_toList] at this
      refine k3'.mono ?_
      rintro e w' ⟨rfl, hb⟩
      exact ⟨_, m, rfl, Ext.refl _ m, hr.below hb, vflat_rel m 8 _ k2⟩
    · cases e
/-- One known function ahead of others. -/
def orK (a b : Known) : Known := fun g => match a g with
  | some x => some x
  | none => b g
theorem orK_sound {a b : Known} (ha : CallSound P G a.call) (hb : CallSound P G b.call) : CallSound P G (orK a b).call := by
  intro g args h v h' e
  unfold Known.call orK at e
  cases hg : a g with
  | some x =>
    rw [hg] at e
    exact ha g args h v h' (by unfold Known.call; rw [hg]; exact e)
  | none =>
    rw [hg] at e
    exact hb g args h v h' e
end Go.Ab
namespace Go.Ab
open Go Go.RowKit
section
variable {P : Program}

/-! ## Fences that bar nothing -/
structure Wide (P : Program) (F : Fence) : Prop where
  fn : ∀ f, F.fn f
  depth : F.depth = none
  calls : ∀ {n : Nat} {f : FuncId} {args : Array Value} {w : World} {R : Ending → World → Prop}, Calls P f args w R → CallsIn F n P f args w R
theorem wideWide : Wide P Fence.wide := ⟨fun _ => trivial, rfl, fun h => callsIn_wide.2 h⟩
theorem wideRound (l : Nat) : Wide P (Fence.wide.inRound l) := ⟨fun _ => trivial, rfl, fun h => CallsIn.inRound l (callsIn_wide.2 h)⟩

theorem stepIn_sound {F : Fence} (hF : Wide P F) {nn : Nat} {B : Base} {G n : Nat} {enters : FuncId → FKind} {callF : CallF} (hE : Enters P enters) (hz : ZF P) (hC : CallSound P G callF) {ops : Array Oper} {o : Oper} {T : Tree Value} {h h' : AHeap} {v : Value}
    (he : stepA P enters callF ops o T h = some (v, h')) {m : Mu} {a : Act} {w : World} (hT : TRel m n T a.tmps) (hr : Rel P B m h w) (hG : GRel G m) (hok : opOk G n o = true)
    (hd : ∀ (j : Nat) (d : Nat), (ops[j]?).bind (·.dst) = some d → d < n)
    {K : Act → World → Prop} {Q : Exit → Act → World → Prop} (hK : ∀ m' v' w', Ext h m m' → Rel P B m' h' w' → VRel m' v v' → K (a.put o.dst v') w') :
    if Region.wanted o (yielded ops a.tmps) then o.wpIn F nn P a w K Q else (∀ f, o.about P w a.eval = some f → F.fn f) ∧ K (a.put o.dst undef) w := by
  have hw := wanted_eq hT ops o hd
  unfold opOk at hok
  simp only [Bool.and_eq_true] at hok
  have hρ : ∀ x ∈ o.op.operands.toList, VRel m (rhoA T x) (a.eval x) := fun x hx => rho_rel hT hG (List.all_eq_true.1 hok.1 x hx)
  unfold stepA at he
  split at he
  · rename_i h0
    rw [hw, h0, if_pos rfl]
    have hs := opA_sound hE hz (o := o) (ρ := rhoA T) (ρ' := a.eval) hr hρ
    have hnd : ∀ c, o.op ≠ .defer c := by
      intro c hc
      have : opA P enters (rhoA T) o h = none := by unfold opA; rw [hc]
      rw [this] at he
      cases he
    refine ⟨fun f _ => hF.fn f, ?_⟩
    rw [Oper.semAt_eq _ _ _ hnd]
    split at he
    · rename_i x hx h1
      simp only [Option.some.injEq, Prod.mk.injEq] at he
      obtain ⟨rfl, rfl⟩ := he
      obtain ⟨nx, w', m', e1, e2, e3, e4⟩ := hs _ _ h1
      rw [e1]
      cases nx <;> first | exact e4.elim | skip
      exact hK m' _ w' e2 e3 e4
    · rename_i hx h1
      simp only [Option.some.injEq, Prod.mk.injEq] at he
      obtain ⟨rfl, rfl⟩ := he
      obtain ⟨nx, w', m', e1, e2, e3, e4⟩ := hs _ _ h1
      rw [e1]
      cases nx <;> first | exact e4.elim | skip
      exact hK m' _ w' e2 e3 (undef_rel m')
    · rename_i f args h2 h1
      obtain ⟨nx, w', m', e1, e2, e3, e4⟩ := hs _ _ h1
      rw [e1]
      cases nx <;> first | exact e4.elim | skip
      obtain ⟨rfl, e5⟩ := e4
      obtain ⟨_, hcs⟩ := hC _ _ _ _ _ he
      have q := opA_next h1
      refine ⟨(fun h => by rw [hF.depth] at h; cases h), hF.calls ((hcs B m' _ w' e5 e3 (hG.mono e2.1)).mono ?_)⟩
      rintro e w2 ⟨v', m2, rfl, c2, c3, c4⟩
      exact hK m2 v' w2 (e2.trans c2 q.1 q.2.1) c3 c4
    · cases he
  · rename_i h0
    rw [hw, h0]
    simp only [Option.some.injEq, Prod.mk.injEq] at he
    obtain ⟨rfl, rfl⟩ := he
    simp only [Bool.false_eq_true, if_false]
    exact ⟨fun f _ => hF.fn f, hK m undef w (Ext.refl _ m) hr (undef_rel m)⟩

/-! ## Operations that may call 'yield' -/
/-- Stands for 'yield': nothing looks at it. -/
def tokA : Value := .chan (some 7)
def yv (l : Nat) : Value := .func (.yield l) #[] #[]
theorem tok_rel (m : Mu) (l : Nat) : VRel m tokA (yv l) := .any 7 _ (fun _ h => by cases h) (fun _ h => by cases h) (fun _ h => by cases h)
abbrev YF := List Value → AHeap → Option AHeap
def hasT : List Nat → Nat → Bool
  | [], _ => false
  | x :: l, k => match Nat.beq x k with | true => true | false => hasT l k
theorem hasT_cons {x : Nat} {l : List Nat} {k : Nat} (h : hasT (x :: l) k = true) : k = x ∨ hasT l k = true := by
  simp only [hasT] at h
  split at h
  · rename_i e; exact .inl (Nat.eq_of_beq_eq_true e).symm
  · exact .inr h
theorem hasT_tail {x : Nat} {l : List Nat} {k : Nat} (h : hasT l k = true) : hasT (x :: l) k = true := by
  simp only [hasT]
  split
  · rfl
  · exact h
def dstIn (tk : List Nat) (o : Oper) : Bool := match o.dst with | some d => hasT tk d | none => false
inductive YK where
  | move (d : Nat) (k : Nat)
  | call (as : List Operand)
  | plain
/-- What an operation does with 'yield'. -/
def yKind (tk : List Nat) (o : Oper) : YK := match o.guard with
  | some _ => .plain
  | none => match o.op with
    | .move (.tmp k) => (match hasT tk k, o.dst with | true, some d => .move d k | _, _ => .plain)
    | .call c => (match c.callee with | .value (.tmp k) => (match hasT tk k with | true => .call c.args.toList | false => .plain) | _ => .plain)
    | _ => .plain
noncomputable def runY (P : Program) (enters : FuncId → FKind) (CB : CallB) (Y : YF) (ops : Array Oper) : List Oper → List Nat → Tree Value → AHeap → Option (Tree Value × AHeap)
  | [], _, T, h => some (T, h)
  | o :: rest, tk, T, h => match dstIn tk o with
    | true => none
    | false => match yKind tk o with
      | .move d _ => runY P enters CB Y ops rest (d :: tk) ((putB (some d)).un T tokA) h
      | .call as => match Y ((argsB as).un T) h with
        | some h' => runY P enters CB Y ops rest tk ((putB o.dst).un T (.bool true)) h'
        | none => none
      | .plain => match (stepB P enters CB ops o).un T h with
        | some (v, h') => runY P enters CB Y ops rest tk ((putB o.dst).un T v) h'
        | none => none
/-- What is asked of the rounds. -/
def YGood (P : Program) (F : Fence) (G : Nat) (m1 : Mu) (B : Base) (l : Nat) (Y : YF) : Prop := ∀ args h h', Y args h = some h' → Nx h h' ∧
  ∀ (nn : Nat) m args' w, Mu.le m1 m → ARel m ⟨args⟩ args' → Rel P B m h w → GRel G m →
    ∃ f tmps asg bd, (Instr.yield l args').run P w = .ok (.round l f tmps asg bd) w ∧ RoundIn F nn P l f tmps asg bd w (fun e w' => ∃ m', e = .returned (.bool true) ∧ Ext h m m' ∧ Rel P B m' h' w')
theorem noY {F : Fence} {G : Nat} {m1 : Mu} {B : Base} {l : Nat} : YGood P F G m1 B l (fun _ _ => none) := fun _ _ _ h => by cases h
theorem put_keeps {a : Act} {dst : Option Tmp} {v : Value} {k : Nat} (h : dst ≠ some k) : (a.put dst v).tmps[k]? = a.tmps[k]? := by
  cases dst with
  | none => rfl
  | some d =>
    have : d ≠ k := fun e => h (by rw [e])
    simp [Act.put, this]
theorem runY_sound {F : Fence} (hF : Wide P F) {nn : Nat} {B : Base} {G n : Nat} {enters : FuncId → FKind} {CB : CallB} (hE : Enters P enters) (hz : ZF P) (hC : CallSound P G (callOf CB)) {Y : YF} {m1 : Mu} {l : Nat} (hY : YGood P F G m1 B l Y) {ops : Array Oper}
    {Q : Exit → Act → World → Prop} : ∀ (L : List Oper) (tk : List Nat) (T : Tree Value) (h : AHeap) (T' : Tree Value) (h' : AHeap),
    runY P enters CB Y ops L tk T h = some (T', h') → Nx h h' ∧ ((∀ (j : Nat) (d : Nat), (ops[j]?).bind (·.dst) = some d → d < n) → ∀ (m : Mu) (a : Act) (w : World), L.all (opOk G n) = true → Mu.le m1 m → TRel m n T a.tmps → Rel P B m h w → GRel G m → (∀ k, hasT tk k = true → a.tmps[k]? = some (yv l)) →
    (∀ m' a' w', Ext h m m' → TRel m' n T' a'.tmps → a'.defers = a.defers → Rel P B m' h' w' → (∀ k, hasT tk k = true → a'.tmps[k]? = some (yv l)) → Q .normal a' w') → wpListIn F nn P ops Q L a w) := by
  intro L
  induction L with
  | nil =>
    intro tk T h T' h' e
    simp only [runY, Option.some.injEq, Prod.mk.injEq] at e
    obtain ⟨rfl, rfl⟩ := e
    exact ⟨Nx.refl _, fun _ m a w _ _ hT hr hG htk hQ => hQ m a w (Ext.refl _ m) hT rfl hr htk⟩
  | cons o L ih =>
    intro tk T h T' h' e
    simp only [runY] at e
    split at e
    · cases e
    rename_i hdi
    have hne : ∀ k, hasT tk k = true → o.dst ≠ some k := by
      intro k hk hc
      unfold dstIn at hdi
      rw [hc] at hdi
      exact absurd (show hasT tk k = false from hdi) (by rw [hk]; simp)
    have defs : ∀ (a : Act) (v : Value), (a.put o.dst v).defers = a.defers := fun a v => by cases o.dst <;> rfl
    have hdo : opOk G n o = true → ∀ d, o.dst = some d → d < n := by
      intro hok d e
      unfold opOk at hok
      rw [e] at hok
      simp only [Bool.and_eq_true, Nat.blt_eq] at hok
      exact hok.2
    split at e
    · rename_i d k hk
      have hk2 : o.guard = none ∧ o.op = .move (.tmp k) ∧ hasT tk k = true ∧ o.dst = some d := by
        unfold yKind at hk
        split at hk
        · cases hk
        rename_i hg
        split at hk
        · rename_i k' ho
          split at hk
          · rename_i h1 h2
            simp only [YK.move.injEq] at hk
            obtain ⟨rfl, rfl⟩ := hk
            exact ⟨hg, ho, h1, h2⟩
          · cases hk
        · split at hk
          · split at hk <;> cases hk
          · cases hk
        · cases hk
      obtain ⟨g1, g2, g3, g4⟩ := hk2
      obtain ⟨q1, q2⟩ := ih _ _ _ _ _ e
      refine ⟨q1, fun hd m a w hl hle hT hr hG htk hQ => ?_⟩
      simp only [List.all_cons, Bool.and_eq_true] at hl
      unfold wpListIn
      rw [if_pos (by unfold Region.wanted; rw [g1])]
      refine ⟨fun f _ => hF.fn f, ?_⟩
      rw [Oper.semAt_eq _ _ _ (fun c hc => by rw [g2] at hc; cases hc)]
      have hev : a.eval (.tmp k) = yv l := by
        show a.tmps.getD k undef = yv l
        rw [Array.getD_eq_getD_getElem?, htk k g3]; rfl
      have hrun : (execOp a.eval o).run P w = .ok (.value (yv l)) w := by
        unfold execOp
        rw [g2]
        show (Pure.pure (Next.value (a.eval (.tmp k))) : Sem Next).run P w = _
        rw [hev, Sem.run_pure]
      rw [hrun]
      show wpListIn F nn P ops Q L (a.put o.dst (yv l)) w
      have hsz : ∀ k, hasT (d :: tk) k = true → (a.put o.dst (yv l)).tmps[k]? = some (yv l) := by
        intro k' hk'
        rcases hasT_cons hk' with rfl | hk'
        · rw [g4]
          have hlt : k' < a.tmps.size := by rw [hT.size]; exact hdo hl.1 _ g4
          simp [Act.put, hlt]
        · rw [put_keeps (hne k' hk')]; exact htk k' hk'
      refine q2 hd m _ w hl.2 hle ?_ hr hG hsz ?_
      · rw [putB_eq, g4]; exact hT.put (fun d' hd' => by cases hd'; exact hdo hl.1 d g4) (tok_rel m l)
      · intro m' a' w' c1 c2 c3 c4 c5
        exact hQ m' a' w' c1 c2 (c3.trans (defs a _)) c4 (fun k' hk' => c5 k' (hasT_tail hk'))
    · rename_i as hk
      have hk2 : ∃ k c, o.guard = none ∧ o.op = .call c ∧ c.callee = .value (.tmp k) ∧ hasT tk k = true ∧ as = c.args.toList := by
        unfold yKind at hk
        split at hk
        · cases hk
        rename_i hg
        split at hk
        · split at hk <;> cases hk
        · rename_i c ho
          split at hk
          · rename_i k hc
            split at hk
            · rename_i h1
              simp only [YK.call.injEq] at hk
              exact ⟨k, c, hg, ho, hc, h1, hk.symm⟩
            · cases hk
          · cases hk
        · cases hk
      obtain ⟨k, c, g1, g2, g3, g4, rfl⟩ := hk2
      split at e
      · rename_i h2 hy
        obtain ⟨y1, y2⟩ := hY _ _ _ hy
        obtain ⟨q1, q2⟩ := ih _ _ _ _ _ e
        refine ⟨y1.trans q1, fun hd m a w hl hle hT hr hG htk hQ => ?_⟩
        simp only [List.all_cons, Bool.and_eq_true] at hl
        unfold wpListIn
        rw [if_pos (by unfold Region.wanted; rw [g1])]
        refine ⟨fun f _ => hF.fn f, ?_⟩
        rw [Oper.semAt_eq _ _ _ (fun c hc => by rw [g2] at hc; cases hc)]
        have hev : a.eval (.tmp k) = yv l := by
          show a.tmps.getD k undef = yv l
          rw [Array.getD_eq_getD_getElem?, htk k g4]; rfl
        have ha : ARel m ⟨(argsB c.args.toList).un T⟩ (c.args.map a.eval) := by
          rw [argsB_eq]
          refine ⟨by simp, fun i hi hi' => ?_⟩
          simp only [List.getElem_toArray, List.getElem_map, Array.getElem_map, Array.getElem_toList]
          refine rho_rel hT hG ?_
          have hok := hl.1
          unfold opOk at hok
          simp only [Bool.and_eq_true] at hok
          refine List.all_eq_true.1 hok.1 _ ?_
          rw [g2]
          have hlt : i < c.args.size := by simpa using hi'
          have hm : c.args[i] ∈ c.args := Array.getElem_mem hlt
          show _ ∈ (Op.operands (.call c)).toList
          simp only [Op.operands, Call.operands, Array.toList_append, List.mem_append]
          exact .inr (Array.mem_toList_iff.2 hm)
        obtain ⟨f, tmps, asg, bd, hyr, hround⟩ := y2 (nn - 1) m _ w hle ha hr hG
        have hrun : (execOp a.eval o).run P w = .ok (.round l f tmps asg bd) w := by
          unfold execOp
          rw [g2]
          simp only [resolve, g3, hev, yv, Deferred.ofValue, pure_bind, invoke]
          simpa using hyr
        rw [hrun]
        refine ⟨(fun h => by rw [hF.depth] at h; cases h), hround.mono ?_⟩
        rintro e w' ⟨m', rfl, c1, c2⟩
        show wpListIn F nn P ops Q L (a.put o.dst (.bool true)) w'
        refine q2 hd m' _ w' hl.2 (Mu.le_trans hle c1.1) ?_ c2 (hG.mono c1.1) (fun k' hk' => by rw [put_keeps (hne k' hk')]; exact htk k' hk') ?_
        · rw [putB_eq]; exact (hT.mono c1.1).put (hdo hl.1) (.bool true)
        · intro m2 a2 w2 d1 d2 d3 d4 d5
          exact hQ m2 a2 w2 (c1.trans d1 y1.1 y1.2.1) d2 (d3.trans (defs a _)) d4 d5
      · cases e
    · split at e
      · rename_i v h2 h1
        have h1 := stepB_some h1
        have q := stepA_next hC h1
        obtain ⟨q1, q2⟩ := ih _ _ _ _ _ e
        refine ⟨q.trans q1, fun hd m a w hl hle hT hr hG htk hQ => ?_⟩
        simp only [List.all_cons, Bool.and_eq_true] at hl
        have hs := stepIn_sound hF (nn := nn) (B := B) hE hz hC h1 hT hr hG hl.1 hd (Q := Q) (K := wpListIn F nn P ops Q L) (fun m' v' w' c1 c2 c3 => by
          refine q2 hd m' (a.put o.dst v') w' hl.2 (Mu.le_trans hle c1.1) ?_ c2 (hG.mono c1.1) (fun k' hk' => by rw [put_keeps (hne k' hk')]; exact htk k' hk') ?_
          · rw [putB_eq]; exact (hT.mono c1.1).put (hdo hl.1) c3
          · intro m2 a2 w2 d1 d2 d3 d4 d5
            exact hQ m2 a2 w2 (c1.trans d1 q.1 q.2.1) d2 (d3.trans (defs a _)) d4 d5)
        unfold wpListIn
        exact hs
      · cases e

/-! ## Code that may call 'yield' -/
noncomputable def codeY (P : Program) (enters : FuncId → FKind) (CB : CallB) (Y : YF) (K : Nat) (tk : List Nat) : Code → Box (Tree Value → AHeap → RC)
  | .skip => ⟨fun T h => .normal T h⟩
  | .label _ => ⟨fun T h => .normal T h⟩
  | .exit id => ⟨fun T h => .exit id T h⟩
  | .ret => ⟨fun T h => .ret T h⟩
  | .region _ ops false => ⟨fun T h => rcOf (runY P enters CB Y ops ops.toList tk T h)⟩
  | .seq a b => ⟨fun T h => match (codeY P enters CB Y K tk a).un T h with | .normal T' h' => (codeY P enters CB Y K tk b).un T' h' | .none => .none | .exit id T' h' => .exit id T' h' | .ret T' h' => .ret T' h'⟩
  | .cond c a b => ⟨fun T h => vBool ((rdB c).un T) (fun t => match t with | true => (codeY P enters CB Y K tk a).un T h | false => (codeY P enters CB Y K tk b).un T h) .none⟩
  | .block id c => ⟨fun T h => match (codeY P enters CB Y K tk c).un T h with | .exit id' T' h' => (match Nat.beq id' id with | true => .normal T' h' | false => .exit id' T' h') | .none => .none | .normal T' h' => .normal T' h' | .ret T' h' => .ret T' h'⟩
  | .loop c => ⟨fun T h => loopB (codeY P enters CB Y K tk c).un K T h⟩
  | _ => ⟨fun _ _ => .none⟩
def GoodY (P : Program) (F : Fence) (nn G n : Nat) (m1 : Mu) (B : Base) (l : Nat) (tk : List Nat) (c : Code) (T : Tree Value) (h : AHeap) (e : AExit) (T' : Tree Value) (h' : AHeap) : Prop := Nx h h' ∧
  ∀ (m : Mu) (a : Act) (w : World) (Q : Exit → Act → World → Prop), codeOk G n c = true → Mu.le m1 m → TRel m n T a.tmps → Rel P B m h w → GRel G m → (∀ k, hasT tk k = true → a.tmps[k]? = some (yv l)) →
    (∀ m' a' w', Ext h m m' → TRel m' n T' a'.tmps → a'.defers = a.defers → Rel P B m' h' w' → (∀ k, hasT tk k = true → a'.tmps[k]? = some (yv l)) → Q e.toExit a' w') → c.wpIn F nn P Q a w
def RoundsY (P : Program) (F : Fence) (nn G n : Nat) (m1 : Mu) (B : Base) (l : Nat) (tk : List Nat) (c : Code) (k : Nat) (T : Tree Value) (h : AHeap) (e : AExit) (T' : Tree Value) (h' : AHeap) : Prop := Nx h h' ∧
  ∀ (m : Mu) (a : Act) (w : World) (Q : Exit → Act → World → Prop), codeOk G n c = true → Mu.le m1 m → TRel m n T a.tmps → Rel P B m h w → GRel G m → (∀ k, hasT tk k = true → a.tmps[k]? = some (yv l)) →
    (∀ m' a' w', Ext h m m' → TRel m' n T' a'.tmps → a'.defers = a.defers → Rel P B m' h' w' → (∀ k, hasT tk k = true → a'.tmps[k]? = some (yv l)) → Q e.toExit a' w') → Code.roundsIn F nn P c Q k a w
theorem codeY_sound {F : Fence} (hF : Wide P F) {nn G n : Nat} {enters : FuncId → FKind} {CB : CallB} (hE : Enters P enters) (hz : ZF P) (hC : CallSound P G (callOf CB)) {Y : YF} {m1 : Mu} {B : Base} {l : Nat} (hY : YGood P F G m1 B l Y) (K : Nat) {tk : List Nat} :
    ∀ (c : Code) (T : Tree Value) (h : AHeap) (e : AExit) (T' : Tree Value) (h' : AHeap), (codeY P enters CB Y K tk c).un T h = RC.of e T' h' → GoodY P F nn G n m1 B l tk c T h e T' h' := by
  intro c
  induction c with
  | skip =>
    intro T h e T' h' q
    cases e <;> cases q
    exact ⟨Nx.refl _, fun m a w Q _ hle hT hr hG htk hQ => wpIn_skip (hQ m a w (Ext.refl _ m) hT rfl hr htk)⟩
  | label _ =>
    intro T h e T' h' q
    cases e <;> cases q
    exact ⟨Nx.refl _, fun m a w Q _ hle hT hr hG htk hQ => wpIn_label (hQ m a w (Ext.refl _ m) hT rfl hr htk)⟩
  | exit id =>
    intro T h e T' h' q
    cases e <;> cases q
    exact ⟨Nx.refl _, fun m a w Q _ hle hT hr hG htk hQ => wpIn_exit (hQ m a w (Ext.refl _ m) hT rfl hr htk)⟩
  | ret =>
    intro T h e T' h' q
    cases e <;> cases q
    exact ⟨Nx.refl _, fun m a w Q _ hle hT hr hG htk hQ => wpIn_ret (hQ m a w (Ext.refl _ m) hT rfl hr htk)⟩
  | region id ops d =>
    intro T h e T' h' q
    cases d with
    | false =>
      obtain ⟨rfl, h1⟩ := rcOf_some q
      exact ⟨(runY_sound (n := n) (Q := fun _ _ _ => True) hF (nn := nn) hE hz hC hY _ _ _ _ _ _ h1).1, fun m a w Q hok hle hT hr hG htk hQ =>
        wpIn_region_list ((runY_sound hF hE hz hC hY _ _ _ _ _ _ h1).2 (dst_of_ok hok) m a w hok hle hT hr hG htk hQ)⟩
    | true => cases e <;> cases q
  | seq x y ihx ihy =>
    intro T h e T' h' q
    simp only [codeY] at q
    have other : ∀ (e : AExit) (T' : Tree Value) (h' : AHeap), e ≠ .normal → GoodY P F nn G n m1 B l tk x T h e T' h' → GoodY P F nn G n m1 B l tk (.seq x y) T h e T' h' := by
      intro e T' h' hne ⟨q1, q2⟩
      refine ⟨q1, fun m a w Q hok hle hT hr hG htk hQ => wpIn_seq ?_⟩
      simp only [codeOk, Bool.and_eq_true] at hok
      refine q2 m a w _ hok.1 hle hT hr hG htk ?_
      intro m' a' w' c1 c2 c3 c4 c5
      have := hQ m' a' w' c1 c2 c3 c4 c5
      cases e with
      | normal => exact absurd rfl hne
      | exit id => exact this
      | ret => exact this
    split at q
    · rename_i T2 h2 h1
      obtain ⟨q1, q2⟩ := ihx _ _ .normal _ _ h1
      obtain ⟨r1, r2⟩ := ihy _ _ _ _ _ q
      refine ⟨q1.trans r1, fun m a w Q hok hle hT hr hG htk hQ => wpIn_seq ?_⟩
      simp only [codeOk, Bool.and_eq_true] at hok
      refine q2 m a w _ hok.1 hle hT hr hG htk ?_
      intro m' a' w' c1 c2 c3 c4 c5
      refine r2 m' a' w' Q hok.2 (Mu.le_trans hle c1.1) c2 c4 (hG.mono c1.1) c5 ?_
      intro m2 a2 w2 d1 d2 d3 d4 d5
      exact hQ m2 a2 w2 (c1.trans d1 q1.1 q1.2.1) d2 (d3.trans c3) d4 d5
    · cases e <;> cases q
    · rename_i id T2 h2 h1
      cases e <;> cases q
      exact other (.exit id) _ _ (fun h => by cases h) (ihx _ _ (.exit id) _ _ h1)
    · rename_i T2 h2 h1
      cases e <;> cases q
      exact other .ret _ _ (fun h => by cases h) (ihx _ _ .ret _ _ h1)
  | cond c0 x y ihx ihy =>
    intro T h e T' h' q
    simp only [codeY] at q
    obtain ⟨b, hb0, h1⟩ := vBool_rc q
    rw [rdB_eq] at hb0
    cases b with
    | true =>
      obtain ⟨q1, q2⟩ := ihx _ _ _ _ _ h1
      refine ⟨q1, fun m a w Q hok hle hT hr hG htk hQ => ?_⟩
      simp only [codeOk, Bool.and_eq_true] at hok
      have hb := rho_rel (a := a) hT hG hok.1.1
      rw [hb0] at hb
      refine wpIn_cond_true ?_ (q2 m a w Q hok.1.2 hle hT hr hG htk hQ)
      generalize a.eval c0 = z at hb ⊢
      cases hb; rfl
    | false =>
      obtain ⟨q1, q2⟩ := ihy _ _ _ _ _ h1
      refine ⟨q1, fun m a w Q hok hle hT hr hG htk hQ => ?_⟩
      simp only [codeOk, Bool.and_eq_true] at hok
      have hb := rho_rel (a := a) hT hG hok.1.1
      rw [hb0] at hb
      refine wpIn_cond_false ?_ (q2 m a w Q hok.2 hle hT hr hG htk hQ)
      generalize a.eval c0 = z at hb ⊢
      cases hb; rfl
  | block id c0 ih =>
    intro T h e T' h' q
    simp only [codeY] at q
    split at q
    · rename_i id' T2 h2 h1
      obtain ⟨q1, q2⟩ := ih _ _ (.exit id') _ _ h1
      split at q
      · rename_i hid
        rw [Nat.beq_eq] at hid
        cases e <;> cases q
        refine ⟨q1, fun m a w Q hok hle hT hr hG htk hQ => wpIn_block (q2 m a w _ hok hle hT hr hG htk ?_)⟩
        intro m' a' w' c1 c2 c3 c4 c5
        simp only [AExit.toExit, Exit.inBlock, hid, if_true]
        exact hQ m' a' w' c1 c2 c3 c4 c5
      · rename_i hid
        have hid' : id' ≠ id := by intro h; rw [h] at hid; simp at hid
        cases e <;> cases q
        refine ⟨q1, fun m a w Q hok hle hT hr hG htk hQ => wpIn_block (q2 m a w _ hok hle hT hr hG htk ?_)⟩
        intro m' a' w' c1 c2 c3 c4 c5
        simp only [AExit.toExit, Exit.inBlock, hid', if_false]
        exact hQ m' a' w' c1 c2 c3 c4 c5
    · cases e <;> cases q
    · rename_i T2 h2 h1
      cases e <;> cases q
      obtain ⟨q1, q2⟩ := ih _ _ .normal _ _ h1
      refine ⟨q1, fun m a w Q hok hle hT hr hG htk hQ => wpIn_block (q2 m a w _ hok hle hT hr hG htk ?_)⟩
      intro m' a' w' c1 c2 c3 c4 c5
      exact hQ m' a' w' c1 c2 c3 c4 c5
    · rename_i T2 h2 h1
      cases e <;> cases q
      obtain ⟨q1, q2⟩ := ih _ _ .ret _ _ h1
      refine ⟨q1, fun m a w Q hok hle hT hr hG htk hQ => wpIn_block (q2 m a w _ hok hle hT hr hG htk ?_)⟩
      intro m' a' w' c1 c2 c3 c4 c5
      exact hQ m' a' w' c1 c2 c3 c4 c5
  | loop c0 ih =>
    intro T h e T' h' q
    have key : ∀ (k : Nat) (T : Tree Value) (h : AHeap) (e : AExit) (T' : Tree Value) (h' : AHeap), loopB (codeY P enters CB Y K tk c0).un k T h = RC.of e T' h' → RoundsY P F nn G n m1 B l tk c0 k T h e T' h' := by
      intro k
      induction k with
      | zero => intro T h e T' h' q; cases e <;> cases q
      | succ k ihk =>
        intro T h e T' h' q
        have other : ∀ (e : AExit) (T' : Tree Value) (h' : AHeap), e ≠ .normal → GoodY P F nn G n m1 B l tk c0 T h e T' h' → RoundsY P F nn G n m1 B l tk c0 (k + 1) T h e T' h' := by
          intro e T' h' hne ⟨q1, q2⟩
          refine ⟨q1, fun m a w Q hok hle hT hr hG htk hQ => ?_⟩
          rw [roundsIn_succ]
          refine q2 m a w _ hok hle hT hr hG htk ?_
          intro m' a' w' c1 c2 c3 c4 c5
          have := hQ m' a' w' c1 c2 c3 c4 c5
          cases e with
          | normal => exact absurd rfl hne
          | exit id => exact this
          | ret => exact this
        have q' : (match (codeY P enters CB Y K tk c0).un T h with | .normal T' h' => loopB (codeY P enters CB Y K tk c0).un k T' h' | .none => .none | .exit id T' h' => .exit id T' h' | .ret T' h' => .ret T' h') = RC.of e T' h' := q
        split at q'
        · rename_i T2 h2 h1
          obtain ⟨q1, q2⟩ := ih _ _ .normal _ _ h1
          obtain ⟨r1, r2⟩ := ihk _ _ _ _ _ q'
          refine ⟨q1.trans r1, fun m a w Q hok hle hT hr hG htk hQ => ?_⟩
          rw [roundsIn_succ]
          refine q2 m a w _ hok hle hT hr hG htk ?_
          intro m' a' w' c1 c2 c3 c4 c5
          refine r2 m' a' w' Q hok (Mu.le_trans hle c1.1) c2 c4 (hG.mono c1.1) c5 ?_
          intro m2 a2 w2 d1 d2 d3 d4 d5
          exact hQ m2 a2 w2 (c1.trans d1 q1.1 q1.2.1) d2 (d3.trans c3) d4 d5
        · cases e <;> cases q'
        · rename_i id T2 h2 h1
          cases e <;> cases q'
          exact other (.exit id) _ _ (fun h => by cases h) (ih _ _ (.exit id) _ _ h1)
        · rename_i T2 h2 h1
          cases e <;> cases q'
          exact other .ret _ _ (fun h => by cases h) (ih _ _ .ret _ _ h1)
    obtain ⟨q1, q2⟩ := key K T h e T' h' q
    exact ⟨q1, fun m a w Q hok hle hT hr hG htk hQ => wpIn_loop_rounds K (q2 m a w Q hok hle hT hr hG htk hQ)⟩
  | _ =>
    intro T h e T' h' q
    cases e <;> cases q
end
end Go.Ab
