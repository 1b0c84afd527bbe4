import Derived.Test.YthapjgecggdliaaGreatDoorAbFl
namespace Go.Ab
open Go Go.RowKit

/-! ## A body, part by part, by the run that is told -/
structure SC where
  s : Tree Value × AHeap
  tp : Tape
  lg : Noted
  ok : Bool
section
variable {P : Program} {G n : Nat} {enters : FuncId → FKind} {CB : CallB} {CC : CallC} {DB : DrawB} {DC : DrawC}
noncomputable def goC (P : Program) (enters : FuncId → FKind) (CB : CallB) (CC : CallC) (DC : DrawC) (mk : Mk) (K : Nat) (r : Code) (s : Tree Value × AHeap) (tp : Tape) : SC :=
  match (codeC P enters CB CC DC mk K r).un s.1 s.2 tp [] with
  | .normal T h tp lg => ⟨(T, h), tp, lg, true⟩
  | _ => ⟨s, tp, [], false⟩
theorem goC_wp (hE : Enters P enters) (hz : ZF P) (hC : CallSound P G (callOf CB)) (hCC : CallEq CB CC) (hDC : DrawEq DB DC) (hD : DrawGood P G (fun ops T h => (DB ops).un T h)) {mk : Mk} {K : Nat} {r : Code} {s : Tree Value × AHeap} {tp : Tape} {B : Base} {m : Mu} {a : Act} {w : World} {Q : Exit → Act → World → Prop} {x : SC}
    (hp : plansOk P r = true) (hok : codeOk G n r = true) (hx : goC P enters CB CC DC mk K r s tp = x) (hs : x.ok = true) (hl : NotedOk x.lg) (hT : TRel m n s.1 a.tmps) (hr : Rel P B m s.2 w) (hG : GRel G m)
    (hk : ∀ m' a' w', GRel G m' → TRel m' n x.s.1 a'.tmps → a'.defers = a.defers → Rel P B m' x.s.2 w' → Q .normal a' w') : r.wp P Q a w := by
  subst hx
  have q := codeC_eq (P := P) (enters := enters) (DB := DB) hCC hDC mk K r s.1 s.2 tp []
  unfold goC at hs hl hk
  revert q hs hl hk
  cases (codeC P enters CB CC DC mk K r).un s.1 s.2 tp [] with
  | normal T' h' tp' lg' =>
    intro hs hl hk q
    obtain ⟨_, q2⟩ := codeB_sound (n := n) hE hz hC hD K r hp _ _ .normal _ _ (q hl).2
    exact q2 B m a w Q hok hT hr hG fun m' a' w' c1 c2 c3 c4 => hk m' a' w' (hG.mono c1.1) c2 c3 c4
  | _ => intro hs; cases hs

/-- So many rounds of a loop, none of which leaves it. -/
noncomputable def roundsC (f : Tree Value → AHeap → Tape → Noted → RCC) (K : Nat) : Tree Value × AHeap → Tape → Noted → SC :=
  Nat.rec (motive := fun _ => Tree Value × AHeap → Tape → Noted → SC) (fun s tp lg => ⟨s, tp, lg, true⟩) (fun _ ih s tp lg => match f s.1 s.2 tp lg with | .normal T' h' tp' lg' => ih (T', h') tp' lg' | _ => ⟨s, tp, lg, false⟩) K
theorem roundsC_wp (hE : Enters P enters) (hz : ZF P) (hC : CallSound P G (callOf CB)) (hCC : CallEq CB CC) (hDC : DrawEq DB DC) (hD : DrawGood P G (fun ops T h => (DB ops).un T h)) {mk : Mk} {K : Nat} {c : Code} (hp : plansOk P c = true) (hok : codeOk G n c = true)
    {B : Base} {Q : Exit → Act → World → Prop} {r : Nat} : ∀ (k : Nat) (s : Tree Value × AHeap) (tp : Tape) (lg : Noted) (x : SC) (m : Mu) (a : Act) (w : World),
    roundsC (codeC P enters CB CC DC mk K c).un k s tp lg = x → x.ok = true → NotedOk x.lg → TRel m n s.1 a.tmps → Rel P B m s.2 w → GRel G m →
    (∀ m' a' w', GRel G m' → TRel m' n x.s.1 a'.tmps → a'.defers = a.defers → Rel P B m' x.s.2 w' → Code.rounds P c Q r a' w') → NotedOk lg ∧ Code.rounds P c Q (r + k) a w := by
  intro k
  induction k with
  | zero =>
    intro s tp lg x m a w hx hs hl hT hr hG hk
    subst hx
    exact ⟨hl, hk m a w hG hT rfl hr⟩
  | succ k ih =>
    intro s tp lg x m a w hx hs hl hT hr hG hk
    have hx' : (match (codeC P enters CB CC DC mk K c).un s.1 s.2 tp lg with | .normal T' h' tp' lg' => roundsC (codeC P enters CB CC DC mk K c).un k (T', h') tp' lg' | _ => ⟨s, tp, lg, false⟩) = x := hx
    have q := codeC_eq (P := P) (enters := enters) (DB := DB) hCC hDC mk K c s.1 s.2 tp lg
    revert hx' q
    cases (codeC P enters CB CC DC mk K c).un s.1 s.2 tp lg with
    | normal T' h' tp' lg' =>
      intro hx' q
      have base : NotedOk lg' → (codeB P enters CB DB K c).un s.1 s.2 = .normal T' h' → NotedOk lg ∧ Code.rounds P c Q (r + (k + 1)) a w := by
        intro hl' hb
        refine ⟨(q hl').1, ?_⟩
        show Code.rounds P c Q ((r + k) + 1) a w
        rw [rounds_succ]
        obtain ⟨_, q2⟩ := codeB_sound (n := n) hE hz hC hD K c hp _ _ .normal _ _ hb
        refine q2 B m a w _ hok hT hr hG ?_
        intro m' a' w' c1 c2 c3 c4
        exact (ih (T', h') tp' lg' x m' a' w' hx' hs hl c2 c4 (hG.mono c1.1) fun m2 a2 w2 d1 d2 d3 d4 => hk m2 a2 w2 d1 d2 (d3.trans c3) d4).2
      have hlg : NotedOk lg' := by
        clear base q hT hr hG hk
        have mono : ∀ (k : Nat) (s : Tree Value × AHeap) (tp : Tape) (lg : Noted) (x : SC), roundsC (codeC P enters CB CC DC mk K c).un k s tp lg = x → x.ok = true → NotedOk x.lg → NotedOk lg := by
          intro k
          induction k with
          | zero => intro s tp lg x hx _ hl; subst hx; exact hl
          | succ k ihk =>
            intro s tp lg x hx hs hl
            have hx' : (match (codeC P enters CB CC DC mk K c).un s.1 s.2 tp lg with | .normal T' h' tp' lg' => roundsC (codeC P enters CB CC DC mk K c).un k (T', h') tp' lg' | _ => ⟨s, tp, lg, false⟩) = x := hx
            have q := codeC_eq (P := P) (enters := enters) (DB := DB) hCC hDC mk K c s.1 s.2 tp lg
            revert hx' q
            cases (codeC P enters CB CC DC mk K c).un s.1 s.2 tp lg with
            | normal T2 h2 tp2 lg2 => intro hx' q; exact (q (ihk _ _ _ _ hx' hs hl)).1
            | _ => intro hx' q; subst hx'; cases hs
        exact mono k _ _ _ _ hx' hs hl
      exact base hlg (q hlg).2
    | _ => intro hx' q; subst hx'; cases hs

/-- A loop to its end, and what stands behind it, to the function's end. -/
noncomputable def lastC (P : Program) (enters : FuncId → FKind) (CB : CallB) (CC : CallC) (DC : DrawC) (mk : Mk) (K : Nat) (fn : Func) (r : Code) (s : Tree Value × AHeap) (tp : Tape) : Option OutC :=
  match (codeC P enters CB CC DC mk K r).un s.1 s.2 tp [] with
  | .ret T h tp lg => (match (resB P fn.results.toList).un h T with | some vs => some ⟨oneA vs, h, tp, lg⟩ | none => none)
  | _ => none
theorem lastC_wp (hE : Enters P enters) (hz : ZF P) (hC : CallSound P G (callOf CB)) (hCC : CallEq CB CC) (hDC : DrawEq DB DC) (hD : DrawGood P G (fun ops T h => (DB ops).un T h)) {mk : Mk} {K : Nat} {r : Code} {s : Tree Value × AHeap} {tp : Tape} {fn : Func} {W : World} {m : Mu} {a : Act} {w : World} {v : Value} {x : OutC}
    (hp : plansOk P r = true) (hok : codeOk G n r = true) (hv : vflat 8 v = true) (hx : lastC P enters CB CC DC mk K fn r s tp = some x) (hxv : x.v = v) (hl : NotedOk x.lg) (hT : TRel m n s.1 a.tmps) (hr : Rel P (baseOf W) m s.2 w) (hG : GRel G m) (hd : a.defers = []) :
    r.wp P (bodyPost P fn fun e w' => e = .returned v ∧ Below W.heap.size W w') a w := by
  subst hxv
  have q := codeC_eq (P := P) (enters := enters) (DB := DB) hCC hDC mk K r s.1 s.2 tp []
  unfold lastC at hx
  revert q hx
  cases (codeC P enters CB CC DC mk K r).un s.1 s.2 tp [] with
  | ret T' h' tp' lg' =>
    intro hx q
    dsimp only at hx
    split at hx
    · rename_i vs hvs
      cases hx
      obtain ⟨_, q2⟩ := codeB_sound (n := n) hE hz hC hD K r hp _ _ .ret _ _ (q hl).2
      refine q2 (baseOf W) m a w _ hok hT hr hG ?_
      intro m' a' w' c1 c2 c3 c4
      obtain ⟨v', r1, r2⟩ := results_sound c4 c2 (resB_some hvs)
      exact ⟨c3.trans hd, v', r1, by rw [r2.of_flat 8 hv], below_of_rel c4⟩
    · cases hx
  | _ => intro hx; cases hx
end
end Go.Ab
