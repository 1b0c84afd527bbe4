import Derived.Test.YthapjgecggdliaaGreatDoorAbFh
namespace Go.Ab
open Go Go.RowKit

/-! ## A body, part by part, by the quick engine -/
section
variable {P : Program} {G n : Nat} {enters : FuncId → FKind} {CB : CallB} {DB : DrawB}

abbrev St := Tree Value × AHeap
noncomputable def goS (P : Program) (enters : FuncId → FKind) (CB : CallB) (DB : DrawB) (K : Nat) (r : Code) (s : St) : St :=
  match (codeB P enters CB DB K r).un s.1 s.2 with
  | .normal T h => (T, h)
  | _ => s
noncomputable def okS (P : Program) (enters : FuncId → FKind) (CB : CallB) (DB : DrawB) (K : Nat) (r : Code) (s : St) : Bool :=
  match (codeB P enters CB DB K r).un s.1 s.2 with
  | .normal _ _ => true
  | _ => false
theorem goS_wp (hE : Enters P enters) (hz : ZF P) (hC : CallSound P G (callOf CB)) (hD : DrawGood P G (fun ops T h => (DB ops).un T h)) {K : Nat} {r : Code} {s : St} {B : Base} {m : Mu} {a : Act} {w : World} {Q : Exit → Act → World → Prop}
    (hp : plansOk P r = true) (hok : codeOk G n r = true) (hs : okS P enters CB DB K r s = true) (hT : TRel m n s.1 a.tmps) (hr : Rel P B m s.2 w) (hG : GRel G m)
    (hk : ∀ m' a' w', GRel G m' → TRel m' n (goS P enters CB DB K r s).1 a'.tmps → a'.defers = a.defers → Rel P B m' (goS P enters CB DB K r s).2 w' → Q .normal a' w') : r.wp P Q a w := by
  unfold okS at hs
  split at hs
  · rename_i T' h' hc
    have hst : goS P enters CB DB K r s = (T', h') := by unfold goS; rw [hc]
    rw [hst] at hk
    obtain ⟨_, q2⟩ := codeB_sound (n := n) hE hz hC hD K r hp _ _ .normal _ _ hc
    exact q2 B m a w Q hok hT hr hG fun m' a' w' c1 c2 c3 c4 => hk m' a' w' (hG.mono c1.1) c2 c3 c4
  · cases hs
theorem goS_seq (hE : Enters P enters) (hz : ZF P) (hC : CallSound P G (callOf CB)) (hD : DrawGood P G (fun ops T h => (DB ops).un T h)) {K : Nat} {r b : Code} {s : St} {B : Base} {m : Mu} {a : Act} {w : World} {Q : Exit → Act → World → Prop}
    (hp : plansOk P r = true) (hok : codeOk G n r = true) (hs : okS P enters CB DB K r s = true) (hT : TRel m n s.1 a.tmps) (hr : Rel P B m s.2 w) (hG : GRel G m)
    (hk : ∀ m' a' w', GRel G m' → TRel m' n (goS P enters CB DB K r s).1 a'.tmps → a'.defers = a.defers → Rel P B m' (goS P enters CB DB K r s).2 w' → b.wp P Q a' w') : (Code.seq r b).wp P Q a w :=
  wp_seq (goS_wp hE hz hC hD hp hok hs hT hr hG hk)

noncomputable def endS (P : Program) (enters : FuncId → FKind) (CB : CallB) (DB : DrawB) (K : Nat) (fn : Func) (r : Code) (s : St) : Option Value :=
  match (codeB P enters CB DB K r).un s.1 s.2 with
  | .ret T' h' => match (resB P fn.results.toList).un h' T' with
    | some vs => some (oneA vs)
    | none => none
  | _ => none
theorem endS_wp (hE : Enters P enters) (hz : ZF P) (hC : CallSound P G (callOf CB)) (hD : DrawGood P G (fun ops T h => (DB ops).un T h)) {K : Nat} {r : Code} {s : St} {fn : Func} {W : World} {m : Mu} {a : Act} {w : World} {v : Value}
    (hp : plansOk P r = true) (hok : codeOk G n r = true) (hv : vflat 8 v = true) (hs : endS P enters CB DB K fn r s = some v) (hT : TRel m n s.1 a.tmps) (hr : Rel P (baseOf W) m s.2 w) (hG : GRel G m) (hd : a.defers = []) :
    r.wp P (bodyPost P fn fun e w' => e = .returned v ∧ Below W.heap.size W w') a w := by
  unfold endS at hs
  split at hs <;> try (cases hs; done)
  rename_i T' h' hc
  split at hs <;> try (cases hs; done)
  rename_i vs hvs
  obtain rfl := Option.some.inj hs
  obtain ⟨_, q2⟩ := codeB_sound (n := n) hE hz hC hD K r hp _ _ .ret _ _ hc
  refine q2 (baseOf W) m a w _ hok hT hr hG ?_
  intro m' a' w' c1 c2 c3 c4
  obtain ⟨v', r1, r2⟩ := results_sound c4 c2 (resB_some hvs)
  exact ⟨c3.trans hd, v', r1, by rw [r2.of_flat 8 hv], below_of_rel c4⟩
/-- What is known of one call, over every memory, out of one run. -/
theorem memo_of_quick {P : Program} {G : Nat} {CB : CallB} (hs : CallSound P G (callOf CB)) {x : Memo} (ha : x.args.all (vflat 8) = true) (hv : vflat 8 x.v = true) (h : ((CB x.f).un x.args.toArray (bareOf G)).map (·.1) = some x.v) : MemoOk P x :=
  memo_of_run hs ha hv h

/-! ### A region, in two parts -/
theorem runOps_cont {B : Base} {callF : CallF} (hE : Enters P enters) (hz : ZF P) (hC : CallSound P G callF) {ops : Array Oper}
    (hd : ∀ (j : Nat) (d : Nat), (ops[j]?).bind (·.dst) = some d → d < n) {Q : Exit → Act → World → Prop} (l2 : List Oper) : ∀ (l : List Oper) (T : Tree Value) (h : AHeap) (T' : Tree Value) (h' : AHeap) (m : Mu) (a : Act) (w : World),
    l.all (opOk G n) = true → runOps P enters callF ops l T h = some (T', h') → TRel m n T a.tmps → Rel P B m h w → GRel G m →
    (∀ m' a' w', Ext h m m' → TRel m' n T' a'.tmps → a'.defers = a.defers → Rel P B m' h' w' → wpList P ops Q l2 a' w') → wpList P ops Q (l ++ l2) a w := by
  intro l
  induction l with
  | nil =>
    intro T h T' h' m a w _ e hT hr hG hQ
    simp only [runOps, Option.some.injEq, Prod.mk.injEq] at e
    obtain ⟨rfl, rfl⟩ := e
    exact hQ m a w (Ext.refl _ m) hT rfl hr
  | cons o l ih =>
    intro T h T' h' m a w hl e hT hr hG hQ
    simp only [List.all_cons, Bool.and_eq_true] at hl
    simp only [runOps] at e
    split at e
    · rename_i v h2 h1
      have q := stepA_next hC h1
      have hdo : ∀ d, o.dst = some d → d < n := by
        intro d e
        have := hl.1
        unfold opOk at this
        rw [e] at this
        simp only [Bool.and_eq_true, Nat.blt_eq] at this
        exact this.2
      have hs := stepA_sound (B := B) hE hz hC h1 hT hr hG hl.1 hd (Q := Q) (K := wpList P ops Q (l ++ l2)) (fun m' v' w' c1 c2 c3 => by
        refine ih _ _ _ _ m' (a.put o.dst v') w' hl.2 e ((hT.mono c1.1).put hdo c3) c2 (hG.mono c1.1) ?_
        intro m2 a2 w2 d1 d2 d3 d4
        refine hQ m2 a2 w2 (c1.trans d1 q.1 q.2.1) d2 (d3.trans ?_) d4
        cases o.dst <;> rfl)
      rw [List.cons_append]
      unfold wpList
      split
      · rename_i hw; rw [if_pos hw] at hs; exact .inl hs
      · rename_i hw; rw [if_neg hw] at hs; exact hs
    · cases e
/-- So many operations of a region. -/
noncomputable def goL (P : Program) (enters : FuncId → FKind) (CB : CallB) (ops : Array Oper) (l : List Oper) (s : St) : St := ((opsB P enters CB ops l).un s.1 s.2).getD s
noncomputable def okL (P : Program) (enters : FuncId → FKind) (CB : CallB) (ops : Array Oper) (l : List Oper) (s : St) : Bool := ((opsB P enters CB ops l).un s.1 s.2).isSome
theorem goL_wp (hE : Enters P enters) (hz : ZF P) (hC : CallSound P G (callOf CB)) {ops : Array Oper} {l l2 : List Oper} {s : St} {B : Base} {m : Mu} {a : Act} {w : World} {Q : Exit → Act → World → Prop}
    (hok : ops.toList.all (opOk G n) = true) (hl : ops.toList = l ++ l2) (hs : okL P enters CB ops l s = true) (hT : TRel m n s.1 a.tmps) (hr : Rel P B m s.2 w) (hG : GRel G m)
    (hk : ∀ m' a' w', GRel G m' → TRel m' n (goL P enters CB ops l s).1 a'.tmps → a'.defers = a.defers → Rel P B m' (goL P enters CB ops l s).2 w' → wpList P ops Q l2 a' w') : wpList P ops Q ops.toList a w := by
  unfold okL at hs
  unfold goL at hk
  cases hc : (opsB P enters CB ops l).un s.1 s.2 with
  | none => rw [hc] at hs; cases hs
  | some r =>
    obtain ⟨T', h'⟩ := r
    rw [hc] at hk
    have hall : l.all (opOk G n) = true := by
      rw [hl, List.all_append, Bool.and_eq_true] at hok
      exact hok.1
    rw [hl]
    exact runOps_cont (B := B) hE hz hC (dst_of_ok hok) l2 l _ _ _ _ m a w hall (opsB_some hc) hT hr hG fun m' a' w' c1 c2 c3 c4 => hk m' a' w' (hG.mono c1.1) c2 c3 c4
theorem goL_end (hE : Enters P enters) (hz : ZF P) (hC : CallSound P G (callOf CB)) {ops : Array Oper} {l l0 : List Oper} {s : St} {B : Base} {m : Mu} {a : Act} {w : World} {Q : Exit → Act → World → Prop}
    (hok : ops.toList.all (opOk G n) = true) (hl : ops.toList = l0 ++ l) (hs : okL P enters CB ops l s = true) (hT : TRel m n s.1 a.tmps) (hr : Rel P B m s.2 w) (hG : GRel G m)
    (hk : ∀ m' a' w', GRel G m' → TRel m' n (goL P enters CB ops l s).1 a'.tmps → a'.defers = a.defers → Rel P B m' (goL P enters CB ops l s).2 w' → Q .normal a' w') : wpList P ops Q l a w := by
  unfold okL at hs
  unfold goL at hk
  cases hc : (opsB P enters CB ops l).un s.1 s.2 with
  | none => rw [hc] at hs; cases hs
  | some r =>
    obtain ⟨T', h'⟩ := r
    rw [hc] at hk
    have hall : l.all (opOk G n) = true := by
      rw [hl, List.all_append, Bool.and_eq_true] at hok
      exact hok.2
    exact runOps_sound (B := B) hE hz hC (dst_of_ok hok) l _ _ _ _ m a w hall (opsB_some hc) hT hr hG fun m' a' w' c1 c2 c3 c4 => hk m' a' w' (hG.mono c1.1) c2 c3 c4
end
end Go.Ab
