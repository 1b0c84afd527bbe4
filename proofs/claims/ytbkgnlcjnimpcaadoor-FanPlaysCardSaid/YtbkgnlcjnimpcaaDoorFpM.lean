/- A call whose callee is walked, and behind which the numbers may be others. -/
import Derived.Test.YtbkgnlcjnimpcaaDoorFpL
namespace Go.Ab
open Go Go.RowKit
section
variable {P : Program} {G n : Nat} {enters : FuncId → FKind}
/-- What a callee gives: the caller's numbers below 'k' name what they named. -/
def Gave (P : Program) (B : Base) (m : Mu) (k : Nat) (h' : AHeap) (G : Nat) (v : Value) : Ending → World → Prop := fun e w' => ∃ v' m', e = .returned v' ∧ (∀ b, b < k → m' b = m b) ∧ GRel G m' ∧ Rel P B m' h' w' ∧ VRel m' v v'
theorem give_cont (hE : Enters P enters) (hz : ZF P) {ops : Array Oper} {o : Oper} {l2 : List Oper} {f : FuncId} {A : Array Value} {v : Value} {h h2 h' : AHeap} {k : Nat} {T : Tree Value} {B : Base} {m : Mu} {a : Act} {w : World} {Q : Exit → Act → World → Prop}
    (hok : opOk G n o = true) (hd : ∀ (j : Nat) (d : Nat), (ops[j]?).bind (·.dst) = some d → d < n) (hw : wantedA ops o T = true) (h1 : opA P enters (rhoA T) o h = some (.call f A, h2)) (hk : k ≤ h.next)
    (hs : ∀ (m : Mu) args' w, ARel m A args' → Rel P B m h2 w → GRel G m → Calls P f args' w (Gave P B m k h' G v))
    (hT : TRel m n T a.tmps) (hr : Rel P B m h w) (hG : GRel G m)
    (hK : ∀ m' v' w', (∀ b, b < k → m' b = m b) → GRel G m' → Rel P B m' h' w' → VRel m' v v' → wpList P ops Q l2 (a.put o.dst v') w') : wpList P ops Q (o :: l2) a w := by
  have hw2 := wanted_eq hT ops o hd
  unfold wpList
  rw [hw2, hw, if_pos rfl]
  unfold opOk at hok
  rw [Bool.and_eq_true] at hok
  have hso := opA_sound hE hz (o := o) (ρ := rhoA T) (ρ' := a.eval) hr (fun x hx => rho_rel hT hG (List.all_eq_true.1 hok.1 x hx))
  left
  unfold Oper.wp
  obtain ⟨nx, w', m', e1, e2, e3, e4⟩ := hso _ _ h1
  rw [e1]
  cases nx <;> first | exact e4.elim | skip
  obtain ⟨rfl, e5⟩ := e4
  refine (hs m' _ w' e5 e3 (hG.mono e2.1)).mono ?_
  rintro e w2 ⟨v', m2, rfl, c1, c2, c3, c4⟩
  exact hK m2 v' w2 (fun b hb => (c1 b hb).trans (e2.2 b (.inl (by omega)))) c2 c3 c4
end
end Go.Ab
/- Slots that are kept stand again under other numbers. -/
namespace Go.Ab
open Go Go.RowKit
/-- Something stands for it under any numbers. -/
theorem junk_any {m m2 : Mu} {v v' : Value} (h : VRel m v v') : ∃ v2, VRel m2 v2 v' := by
  have rows : ∀ c c' : Array Value, c.size = c'.size → (∀ i (h : i < c.size) (h' : i < c'.size), ∃ v2, VRel m2 v2 c'[i]) → ∃ d : Array Value, d.size = c'.size ∧ ∀ i (h : i < d.size) (h' : i < c'.size), VRel m2 d[i] c'[i] := by
    intro c c' hs hx
    have hx' : ∀ i : Fin c'.size, ∃ v2, VRel m2 v2 c'[i] := fun i => hx i.1 (by omega) i.2
    refine ⟨Array.ofFn (fun i : Fin c'.size => (hx' i).choose), by simp, fun i h h' => ?_⟩
    simp only [Array.getElem_ofFn]
    exact (hx' ⟨i, h'⟩).choose_spec
  induction h with
  | bool b => exact ⟨_, .bool b⟩
  | any r v' a b c => exact ⟨_, .any r v' a b c⟩
  | agg c c' h1 _ ih => obtain ⟨d, p1, p2⟩ := rows c c' h1 ih; exact ⟨_, .agg d _ p1 p2⟩
  | tuple c c' h1 _ ih => obtain ⟨d, p1, p2⟩ := rows c c' h1 ih; exact ⟨_, .tuple d _ p1 p2⟩
  | _ => exact ⟨_, .any 0 _ (fun b q => by cases q) (fun b q => by cases q) (fun b q => by cases q)⟩
/-- The kept slots, and what is known of no other. -/
theorem rejunk {m m2 : Mu} {N : Nat} {L : List (Nat × Value)} {jt : Nat → Value} {tmps : Array Value} (hT : TRel m N (treeF (slotsOf L jt) N 0 .leaf) tmps) (hL : ∀ p ∈ L, ∀ v', VRel m p.2 v' → VRel m2 p.2 v') :
    ∃ jt2, TRel m2 N (treeF (slotsOf L jt2) N 0 .leaf) tmps := by
  have hx : ∀ t, ∃ v2, VRel m2 v2 (tmps.getD t undef) := fun t => junk_any (hT.rel t)
  refine ⟨fun t => (hx t).choose, hT.size, fun t => ?_⟩
  have h0 := hT.rel t
  unfold Tget at h0 ⊢
  rw [treeF_get] at h0 ⊢
  split
  · rename_i hc
    rw [if_pos hc] at h0
    clear hT
    induction L with
    | nil => exact (hx t).choose_spec
    | cons p L ih =>
      obtain ⟨k, v⟩ := p
      show VRel m2 (match Nat.beq k t with | true => v | false => slotsOf L (fun t => (hx t).choose) t) _
      have h1 : VRel m (match Nat.beq k t with | true => v | false => slotsOf L jt t) (tmps.getD t undef) := h0
      cases hb : Nat.beq k t with
      | true => rw [hb] at h1; exact hL (k, v) List.mem_cons_self _ h1
      | false => rw [hb] at h1; exact ih (fun p hp => hL p (List.mem_cons_of_mem _ hp)) h1
  · rename_i hc
    rw [if_neg hc] at h0
    simp only [Tree.get_leaf] at h0 ⊢
    exact (show ∀ {u : Value}, VRel m undef u → VRel m2 undef u from fun {u} h => by
      have e := h.of_flat 8 rfl
      rw [e]
      exact vflat_rel m2 8 undef rfl) h0
end Go.Ab
/- The end of a callee that is walked. -/
namespace Go.Proofs.YtbkgnlcjnimpcaaDoor.fanPlays
open Go Go.Ab Go.RowKit Go.Proofs.YtbkgnlcjnimpcaaDoor.strs
open Go.Proofs.YtbkgnlcjnimpcaaDoor.fanPlays.tk (stR)
set_option maxRecDepth 100000
theorem retG {kn : Known} {mk : Marks} {f n k : Nat} {c : Code} {s : St} {tp : Ab.Tape} {lg : Noted} {B : Base} {m m0 : Mu} {a : Act} {w : World} {Q : Exit → Act → World → Prop}
    (hk : Kok kn) (hp : plansOk Tryd.prog c = true) (hok : codeOk 8 n c = true) {fn : Func} {R : RCC} {v : Value} {h' : AHeap} (hR : codeK kn mk f c s tp = R) (hx : isR fn R = some (v, lg)) (hst : stR R = h') (hl : NotedOk lg) (hT : TRel m n s.1 a.tmps) (hr : Rel Tryd.prog B m s.2 w) (hG : GRel 8 m) (hd : a.defers = [])
    (hm : ∀ b, b < k → m b = m0 b) (hkn : k ≤ s.2.next)
    (hQ : ∀ a' w', bodyPost Tryd.prog fn (Gave Tryd.prog B m0 k h' 8 v) .ret a' w' → Q .ret a' w') : c.wp Tryd.prog Q a w := by
  obtain ⟨T', h2, tp', vs, hx', hvs, hone⟩ := ret_of hx
  rw [hx'] at hst
  obtain rfl : h2 = h' := hst
  refine oneE_wp (n := n) (mk := mk f) (K := 1000) (e := .ret) (s := s) (s' := (T', h2)) entersOk zerosOk (CBkok hk) (CCkok kn mk) (DCkok kn mk) (DBkok hk) hp hok (hR.trans hx') hl hT hr hG ?_
  intro m1 a1 w1 x1 g1 t1 d1 q1
  obtain ⟨v', r1, r2⟩ := results_sound q1 t1 (resB_some hvs)
  refine hQ a1 w1 ⟨d1.trans hd, v', r1, ?_⟩
  rw [hone] at r2
  exact ⟨v', m1, rfl, fun b hb => (x1.2 b (.inl (by omega))).trans (hm b hb), g1, q1, r2⟩
end Go.Proofs.YtbkgnlcjnimpcaaDoor.fanPlays
