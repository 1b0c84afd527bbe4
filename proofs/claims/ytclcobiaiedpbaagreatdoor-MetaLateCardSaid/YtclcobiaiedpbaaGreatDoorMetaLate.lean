/- MetaLate is proved: what comes late changes nothing, at any number and whatever comes; the package-level tables that the row lists are tied to the text by the card. -/
import Derived.Test.YtclcobiaiedpbaaGreatDoorAbV
import Derived.Test.YtclcobiaiedpbaaGreatDoorMetaLateB
import Derived.Test.YtclcobiaiedpbaaGreatDoorMetaLateC
import Derived.Test.YtclcobiaiedpbaaGreatDoorMetaLateD
import Derived.Test.YtclcobiaiedpbaaGreatDoorMetaLateE
import Derived.Test.YtclcobiaiedpbaaGreatDoorCards
import Derived.Test.YtclcobiaiedpbaaGreatDoorTie
import Derived.WalkKit
namespace Go.Proofs.YtclcobiaiedpbaaGreatDoor.metaLate
open Go Go.Ab Go.ChangeShapes Go.WideShapes Go.ChangeAt Go.RowKit

theorem lt_yes {a b : Nat} (h : a < b) : intLt (.ofNat a) (.ofNat b) = true := by
  show Nat.blt a b = true
  rw [Nat.blt_eq]; exact h
theorem lt_no {a b : Nat} (h : b ≤ a) : intLt (.ofNat a) (.ofNat b) = false := by
  show Nat.blt a b = false
  rw [Bool.eq_false_iff]
  intro q
  rw [Nat.blt_eq] at q
  omega
theorem wsucc {n : Nat} (h : n < 1000) : wrapF .i64 (Int.add (.ofNat n) 1) = .ofNat (n + 1) := by
  rw [wrapF_eq]
  exact wrap_u (show n + 1 < 9223372036854775808 by omega)
theorem nX_eq (many : Int) : ∃ n, 1 ≤ n ∧ n ≤ 5 ∧ nX many = .ofNat n := by
  obtain ⟨j, hj, ej⟩ := bandF_lt many (c := 7) (by decide)
  refine ⟨j % 5 + 1, by omega, by omega, ?_⟩
  unfold nX
  rw [ej]
  show wrapF .i64 (Int.add 1 (.ofNat (j % 5))) = _
  rw [show Int.add 1 (.ofNat (j % 5)) = Int.add (.ofNat (j % 5)) 1 from Int.add_comm _ _]
  exact wsucc (by omega)
/-- What is known of what comes late. -/
def okV : V → Prop
  | .some n _ f => (∀ i, i < n * 20 → vflat 8 (f i) = true) ∧ ∀ i, i < n → ∃ k x, ((List.range 20).map fun j => f (i * 20 + j)) = cmL k x
  | _ => True
theorem ahead_of (many : Int) (v : V) (jt : Nat → Value) (jh : Nat → Nat → Value) : aheadL many v jt jh (y1 many v) (y2 many v) = (true, [], true, [], Option.some (SA many v 0 jt jh)) := by
  cases v with
  | nil => exact ahead_nil many jt jh
  | empty c => exact ahead_emp many c jt jh
  | some n c f => exact ahead_row many n c f jt jh
theorem round_of (many : Int) (v : V) (j0 jt : Nat → Value) (h0 jh : Nat → Nat → Value) (i : Nat) (h : i < 5) : roundL many v j0 jt h0 jh i = roundR many v jt jh i := by
  cases v with
  | nil => exact match i, h with
    | 0, _ => round_nil0 many j0 jt h0 jh
    | 1, _ => round_nil1 many j0 jt h0 jh
    | 2, _ => round_nil2 many j0 jt h0 jh
    | 3, _ => round_nil3 many j0 jt h0 jh
    | 4, _ => round_nil4 many j0 jt h0 jh
    | i + 5, h => absurd h (by omega)
  | empty c => exact match i, h with
    | 0, _ => round_emp0 many c j0 jt h0 jh
    | 1, _ => round_emp1 many c j0 jt h0 jh
    | 2, _ => round_emp2 many c j0 jt h0 jh
    | 3, _ => round_emp3 many c j0 jt h0 jh
    | 4, _ => round_emp4 many c j0 jt h0 jh
    | i + 5, h => absurd h (by omega)
  | some n c f => exact match i, h with
    | 0, _ => round_row0 many n c f j0 jt h0 jh
    | 1, _ => round_row1 many n c f j0 jt h0 jh
    | 2, _ => round_row2 many n c f j0 jt h0 jh
    | 3, _ => round_row3 many n c f j0 jt h0 jh
    | 4, _ => round_row4 many n c f j0 jt h0 jh
    | i + 5, h => absurd h (by omega)
theorem mid_of (many : Int) (v : V) (j0 jt : Nat → Value) (h0 jh : Nat → Nat → Value) (w : Nat) (h1 : 1 ≤ w) (h2 : w ≤ 5) : midL many v j0 jt h0 jh w = midR many v jt jh w := by
  cases v with
  | nil => exact upTo_eq _ _ (mid_nil many j0 jt h0 jh) w h1 (by omega)
  | empty c => exact upTo_eq _ _ (mid_emp many c j0 jt h0 jh) w h1 (by omega)
  | some n c f => exact upTo_eq _ _ (mid_row many n c f j0 jt h0 jh) w h1 (by omega)
theorem flat_row {v : V} (hv : okV v) {o : AObj} (ho : o = roO v) {c : Row} {t : TypeId} (h : o = .ro c t) (i : Nat) (x : Value) (hx : c.get? i = some x) : vflat 8 x = true := by
  cases v with
  | some n cc f =>
    rw [ho] at h
    cases h
    obtain ⟨hi, rfl⟩ := rowFn_lt hx
    exact hv.1 i hi
  | nil => rw [ho] at h; cases h
  | empty cc => rw [ho] at h; cases h
theorem isR_seven {v : V} {y : Nat} (h : isR v y = true) : y = 7 := by
  cases v with
  | some n c f => exact Nat.eq_of_beq_eq_true h
  | nil => cases h
  | empty c => cases h
set_option maxRecDepth 100000 in
theorem at7 (v : V) (z : Bool) (w pl : Nat) (own : List Value) (jh : Nat → Nat → Value) : (heapOf v z w pl own jh).get 7 = roO v := by rfl
theorem flatA {v : V} (hv : okV v) (z : Bool) (w pl : Nat) (own : List Value) (jh : Nat → Nat → Value) (y : Nat) (hy : isR v y = true) (c : Row) (t : TypeId) (h : (heapOf v z w pl own jh).get y = .ro c t) (i : Nat) (x : Value) (hx : c.get? i = some x) : vflat 8 x = true := by
  obtain rfl := isR_seven hy
  exact flat_row hv (at7 v z w pl own jh) h i x hx
theorem own0 : ownKnob Tryz.prog.godebug = none := by kernel_rfl
theorem vb : vflat 8 (.bool true) = true := rfl
theorem laidOut : laidOutB Tryz.prog = true := by kernel_rfl
theorem rd3 : Tryz.f3.params.toList.all (fun t => Tryz.prog.readableRec t && Nat.blt t Tryz.prog.types.size) = true := by kernel_rfl
theorem und22 : Tryz.prog.underlying 22 = some (.slice 36) := by kernel_rfl
theorem agg36 : (Tryz.prog.underlying 36).map isAggD = some true := by kernel_rfl
theorem size36 : (Tryz.prog.info? 36).map (·.size) = some 20 := by kernel_rfl
theorem cells36 : Tryz.prog.cellsOf 36 = 20 := by kernel_rfl
def ksC : List LK := [.i .i64, .i .i64, .i .i64, .i .i64, .s, .s, .s, .s, .s, .s, .i .i64, .i .i64, .i .i64, .i .i64, .i .i64, .i .i64, .i .i64, .b, .i .i64, .s]
theorem leaves36 : leavesK Tryz.prog 30 36 = some ksC := by kernel_rfl
set_option maxRecDepth 100000 in
theorem at_slice {n c i : Nat} {f : Nat → Value} (h : i < n) : (iaB Tryz.prog 22).un (lateV 7 (.some n c f)) (e24 i) = some (ptrV i) := by
  cases hi : Tryz.prog.info? 36 with
  | none => have := size36; rw [hi] at this; cases this
  | some ei =>
    have hs : ei.size = 20 := by
      have := size36
      rw [hi] at this
      exact Option.some.inj this
    have := ix_slice (P := Tryz.prog) (b := 7) (o := 0) (n := n) (c := c) (k := .i64) und22 hi h
    rw [hs] at this
    exact this
set_option maxRecDepth 100000 in
theorem at_cell {n c i w : Nat} {f : Nat → Value} {l : List UInt8} {k : Int} {x : Cm} (j0 : Nat → Value) (h0 : Nat → Nat → Value) (h : i < n) (hx : ((List.range 20).map fun j => f (i * 20 + j)) = cmL k x) : (ldB Tryz.prog 36).un (ptrV i) (SB (.some n c f) w l i j0 h0).2 = some (cmV k x) := by
  cases hi : Tryz.prog.info? 36 with
  | none => have := size36; rw [hi] at this; cases this
  | some ei =>
    cases hd : Tryz.prog.underlying 36 with
    | none => have := agg36; rw [hd] at this; cases this
    | some d =>
      have hs : ei.size = 20 := by
        have := size36
        rw [hi] at this
        exact Option.some.inj this
      have hag : isAggD d = true := by
        have := agg36
        rw [hd] at this
        exact Option.some.inj this
      have hg : heapGet (SB (.some n c f) w l i j0 h0).2 7 = .ro (rowFn f (n * 20)) 36 := by rfl
      have := ld_agg (P := Tryz.prog) (o := Nat.add 0 (Nat.mul i 20)) hd hi hag hg (by
        rw [hs]
        show 0 + i * 20 + 20 ≤ n * 20
        omega)
      rw [hs] at this
      refine this.trans ?_
      unfold cmV
      rw [← hx]
      congr 3
      refine List.map_congr_left fun j _ => ?_
      show f (0 + i * 20 + j) = f (i * 20 + j)
      rw [Nat.zero_add]
theorem head_ok {n c i w : Nat} {f : Nat → Value} {l : List UInt8} {k : Int} {x : Cm} (j0 : Nat → Value) (h0 : Nat → Nat → Value) (h : i < n) (h60 : i < 60) (hx : ((List.range 20).map fun j => f (i * 20 + j)) = cmL k x) : NotedOk (headN n c f w l i k x j0 h0) :=
  NotedOk.cons (congrArg Value.bool (lt_yes h)) (NotedOk.cons (congrArg Value.bool (lt_yes (b := 60) h60)) (NotedOk.cons (at_slice h) (NotedOk.cons (at_cell j0 h0 h hx) NotedOk.nil)))
theorem inc_ok {i : Nat} (h : i < 60) : incN i := congrArg i64 (wsucc (by omega))
theorem kind_ok {k j : Int} (h : k ≠ j) : kindN k j := by
  show Value.bool _ = _
  rw [intEq_eq, show (k == j) = false from by simpa using h]
  rfl
abbrev Q0 (W : World) : Exit → Act → World → Prop := bodyPost Tryz.prog Tryz.f3 fun e w' => e = .returned (.bool true) ∧ Below W.heap.size W w'
abbrev QB (W : World) : Exit → Act → World → Prop := Exit.inBlock 6 (Exit.then (restB.wp Tryz.prog (Q0 W)) (Q0 W))
abbrev QA (W : World) : Exit → Act → World → Prop := Exit.inBlock 0 (Exit.then (restA.wp Tryz.prog (Q0 W)) (Q0 W))
/-- Out of the second loop. -/
theorem out_of {W : World} {v : V} {w : Nat} {l : List UInt8} {i : Nat} {tp : Ab.Tape} {lg : Noted} {j0 : Nat → Value} {h0 : Nat → Nat → Value} {fuel : Nat} {m : Mu} {a : Act} {w0 : World}
    (hx : isX (outB v w l i tp j0 h0) = some (6, lg)) (hl : NotedOk lg) (hs : saidOf (fin (stOf (outB v w l i tp j0 h0))) = some (.bool true, []))
    (hT : TRel m 149 (SB v w l i j0 h0).1 a.tmps) (hr : Rel Tryz.prog (baseOf W) m (SB v w l i j0 h0).2 w0) (hG : GRel 2 m) (hdf : a.defers = []) : lpB.wp Tryz.prog (Exit.then (Code.rounds Tryz.prog lpB (QB W) fuel) (QB W)) a w0 := by
  obtain ⟨tp2, hx2⟩ := exit_of (r := outB v w l i tp j0 h0) hx
  rw [e8]
  refine wp_seq (oneC_wp (n := 149) (mk := mkR 3) (K := 1000) (e := .exit 6) (s := SB v w l i j0 h0) (s' := stOf (outB v w l i tp j0 h0)) entersOk zerosOk CBok CCok DCok DBok plHB okHB hx2 hl hT hr hG ?_)
  intro m1 a1 w1 g1 t1 d1 q1
  unfold saidOf at hs
  split at hs
  · rename_i o ho2
    simp only [Option.some.injEq, Prod.mk.injEq] at hs
    exact lastC_wp (n := 149) entersOk zerosOk CBok CCok DCok DBok plR okR vb ho2 hs.1 (by rw [hs.2]; exact NotedOk.nil) t1 q1 g1 (d1.trans hdf)
  · cases hs
set_option maxRecDepth 100000 in
/-- The second loop, where a row comes. -/
theorem roundsB {W : World} {n c : Nat} {f : Nat → Value} (hv : okV (.some n c f)) {w : Nat} (hw1 : 1 ≤ w) (hw2 : w ≤ 5) : ∀ (fuel i : Nat) (j0 : Nat → Value) (h0 : Nat → Nat → Value) (m : Mu) (a : Act) (w0 : World), 60 - i < fuel → i ≤ 60 →
    TRel m 149 (SB (.some n c f) w (sL w) i j0 h0).1 a.tmps → Rel Tryz.prog (baseOf W) m (SB (.some n c f) w (sL w) i j0 h0).2 w0 → GRel 2 m → a.defers = [] → Code.rounds Tryz.prog lpB (QB W) fuel a w0 := by
  intro fuel
  induction fuel with
  | zero => intro i j0 h0 m a w0 h; omega
  | succ fuel ih =>
    intro i j0 h0 m a w0 hf h60 hT hr hG hdf
    rw [rounds_succ]
    have he := upTo_eq _ _ (ends_row n c f i j0 h0) w hw1 (by omega)
    obtain ⟨he1, he⟩ := Prod.mk.inj he
    obtain ⟨he2, he⟩ := Prod.mk.inj he
    obtain ⟨he3, he4⟩ := Prod.mk.inj he
    by_cases hn : i < n
    · by_cases h6 : i < 60
      · obtain ⟨k, x, hx⟩ := hv.2 i hn
        have hh := head_ok (c := c) (w := w) (l := sL w) j0 h0 hn h6 hx
        have step : ∀ (mk : Mk) (r : RCC) (tp : Ab.Tape) (lg : Noted), r = code mk lpB (SB (.some n c f) w (sL w) i j0 h0) tp → NotedOk lg → (∀ jt jh, seen n c f jt jh r = want n c f w (sL w) i lg jt jh) → lpB.wp Tryz.prog (Exit.then (Code.rounds Tryz.prog lpB (QB W) fuel) (QB W)) a w0 := by
          intro mk r tp lg hr1 hlg hc
          obtain ⟨tp2, hx2⟩ := norm_of (r := r) (Prod.mk.inj (hc j0 h0)).1
          refine oneC_wp (n := 149) (mk := mk) (K := 1000) (e := .normal) (s := SB (.some n c f) w (sL w) i j0 h0) (s' := stOf r) entersOk zerosOk CBok CCok DCok DBok plB okB (hr1.symm.trans hx2) (revN_ok _ _ hlg NotedOk.nil) hT hr hG ?_
          intro m1 a1 w1 g1 t1 d1 q1
          obtain ⟨m6, jt6, jh6, g6, t6, q6⟩ := canonR (S := shOf (.some n c f) true keepB (stOf r)) (S2 := fun jt jh => SB (.some n c f) w (sL w) (i + 1) jt jh) (fun jt jh y hy cc t h => flatA hv true w 1 ownB jh y hy cc t h) (fun jt jh => (Prod.mk.inj (hc jt jh)).2) t1 q1 g1
          exact ih (i + 1) jt6 jh6 m6 a1 w1 (by omega) (by omega) t6 q6 g6 (by rw [d1]; exact hdf)
        have kinds : ∀ j, j < 4 → k = kindOf j → lpB.wp Tryz.prog (Exit.then (Code.rounds Tryz.prog lpB (QB W) fuel) (QB W)) a w0 := by
          intro j hj hk
          subst hk
          have lb : ∀ (s : ByteArray) (b : Bool), Nat.blt 1024 (lenL (byteList s)) = b → longN s (.bool (notB b)) := by
            intro s b hb
            show Value.bool (notB (Nat.blt 1024 (lenL (byteList s)))) = _
            rw [hb]
          cases h19 : Nat.blt 1024 (lenL (byteList x.s19)) with
          | true => exact step (mkR 3) _ _ _ rfl (hh.append (NotedOk.cons (lb _ _ h19) (NotedOk.cons (inc_ok h6) NotedOk.nil))) (fun jt jh => upTo_eq _ _ (long1_all n c f w (sL w) i x j0 jt h0 jh) j (Nat.zero_le _) (by omega))
          | false =>
            cases h7 : Nat.blt 1024 (lenL (byteList x.s7)) with
            | true => exact step (mkR 3) _ _ _ rfl (hh.append (NotedOk.cons (lb _ _ h19) (NotedOk.cons (lb _ _ h7) (NotedOk.cons (inc_ok h6) NotedOk.nil)))) (fun jt jh => upTo_eq _ _ (long2_all n c f w (sL w) i x j0 jt h0 jh) j (Nat.zero_le _) (by omega))
            | false => exact step (mkR 3) _ _ _ rfl (hh.append (NotedOk.cons (lb _ _ h19) (NotedOk.cons (lb _ _ h7) (NotedOk.cons (inc_ok h6) NotedOk.nil)))) (fun jt jh => upTo_eq _ _ (light_all n c f w (sL w) i x j0 jt h0 jh) j (Nat.zero_le _) (by omega))
        by_cases k7 : k = 7
        · exact kinds 0 (by omega) k7
        by_cases k8 : k = 8
        · exact kinds 1 (by omega) k8
        by_cases k10 : k = 10
        · exact kinds 2 (by omega) k10
        by_cases k11 : k = 11
        · exact kinds 3 (by omega) k11
        exact step mkO _ _ _ rfl (hh.append (NotedOk.cons (kind_ok k7) (NotedOk.cons (kind_ok k8) (NotedOk.cons (kind_ok k10) (NotedOk.cons (kind_ok k11) (NotedOk.cons (inc_ok h6) NotedOk.nil)))))) (fun jt jh => other_all n c f w (sL w) i k x j0 jt h0 jh)
      · exact out_of he3 (NotedOk.cons (congrArg Value.bool (lt_no (b := 60) (by omega))) (NotedOk.cons (congrArg Value.bool (lt_yes hn)) NotedOk.nil)) he4 hT hr hG hdf
    · exact out_of he1 (NotedOk.cons (congrArg Value.bool (lt_no (by omega))) NotedOk.nil) he2 hT hr hG hdf
/-- The second loop, whatever comes. -/
theorem loopB {W : World} {v : V} (hv : okV v) {w : Nat} (hw1 : 1 ≤ w) (hw2 : w ≤ 5) {j0 : Nat → Value} {h0 : Nat → Nat → Value} {m : Mu} {a : Act} {w0 : World}
    (hT : TRel m 149 (SB v w (sL w) 0 j0 h0).1 a.tmps) (hr : Rel Tryz.prog (baseOf W) m (SB v w (sL w) 0 j0 h0).2 w0) (hG : GRel 2 m) (hdf : a.defers = []) : Code.rounds Tryz.prog lpB (QB W) 61 a w0 := by
  cases v with
  | some n c f => exact roundsB hv hw1 hw2 61 0 j0 h0 m a w0 (by omega) (Nat.zero_le _) hT hr hG hdf
  | nil =>
    rw [rounds_succ]
    have he := upTo_eq _ _ (ends_nil j0 h0) w hw1 (by omega)
    exact out_of (Prod.mk.inj he).1 (NotedOk.cons rfl NotedOk.nil) (Prod.mk.inj he).2 hT hr hG hdf
  | empty c =>
    rw [rounds_succ]
    have he := upTo_eq _ _ (ends_emp c j0 h0) w hw1 (by omega)
    exact out_of (Prod.mk.inj he).1 (NotedOk.cons rfl NotedOk.nil) (Prod.mk.inj he).2 hT hr hG hdf
set_option maxRecDepth 100000 in
/-- The first loop. -/
theorem roundsA {W : World} {v : V} (hv : okV v) (many : Int) {n : Nat} (h1 : 1 ≤ n) (h5 : n ≤ 5) (hn : nX many = .ofNat n) : ∀ (fuel i : Nat) (j0 : Nat → Value) (h0 : Nat → Nat → Value) (m : Mu) (a : Act) (w0 : World), n - i < fuel → i ≤ n →
    TRel m 149 (SA many v i j0 h0).1 a.tmps → Rel Tryz.prog (baseOf W) m (SA many v i j0 h0).2 w0 → GRel 2 m → a.defers = [] → Code.rounds Tryz.prog lpA (QA W) fuel a w0 := by
  intro fuel
  induction fuel with
  | zero => intro i j0 h0 m a w0 h; omega
  | succ fuel ih =>
    intro i j0 h0 m a w0 hf hi hT hr hG hdf
    rw [rounds_succ]
    by_cases hlt : i < n
    · have hro := fun jt jh => round_of many v j0 jt h0 jh i (by omega)
      obtain ⟨tp, hx⟩ := norm_of (r := rndA many v i j0 h0) (Prod.mk.inj (hro j0 h0)).1
      refine oneC_wp (n := 149) (mk := mkR 3) (K := 1000) (e := .normal) (s := SA many v i j0 h0) (s' := stOf (rndA many v i j0 h0)) entersOk zerosOk CBok CCok DCok DBok plA okA hx (NotedOk.cons (congrArg Value.bool (by rw [hn]; exact lt_yes hlt)) NotedOk.nil) hT hr hG ?_
      intro m1 a1 w1 g1 t1 d1 q1
      obtain ⟨m6, jt6, jh6, g6, t6, q6⟩ := canonR (S := shOf v true keepA (stOf (rndA many v i j0 h0))) (S2 := fun jt jh => SA many v (i + 1) jt jh) (fun jt jh y hy cc t h => flatA hv (zOf (i + 1)) (i + 1) 0 ownA jh y hy cc t h) (fun jt jh => (Prod.mk.inj (hro jt jh)).2) t1 q1 g1
      exact ih (i + 1) jt6 jh6 m6 a1 w1 (by omega) (by omega) t6 q6 g6 (by rw [d1]; exact hdf)
    · obtain rfl : i = n := by omega
      have hm := fun jt jh => mid_of many v j0 jt h0 jh i h1 h5
      obtain ⟨p1, p⟩ := Prod.mk.inj (hm j0 h0)
      obtain ⟨p2, p⟩ := Prod.mk.inj p
      obtain ⟨p3, p⟩ := Prod.mk.inj p
      obtain ⟨p4, p⟩ := Prod.mk.inj p
      obtain ⟨p5, _⟩ := Prod.mk.inj p
      obtain ⟨tp, hx⟩ := exit_of (r := outA many v i j0 h0) p1
      rw [e4]
      refine wp_seq (oneC_wp (n := 149) (mk := mkR 3) (K := 1000) (e := .exit 0) (s := SA many v i j0 h0) (s' := stOf (outA many v i j0 h0)) entersOk zerosOk CBok CCok DCok DBok plHA okHA hx (NotedOk.cons (congrArg Value.bool (by rw [hn]; exact lt_no (Nat.le_refl _))) NotedOk.nil) hT hr hG ?_)
      intro m1 a1 w1 g1 t1 d1 q1
      show restA.wp Tryz.prog (Q0 W) a1 w1
      refine goNC_wp (n := 149) (mk := mkR 3) (K := 1000) (k := 4) (x := ⟨stOf (outA many v i j0 h0), [], [], true⟩) (y := y3 many v i j0 h0) entersOk zerosOk CBok CCok DCok DBok k2 rfl p2 (by rw [p3]; exact NotedOk.nil) t1 q1 g1 ?_
      intro m2 a2 w2 g2 t2 d2 q2
      show d4.wp Tryz.prog (Q0 W) a2 w2
      rw [e5]
      refine wp_seq (goNC_wp (n := 149) (mk := mkR 3) (K := 1000) (k := 1) (x := ⟨(y3 many v i j0 h0).s, [], [], true⟩) (y := y4 many v i j0 h0) entersOk zerosOk CBok CCok DCok DBok k3 rfl p4 (by rw [p5]; exact NotedOk.nil) t2 q2 g2 ?_)
      intro m3 a3 w3 g3 t3 d3 q3
      rw [e6, e7]
      obtain ⟨m6, jt6, jh6, g6, t6, q6⟩ := canonR (S := shOf v true keepB (y4 many v i j0 h0).s) (S2 := fun jt jh => SB v i (sL i) 0 jt jh) (fun jt jh y hy cc t h => flatA hv true i 1 ownB jh y hy cc t h) (fun jt jh => (Prod.mk.inj (Prod.mk.inj (Prod.mk.inj (Prod.mk.inj (Prod.mk.inj (hm jt jh)).2).2).2).2).2) t3 q3 g3
      exact wp_block (wp_loop_rounds 61 (loopB hv h1 h5 t6 q6 g6 (by rw [d3, d2, d1]; exact hdf)))
set_option maxRecDepth 100000 in
theorem walk0 (W : World) (many : Int) (v : V) (v1 : Value) (m0 : Mu) (hle : Mu.le (muG 2) m0) (hv1 : VRel m0 (lateV 10 v) v1) (hr0 : Rel Tryz.prog (baseOf W) m0 (heap0 v) W) (hv : okV v) : Calls Tryz.prog 3 #[i64 many, v1] W fun e W' => e = .returned (.bool true) ∧ Below W.heap.size W W' := by
  obtain ⟨n, h1, h5, hn⟩ := nX_eq many
  obtain ⟨p1, p⟩ := Prod.mk.inj (ahead_of many v (fun _ => undef) (fun _ _ => undef))
  obtain ⟨p2, p⟩ := Prod.mk.inj p
  obtain ⟨p3, p⟩ := Prod.mk.inj p
  obtain ⟨p4, _⟩ := Prod.mk.inj p
  refine calls_of_wp Tryz.func3 hasBody ?_
  have hT : TRel m0 149 (s0 many v).1 (#[i64 many, v1] ++ Array.replicate (Tryz.f3.ntmps - #[i64 many, v1].size) undef) :=
    initT_rel (args := #[i64 many, lateV 10 v]) (args' := #[i64 many, v1]) (n := 149) ⟨rfl, fun i h1 h2 => (match i, h1, h2 with
      | 0, _, _ => .int _ _
      | 1, _, _ => hv1)⟩ (show 2 ≤ 149 by decide)
  refine goNC_wp (n := 149) (mk := mkR 3) (K := 1000) (k := 4) (x := ⟨s0 many v, [], [], true⟩) (y := y1 many v) entersOk zerosOk CBok CCok DCok DBok k0 rfl p1 (by rw [p2]; exact NotedOk.nil) hT hr0 ((muG_rel 2).mono hle) ?_
  intro m1 a1 w1 g1 t1 d1 q1
  show c4.wp Tryz.prog _ a1 w1
  rw [e1]
  refine wp_seq (goNC_wp (n := 149) (mk := mkR 3) (K := 1000) (k := 1) (x := ⟨(y1 many v).s, [], [], true⟩) (y := y2 many v) entersOk zerosOk CBok CCok DCok DBok k1 rfl p3 (by rw [p4]; exact NotedOk.nil) t1 q1 g1 ?_)
  intro m2 a2 w2 g2 t2 d2 q2
  rw [e2, e3]
  obtain ⟨m3, jt3, jh3, g3, t3, q3⟩ := canonR (S := shOf v false keepA (y2 many v).s) (S2 := fun jt jh => SA many v 0 jt jh) (fun jt jh y hy c t h => flatA hv (zOf 0) 0 0 ownA jh y hy c t h) (fun jt jh => (Prod.mk.inj (Prod.mk.inj (Prod.mk.inj (Prod.mk.inj (ahead_of many v jt jh)).2).2).2).2) t2 q2 g2
  exact wp_block (wp_loop_rounds 6 (roundsA hv many h1 h5 hn 6 0 _ _ _ _ _ (by omega) (Nat.zero_le _) t3 q3 g3 (by rw [d2, d1])))
theorem int_of_ok {P : Program} {W : World} {r : Reach} {base : Nat} {t : TypeId} {k : IntKind} {v : Value} (ht : P.underlying t = some (.int k)) (h : Value.okWide P W r base t v) : ∃ n, v = .int k n := by
  unfold Value.okWide at h
  rw [ht] at h
  unfold Cell.okWide Cell.ok at h
  rw [ht] at h
  cases v <;> first | (obtain ⟨rfl, _⟩ := h; exact ⟨_, rfl⟩) | exact h.elim
theorem cm_of (cs : List Value) (h : AllOk ksC cs) : ∃ k x, cs = cmL k x := by
  obtain ⟨v0, l0, rfl⟩ : ∃ v l, cs = v :: l := by
    cases cs with
    | nil => exact h.elim
    | cons v l => exact ⟨v, l, rfl⟩
  obtain ⟨⟨k, rfl⟩, h⟩ := h
  obtain ⟨v1, l1, rfl⟩ : ∃ v l, l0 = v :: l := by
    cases l0 with
    | nil => exact h.elim
    | cons v l => exact ⟨v, l, rfl⟩
  obtain ⟨⟨a1, rfl⟩, h⟩ := h
  obtain ⟨v2, l2, rfl⟩ : ∃ v l, l1 = v :: l := by
    cases l1 with
    | nil => exact h.elim
    | cons v l => exact ⟨v, l, rfl⟩
  obtain ⟨⟨a2, rfl⟩, h⟩ := h
  obtain ⟨v3, l3, rfl⟩ : ∃ v l, l2 = v :: l := by
    cases l2 with
    | nil => exact h.elim
    | cons v l => exact ⟨v, l, rfl⟩
  obtain ⟨⟨a3, rfl⟩, h⟩ := h
  obtain ⟨v4, l4, rfl⟩ : ∃ v l, l3 = v :: l := by
    cases l3 with
    | nil => exact h.elim
    | cons v l => exact ⟨v, l, rfl⟩
  obtain ⟨⟨s4, rfl⟩, h⟩ := h
  obtain ⟨v5, l5, rfl⟩ : ∃ v l, l4 = v :: l := by
    cases l4 with
    | nil => exact h.elim
    | cons v l => exact ⟨v, l, rfl⟩
  obtain ⟨⟨s5, rfl⟩, h⟩ := h
  obtain ⟨v6, l6, rfl⟩ : ∃ v l, l5 = v :: l := by
    cases l5 with
    | nil => exact h.elim
    | cons v l => exact ⟨v, l, rfl⟩
  obtain ⟨⟨s6, rfl⟩, h⟩ := h
  obtain ⟨v7, l7, rfl⟩ : ∃ v l, l6 = v :: l := by
    cases l6 with
    | nil => exact h.elim
    | cons v l => exact ⟨v, l, rfl⟩
  obtain ⟨⟨s7, rfl⟩, h⟩ := h
  obtain ⟨v8, l8, rfl⟩ : ∃ v l, l7 = v :: l := by
    cases l7 with
    | nil => exact h.elim
    | cons v l => exact ⟨v, l, rfl⟩
  obtain ⟨⟨s8, rfl⟩, h⟩ := h
  obtain ⟨v9, l9, rfl⟩ : ∃ v l, l8 = v :: l := by
    cases l8 with
    | nil => exact h.elim
    | cons v l => exact ⟨v, l, rfl⟩
  obtain ⟨⟨s9, rfl⟩, h⟩ := h
  obtain ⟨v10, l10, rfl⟩ : ∃ v l, l9 = v :: l := by
    cases l9 with
    | nil => exact h.elim
    | cons v l => exact ⟨v, l, rfl⟩
  obtain ⟨⟨a10, rfl⟩, h⟩ := h
  obtain ⟨v11, l11, rfl⟩ : ∃ v l, l10 = v :: l := by
    cases l10 with
    | nil => exact h.elim
    | cons v l => exact ⟨v, l, rfl⟩
  obtain ⟨⟨a11, rfl⟩, h⟩ := h
  obtain ⟨v12, l12, rfl⟩ : ∃ v l, l11 = v :: l := by
    cases l11 with
    | nil => exact h.elim
    | cons v l => exact ⟨v, l, rfl⟩
  obtain ⟨⟨a12, rfl⟩, h⟩ := h
  obtain ⟨v13, l13, rfl⟩ : ∃ v l, l12 = v :: l := by
    cases l12 with
    | nil => exact h.elim
    | cons v l => exact ⟨v, l, rfl⟩
  obtain ⟨⟨a13, rfl⟩, h⟩ := h
  obtain ⟨v14, l14, rfl⟩ : ∃ v l, l13 = v :: l := by
    cases l13 with
    | nil => exact h.elim
    | cons v l => exact ⟨v, l, rfl⟩
  obtain ⟨⟨a14, rfl⟩, h⟩ := h
  obtain ⟨v15, l15, rfl⟩ : ∃ v l, l14 = v :: l := by
    cases l14 with
    | nil => exact h.elim
    | cons v l => exact ⟨v, l, rfl⟩
  obtain ⟨⟨a15, rfl⟩, h⟩ := h
  obtain ⟨v16, l16, rfl⟩ : ∃ v l, l15 = v :: l := by
    cases l15 with
    | nil => exact h.elim
    | cons v l => exact ⟨v, l, rfl⟩
  obtain ⟨⟨a16, rfl⟩, h⟩ := h
  obtain ⟨v17, l17, rfl⟩ : ∃ v l, l16 = v :: l := by
    cases l16 with
    | nil => exact h.elim
    | cons v l => exact ⟨v, l, rfl⟩
  obtain ⟨⟨b17, rfl⟩, h⟩ := h
  obtain ⟨v18, l18, rfl⟩ : ∃ v l, l17 = v :: l := by
    cases l17 with
    | nil => exact h.elim
    | cons v l => exact ⟨v, l, rfl⟩
  obtain ⟨⟨a18, rfl⟩, h⟩ := h
  obtain ⟨v19, l19, rfl⟩ : ∃ v l, l18 = v :: l := by
    cases l18 with
    | nil => exact h.elim
    | cons v l => exact ⟨v, l, rfl⟩
  obtain ⟨⟨s19, rfl⟩, h⟩ := h
  obtain rfl : l19 = [] := by
    cases l19 with
    | nil => rfl
    | cons => exact h.elim
  exact ⟨k, ⟨a1, a2, a3, s4, s5, s6, s7, s8, s9, a10, a11, a12, a13, a14, a15, a16, b17, a18, s19⟩, rfl⟩
set_option maxRecDepth 100000 in
theorem contract (H : Type) (enc : TypeId × Value → H) (W : World) (base : Nat) (args : Array Value) (ds gs : List (DataW H)) (before : List MemPlace)
    (hval : ∀ (j : Nat) t v, Tryz.f3.params[j]? = some t → args[j]? = some v → Value.okWide Tryz.prog W .any base t v)
    (hW : DataW.Whole enc Tryz.prog Tryz.f3.params.toList Rows.metaLateSpec.vars false W args.toList ds gs before) :
    Calls Tryz.prog 3 args W fun e W' => ∃ v, e = .returned v ∧ Rows.metaLateSpec.post enc Tryz.prog Tryz.f3 false true false false W args v W' := by
  have hW' := hW
  obtain ⟨p, q, hA0, hV, rfl, hfz, hnd⟩ := hW
  have hA : DataW.TrodAll enc Tryz.prog W 0 (fun _ => true) true Tryz.f3.params.toList args.toList ds p := hA0
  rw [Tryz.params3] at hA hval
  obtain ⟨v0, vs0, d0, ds0, p0, q0, hargs, rfl, rfl, h0, r0⟩ := trodAll_cons hA
  obtain ⟨v1, vs1, d1, ds1, p1, q1, rfl, rfl, rfl, h1, r1⟩ := trodAll_cons r0
  obtain ⟨rfl, rfl, rfl⟩ := trodAll_nil r1
  obtain rfl : args = #[v0, v1] := by cases args; simp_all
  obtain ⟨rfl, rfl⟩ := trodVars_none hV
  obtain ⟨many, rfl⟩ := int_of_ok Tryz.underlying3 (hval 0 3 v0 (by simp) (by simp))
  have key : Calls Tryz.prog 3 #[i64 many, v1] W fun e W' => e = .returned (.bool true) ∧ Below W.heap.size W W' := by
    have hlim : (bareOf 2).next < (bareOf 2).lim := by decide
    rcases sliceArg_of und22 (hval 1 22 v1 (by simp) (by simp)) h1 (by rw [cells36]; decide) (fun fuel cs x h v hv => (trod_leaves 30 36 ksC leaves36 fuel cs x h).flat v hv) with rfl | ⟨b, off, c, rfl, hc⟩ | ⟨f, n, c, _, hs, hel⟩
    · exact walk0 W many .nil _ (muG 2) (Mu.le_refl _) (.nilSlice 0 0) (initRel 2 W) trivial
    · have hr := (initRel (P := Tryz.prog) 2 W).name hlim ⟨b, off, 0⟩
      exact walk0 W many (.empty c) _ ((muG 2).add (bareOf 2).next ⟨b, off, 0⟩) (Mu.le_add ((initRel (P := Tryz.prog) 2 W).fresh _ (Nat.le_refl _) hlim).2) (.slice 10 0 0 c ⟨b, off, 0⟩ (Mu.add_self _ _ _) hc) hr trivial
    · rw [cells36] at hs hel
      obtain ⟨m0, hle, hv, hr0⟩ := hs.lay (initRel 2 W) hlim
      refine walk0 W many (.some n c f) v1 m0 hle hv hr0 ⟨?_, fun i hi => ?_⟩
      · obtain ⟨b, off, C, t, fr, _, _, _, h⟩ := hs.ex
        exact fun i hi => (h i hi).2
      · obtain ⟨fuel, x, hx⟩ := hel i hi
        exact cm_of _ (trod_leaves 30 36 ksC leaves36 _ _ _ hx)
  refine key.mono fun e W' ⟨he, hb⟩ => ?_
  subst he
  exact ⟨_, rfl, post_true laidOut rd3 hW' rfl rfl rfl rfl (by kernel_rfl) Tryz.underlying4 hb⟩

def dcells : Nat → DataW Unit → List Value
  | _, .lit (.int k n) => [.int k n]
  | f + 1, .agg l => l.flatMap (dcells f)
  | _, _ => []
/-- A WORLD FOR THE WITNESS. -/
noncomputable def laidWorld (os : Os) : World :=
  let w0 := World.holding Tryz.prog os ⟨#[], #[], []⟩
  let put (h : Array Obj) (g : Nat) (cs : List Value) : Array Obj := h.modify g fun
    | .cells _ t frozen => .cells cs.toArray t frozen
    | o => o
  { w0 with heap := put (put w0.heap 0 (dcells 3 Rows.laid_unicode_utf8_first)) 1 (dcells 3 Rows.laid_unicode_utf8_acceptRanges) }
noncomputable def wargs : Array Value := #[.int .i64 0, .slice none 0 0]
theorem laid_met (os : Os) : laidMet Tryz.prog Rows.metaLateRow.laid ((laidWorld os).forCall (fun _ _ => 0) ⟨#[], wargs, []⟩).memory :=
  laidMet_of_run3 8 (by kernel_rfl) (by kernel_rfl) (by kernel_rfl)
theorem reads (os : Os) {H : Type} (enc : TypeId × Value → H) : ∃ places, DataW.whole enc Tryz.prog ((laidWorld os).forCall (fun _ _ => 0) ⟨#[], wargs, []⟩).memory Tryz.f3.params.toList Rows.metaLateSpec.vars false wargs.toList 8 =
    some ([.lit (.int .i64 0), .nil], [], places) :=
  ⟨[], by kernel_rfl⟩
set_option maxRecDepth 100000 in
theorem lifted (os : Os) (started : os.Started) (H : Type) (enc : TypeId × Value → H) (F : Stop.Interp) :
    ReturnsInHanded {} Tryz.checked os 3 .any ((OpenSpec.ofChange Rows.metaLateSpec).preRow enc Tryz.prog Tryz.f3 Rows.metaLateRow.domain false Rows.metaLateRow.laid) (((OpenSpec.ofChange Rows.metaLateSpec).at F).post enc Tryz.prog Tryz.f3 false true false false) := by
  obtain ⟨places, hx⟩ := reads os enc
  refine returnsInHanded_of_row (C := Tryz.checked) (s := OpenSpec.ofChange Rows.metaLateSpec) own0 started (by kernel_rfl) Tryz.func3
    (witness_row_at (enc := enc) (C := Tryz.checked) false (laidWorld os) wargs rfl (by kernel_rfl) (by kernel_rfl) (by kernel_rfl)
      (OpenSpec.preRow_of_cond 8 hx (by kernel_rfl) (fun k hk => by cases hk) (by kernel_rfl) (laid_met os))) ?_
  intro W base args ds gs before hval hW _ _ _ _ _ _
  exact contract H enc W base args ds gs before hval hW
theorem said : Rows.MetaLateSaid :=
  OpenClaim.holds_of_cond 3 Tryz.f3 rfl rfl rfl rfl rfl rfl rfl ⟨rfl, rfl, rfl, rfl, rfl⟩ rfl rfl rfl rfl rfl (by kernel_rfl) Tryz.func3 (by kernel_rfl)
    (of_decide_eq_true (by kernel_rfl)) (by unfold Func.isWrapper; first | (rw [if_pos (by decide +kernel)]; kernel_rfl) | (rw [if_neg (by decide +kernel)]; exact ⟨rfl, rfl⟩))
    (fun os started H enc _ F => by rw [OpenClaim.pre_eq_preRow]; exact lifted os started H enc F)
/-- No parameter wants a stand-in; the program's own looks are on: what both cards ask. -/
theorem plain (f : FuncId) (fn : Func) (hf : Tryz.pinned.checked.prog.funcNamed "rookery/rookerylaw14.MetaLate" = some f) (hfn : Tryz.pinned.checked.prog.funcs[f]? = some fn) :
    true = Tryz.pinned.checked.prog.looks [] ∧ ∀ (j : Nat) t, fn.params[j]? = some t → Tryz.pinned.checked.prog.wantsStandIn t = false := by
  obtain rfl : f = 3 := Option.some.inj ((show Tryz.prog.funcNamed "rookery/rookerylaw14.MetaLate" = some 3 by kernel_rfl).symm.trans hf) |>.symm
  obtain rfl : fn = Tryz.f3 := (Option.some.inj (Tryz.func3.symm.trans hfn)).symm
  refine ⟨by kernel_rfl, fun j t ht => ?_⟩
  rw [Tryz.params3] at ht
  have h2 : t = 3 ∨ t = 22 := by simpa using Array.mem_of_getElem? ht
  rcases h2 with rfl | rfl
  · exact (show Tryz.prog.wantsStandIn 3 = false by kernel_rfl)
  · exact (show Tryz.prog.wantsStandIn 22 = false by kernel_rfl)
/-- ████ THE CARD ████ -/
theorem card : Rows.MetaLateCardSaid :=
  Claim7.holds_tied_plain_at .later [] _ _ _ _ said (fun _ h => by cases h) (by kernel_rfl) (fun _ h => by cases h) metaLate_row_tie rfl ⟨rfl, rfl⟩ (by kernel_rfl) rfl plain (by kernel_rfl)
end Go.Proofs.YtclcobiaiedpbaaGreatDoor.metaLate
