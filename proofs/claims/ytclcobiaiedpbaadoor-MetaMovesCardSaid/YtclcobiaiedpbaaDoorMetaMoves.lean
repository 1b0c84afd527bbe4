/- MetaMoves is proved: a slot goes by a plan alone, whatever slots and groups come; the package-level tables that the row lists are tied to the text by the card. -/
import Derived.Test.YtclcobiaiedpbaaDoorAbV
import Derived.Test.YtclcobiaiedpbaaDoorMetaMovesA
import Derived.Test.YtclcobiaiedpbaaDoorCards
import Derived.Test.YtclcobiaiedpbaaDoorTie
import Derived.WalkKit
namespace Go.Proofs.YtclcobiaiedpbaaDoor.metaMoves
open Go Go.Ab Go.ChangeShapes Go.WideShapes Go.ChangeAt Go.RowKit

theorem lt_yes {a b : Nat} (h : a < b) : intLt (.ofNat a) (.ofNat b) = true := by
  show Nat.blt a b = true
  rw [Nat.blt_eq]; exact h
theorem lt_no {a b : Nat} (h : b ≤ a) : intLt (.ofNat a) (.ofNat b) = false := by
  show Nat.blt a b = false
  rw [Bool.eq_false_iff]
  intro q
  rw [Nat.blt_eq] at q
  omega
theorem eq_yes (a : Nat) : intEq (.ofNat a) (.ofNat a) = true := Nat.beq_refl a
theorem eq_no {a b : Nat} (h : a ≠ b) : intEq (.ofNat a) (.ofNat b) = false := by
  show Nat.beq a b = false
  rw [Bool.eq_false_iff]
  intro q
  exact h (Nat.eq_of_beq_eq_true q)
theorem wsucc {n : Nat} (h : n < 1000) : wrapF .i64 (Int.add (.ofNat n) 1) = .ofNat (n + 1) := by
  rw [wrapF_eq]
  exact wrap_u (show n + 1 < 9223372036854775808 by omega)
theorem und54 : Tryd.prog.underlying 54 = some (.slice 55) := by kernel_rfl
theorem und55 : Tryd.prog.underlying 55 = some (.array 2 3) := by kernel_rfl
theorem cells55 : Tryd.prog.cellsOf 55 = 2 := by kernel_rfl
theorem cells3 : Tryd.prog.cellsOf 3 = 1 := by kernel_rfl
theorem size55 : (Tryd.prog.info? 55).map (·.size) = some 2 := by kernel_rfl
theorem info3 : (Tryd.prog.info? 3).isSome = true := by kernel_rfl
theorem at_slice (x : X) (h : x.i < x.n) : (iaB Tryd.prog 54).un (sliceV 6 x) (e24 x.i) = some (ptrV x) := by
  unfold iaB
  rw [und54]
  dsimp only
  cases hi : Tryd.prog.info? 55 with
  | none => have := size55; rw [hi] at this; cases this
  | some ei =>
    have hs : ei.size = 2 := by
      have := size55
      rw [hi] at this
      exact Option.some.inj this
    show idxOf (.ofNat x.i) x.n (fun m => some (Value.pointer (some ⟨6, Nat.add 0 (Nat.mul m ei.size), none⟩))) = _
    rw [hs]
    unfold idxOf
    dsimp only
    rw [show Nat.blt x.i x.n = true by rw [Nat.blt_eq]; exact h]
    rfl
theorem load_row {h : AHeap} {b o : Nat} {c : Row} {e : TypeId} {v : Value} (hg : heapGet h b = .ro c e) (hc : rowGet c o = some v) : (ldB Tryd.prog 3).un (.pointer (some ⟨b, o, none⟩)) h = some v := by
  unfold ldB
  rw [Tryd.underlying3]
  cases hi : Tryd.prog.info? 3 with
  | none => have := info3; rw [hi] at this; cases this
  | some i =>
    dsimp only
    show (match rowIn (heapGet h b) with | some c => rowGet c o | none => none) = _
    rw [hg]
    exact hc
set_option maxRecDepth 100000 in
theorem at_cell (x : X) (k : Nat) (a : Int) (h : x.i * 2 + k < x.n * 2) (hf : x.f (x.i * 2 + k) = i64 a) : (ldB Tryd.prog 3).un (ofs x k) (hp x) = some (i64 a) := by
  have e : Nat.add (Nat.add 0 (Nat.mul x.i 2)) (Nat.mul k 1) = x.i * 2 + k := by
    show 0 + x.i * 2 + k * 1 = _
    omega
  refine load_row (c := rowFn x.f (x.n * 2)) (e := 55) (by rfl) ?_
  rw [e, rowGet_eq, rowFn_get? _ _ _ h, hf]
theorem veq_e (n : Nat) : veq 8 (e24 n) (e24 n) = true := by simp [veq, e24]
theorem head_ok (x : X) (s q : Nat) (a b : Int) (hi : x.i < x.n) (h60 : x.i < 60) (ha : x.f (x.i * 2 + 0) = i64 a) (hb : x.f (x.i * 2 + 1) = i64 b) (hs : bandF a 15 = .ofNat s) (hq : bandF b 7 = .ofNat q) (hq7 : q ≤ 7) : NotedOk (headN x s q a b) := by
  unfold headN
  refine NotedOk.cons ?_ (NotedOk.cons ?_ (NotedOk.cons ?_ (NotedOk.cons ?_ (NotedOk.cons ?_ (NotedOk.cons ?_ (NotedOk.cons ?_ (NotedOk.cons ?_ (NotedOk.cons rfl (NotedOk.cons rfl (NotedOk.cons ?_ NotedOk.nil))))))))))
  · exact congrArg Value.bool (lt_yes hi)
  · exact congrArg Value.bool (lt_yes (b := 60) h60)
  · exact at_slice x hi
  · exact at_cell x 0 a (by omega) ha
  · exact congrArg i64 hs
  · exact at_slice x hi
  · exact at_cell x 1 b (by omega) hb
  · refine congrArg i64 ?_
    rw [hq, show Int.add 1 (.ofNat q) = Int.add (.ofNat q) 1 from Int.add_comm _ _]
    exact wsucc (by omega)
  · exact congrArg Value.bool (lt_no (a := 8) (by omega))
theorem same_ok (x : X) (s q : Nat) (h60 : x.i < 60) (hg : x.g s = q) : NotedOk (sameN x s q) := by
  have e : isG x s q Tr := by
    show Value.bool _ = _
    rw [hg, eq_yes]; rfl
  exact NotedOk.cons e (NotedOk.cons e (NotedOk.cons (congrArg i64 (wsucc (by omega))) NotedOk.nil))
theorem move_ok (x : X) (s q : Nat) (h60 : x.i < 60) (hg : x.g s ≠ q) (hq7 : q ≤ 7) (hp : x.p ≤ x.i) (he : x.e s ≤ x.i) : NotedOk (moveN x s q) := by
  have e : isG x s q F := by
    show Value.bool _ = _
    rw [eq_no (by omega)]; rfl
  have m : mine x := by
    show Value.bool _ = _
    rw [eq_yes]; rfl
  have u : upE x s := congrArg i64 (wsucc (by omega))
  have l : pr (.bool (intLt 8 (.ofNat (q + 1)))) F := congrArg Value.bool (lt_no (a := 8) (by omega))
  refine NotedOk.cons e (NotedOk.cons (congrArg i64 (wsucc (by omega))) (NotedOk.cons ?_ (NotedOk.cons e (NotedOk.cons ?_ (NotedOk.cons rfl (NotedOk.cons l (NotedOk.cons m (NotedOk.cons m (NotedOk.cons rfl (NotedOk.cons m (NotedOk.cons rfl (NotedOk.cons ?_ (NotedOk.cons e (NotedOk.cons ?_ (NotedOk.cons u (NotedOk.cons rfl (NotedOk.cons ?_ (NotedOk.cons u (NotedOk.cons ?_ (NotedOk.cons (congrArg i64 (wsucc (by omega))) NotedOk.nil))))))))))))))))))))
  · rw [veq_e]; rfl
  · exact congrArg Value.bool (eq_no (a := 0) (by omega))
  · show Value.bool _ = _
    rw [show intLt 8 (.ofNat (q + 1)) = false from lt_no (a := 8) (by omega)]; rfl
  · show Value.bool _ = _
    rw [show intLt (.ofNat (x.e s + 1)) 2147483647 = true from lt_yes (b := 2147483647) (by omega)]; rfl
  · show Value.bool _ = _
    rw [eq_yes]; rfl
  · show Value.bool _ = _
    rw [eq_yes]; rfl
set_option maxRecDepth 100000 in
theorem flat_of (x : X) (hf : ∀ i, i < x.n * 2 → vflat 8 (x.f i) = true) (jt : Nat → Value) (y : Nat) (hy : Nat.beq y 6 = true) (c : Row) (t : TypeId) (h : (S x jt).2.get y = .ro c t) (i : Nat) (v : Value) (hv : c.get? i = some v) : vflat 8 v = true := by
  obtain rfl := Nat.eq_of_beq_eq_true hy
  have : (S x jt).2.get 6 = .ro (rowFn x.f (x.n * 2)) 55 := by rfl
  rw [this] at h
  cases h
  obtain ⟨hi, rfl⟩ := rowFn_lt hv
  exact hf i hi
theorem own : ownKnob Tryd.prog.godebug = none := by kernel_rfl
theorem vb : vflat 8 (.bool true) = true := rfl
theorem laidOut : laidOutB Tryd.prog = true := by kernel_rfl
theorem rd6 : Tryd.f6.params.toList.all (fun t => Tryd.prog.readableRec t && Nat.blt t Tryd.prog.types.size) = true := by kernel_rfl
set_option maxRecDepth 100000 in
/-- A round, or the end. -/
theorem rounds {W : World} : ∀ (fuel : Nat) (x : X) (jt : Nat → Value) (m : Mu) (a : Act) (w : World), 60 - x.i < fuel → x.i ≤ 60 → x.p ≤ x.i → (∀ k, x.e k ≤ x.i) → (∀ i, i < x.n → ∃ a b, x.f (i * 2 + 0) = i64 a ∧ x.f (i * 2 + 1) = i64 b) → (∀ i, i < x.n * 2 → vflat 8 (x.f i) = true) →
    TRel m 162 (S x jt).1 a.tmps → Rel Tryd.prog (baseOf W) m (S x jt).2 w → GRel 2 m → a.defers = [] →
    Code.rounds Tryd.prog lp (Exit.inBlock 0 (Exit.then (rest.wp Tryd.prog (bodyPost Tryd.prog Tryd.f6 fun e w' => e = .returned (.bool true) ∧ Below W.heap.size W w')) (bodyPost Tryd.prog Tryd.f6 fun e w' => e = .returned (.bool true) ∧ Below W.heap.size W w'))) fuel a w := by
  intro fuel
  induction fuel with
  | zero => intro x jt m a w h; omega
  | succ fuel ih =>
    intro x jt m a w hf h60 hpi hei hel hfl hT hr hG hdf
    rw [rounds_succ]
    have he := ends x jt
    obtain ⟨he1, he⟩ := Prod.mk.inj he
    obtain ⟨he2, he⟩ := Prod.mk.inj he
    obtain ⟨he3, he4⟩ := Prod.mk.inj he
    have out : ∀ (r : RCC) (s' : St) (tp : Ab.Tape) (tp' : Ab.Tape) (lg : Noted), r = code hdc (S x jt) tp → r = .exit 0 s'.1 s'.2 tp' lg → NotedOk lg → saidOf (fin s') = some (.bool true, []) → lp.wp Tryd.prog (Exit.then (Code.rounds Tryd.prog lp (Exit.inBlock 0 (Exit.then (rest.wp Tryd.prog (bodyPost Tryd.prog Tryd.f6 fun e w' => e = .returned (.bool true) ∧ Below W.heap.size W w')) (bodyPost Tryd.prog Tryd.f6 fun e w' => e = .returned (.bool true) ∧ Below W.heap.size W w'))) fuel) (Exit.inBlock 0 (Exit.then (rest.wp Tryd.prog (bodyPost Tryd.prog Tryd.f6 fun e w' => e = .returned (.bool true) ∧ Below W.heap.size W w')) (bodyPost Tryd.prog Tryd.f6 fun e w' => e = .returned (.bool true) ∧ Below W.heap.size W w')))) a w := by
      intro r s' tp tp' lg e1 e2 hl hs
      rw [e4]
      refine wp_seq (oneC_wp (n := 162) (mk := mkR 6) (K := 1000) (e := .exit 0) (s := S x jt) (s' := s') entersOk zerosOk CBok CCok DCok DBok pl2 ok2 (e1.symm.trans e2) hl hT hr hG ?_)
      intro m1 a1 w1 g1 t1 d1 q1
      unfold saidOf at hs
      split at hs
      · rename_i o ho2
        simp only [Option.some.injEq, Prod.mk.injEq] at hs
        exact lastC_wp (n := 162) entersOk zerosOk CBok CCok DCok DBok pl6 ok6 vb ho2 hs.1 (by rw [hs.2]; exact NotedOk.nil) t1 q1 g1 (d1.trans hdf)
      · cases hs
    by_cases hn : x.i < x.n
    · by_cases h6 : x.i < 60
      · obtain ⟨za, zb, ha, hb⟩ := hel x.i hn
        obtain ⟨s, hs15, hs⟩ := bandF_lt za (c := 15) (by decide)
        obtain ⟨q, hq7, hq⟩ := bandF_lt zb (c := 7) (by decide)
        have hh := head_ok x s q za zb hn h6 ha hb hs hq hq7
        have step : ∀ (r : RCC) (tp : Ab.Tape) (lg : Noted) (x' : X), r = code lp (S x jt) tp → NotedOk lg → (∀ jt2 jh2, (isN r, canonS (shOf (stOf r)) 2 (stOf r) jt2 jh2) = (some (revN lg []), some (S x' jt2))) → x'.f = x.f → x'.n = x.n → x'.i = x.i + 1 → x'.p ≤ x'.i → (∀ k, x'.e k ≤ x'.i) →
            lp.wp Tryd.prog (Exit.then (Code.rounds Tryd.prog lp (Exit.inBlock 0 (Exit.then (rest.wp Tryd.prog (bodyPost Tryd.prog Tryd.f6 fun e w' => e = .returned (.bool true) ∧ Below W.heap.size W w')) (bodyPost Tryd.prog Tryd.f6 fun e w' => e = .returned (.bool true) ∧ Below W.heap.size W w'))) fuel) (Exit.inBlock 0 (Exit.then (rest.wp Tryd.prog (bodyPost Tryd.prog Tryd.f6 fun e w' => e = .returned (.bool true) ∧ Below W.heap.size W w')) (bodyPost Tryd.prog Tryd.f6 fun e w' => e = .returned (.bool true) ∧ Below W.heap.size W w')))) a w := by
          intro r tp lg x' hr1 hlg hc hf' hn' hi' hp' he'
          obtain ⟨tp2, hx⟩ := norm_of (r := r) (Prod.mk.inj (hc jt (fun _ _ => undef))).1
          refine oneC_wp (n := 162) (mk := mkR 6) (K := 1000) (e := .normal) (s := S x jt) (s' := stOf r) entersOk zerosOk CBok CCok DCok DBok pl1 ok1 (hr1.symm.trans hx) (revN_ok _ _ hlg NotedOk.nil) hT hr hG ?_
          intro m1 a1 w1 g1 t1 d1 q1
          obtain ⟨m6, jt6, jh6, g6, t6, q6⟩ := canonR (S := shOf (stOf r)) (S2 := fun jt2 _ => S x' jt2) (fun jt2 _ y hy c t h => flat_of x' (by rw [hn', hf']; exact hfl) jt2 y hy c t h) (fun jt2 jh2 => (Prod.mk.inj (hc jt2 jh2)).2) t1 q1 g1
          exact ih x' jt6 m6 a1 w1 (by omega) (by omega) hp' he' (by rw [hn', hf']; exact hel) (by rw [hn', hf']; exact hfl) t6 q6 g6 (by rw [d1]; exact hdf)
        by_cases hg : x.g s = q
        · refine step _ _ (headN x s q za zb ++ sameN x s q) (stay x) rfl (hh.append (same_ok x s q h6 hg)) (fun jt2 jh2 => upTo_eq _ _ (same_all x q za zb jt jt2 jh2) s (Nat.zero_le _) (by omega)) rfl rfl rfl ?_ ?_
          · show x.p ≤ x.i + 1; omega
          · intro k; show x.e k ≤ x.i + 1; have := hei k; omega
        · refine step _ _ (headN x s q za zb ++ moveN x s q) (moved x s q) rfl (hh.append (move_ok x s q h6 hg hq7 hpi (hei s))) (fun jt2 jh2 => upTo_eq _ _ (move_all x q za zb jt jt2 jh2) s (Nat.zero_le _) (by omega)) rfl rfl rfl ?_ ?_
          · show x.p + 1 ≤ x.i + 1; omega
          · intro k
            show upd x.e s (x.e s + 1) k ≤ x.i + 1
            unfold upd
            have h1 := hei k
            have h2 := hei s
            split <;> omega
      · obtain ⟨tp, hx⟩ := exit_of (r := hd2 x jt) he3
        exact out _ _ _ _ _ rfl hx (NotedOk.cons (congrArg Value.bool (lt_no (b := 60) (by omega))) (NotedOk.cons (congrArg Value.bool (lt_yes hn)) NotedOk.nil)) he4
    · obtain ⟨tp, hx⟩ := exit_of (r := hd1 x jt) he1
      exact out _ _ _ _ _ rfl hx (NotedOk.cons (congrArg Value.bool (lt_no (by omega))) NotedOk.nil) he2
set_option maxRecDepth 100000 in
theorem walk_some (W : World) (v : Value) (f : Nat → Value) (n c : Nat) (hs : SliceArg Tryd.prog W 55 2 v f n c) (hel : ∀ i, i < n → ∃ a b, f (i * 2 + 0) = i64 a ∧ f (i * 2 + 1) = i64 b) : Calls Tryd.prog 6 #[v] W fun e W' => e = .returned (.bool true) ∧ Below W.heap.size W W' := by
  obtain ⟨x, hxd⟩ : ∃ x : X, x = ⟨n, c, f, 0, 0, fun _ => 0, fun _ => 0⟩ := ⟨_, rfl⟩
  have hfl : ∀ i, i < n * 2 → vflat 8 (f i) = true := by
    obtain ⟨b, off, C, t, fr, _, _, _, h⟩ := hs.ex
    exact fun i hi => (h i hi).2
  obtain ⟨m0, hle, hv, hr0⟩ := hs.lay (initRel 2 W) (show (bareOf 2).next < (bareOf 2).lim by decide)
  have hah := ahead x (fun _ => undef) (fun _ _ => undef)
  refine calls_of_wp Tryd.func6 hasBody ?_
  have hT : TRel m0 162 (s0 x).1 (#[v] ++ Array.replicate (Tryd.f6.ntmps - #[v].size) undef) :=
    initT_rel (args := #[sliceV 10 x]) (args' := #[v]) (n := 162) ⟨rfl, fun i h1 h2 => (match i, h1, h2 with
      | 0, _, _ => by rw [hxd]; exact hv)⟩ (show 1 ≤ 162 by decide)
  have hr1 : Rel Tryd.prog (baseOf W) m0 (s0 x).2 W := by rw [hxd]; exact hr0
  refine goNC_wp (n := 162) (mk := mkR 6) (K := 1000) (k := 3) (x := ⟨s0 x, [], [], true⟩) (y := y1 x) entersOk zerosOk CBok CCok DCok DBok k0 rfl (Prod.mk.inj hah).1 (by rw [(Prod.mk.inj (Prod.mk.inj hah).2).1]; exact NotedOk.nil) hT hr1 ((muG_rel 2).mono hle) ?_
  intro m1 a1 w1 g1 t1 d1 q1
  show c3.wp Tryd.prog _ a1 w1
  rw [e1]
  refine wp_seq (goNC_wp (n := 162) (mk := mkR 6) (K := 1000) (k := 1) (x := ⟨(y1 x).s, [], [], true⟩) (y := y2 x) entersOk zerosOk CBok CCok DCok DBok k1 rfl (Prod.mk.inj (Prod.mk.inj (Prod.mk.inj hah).2).2).1 (by rw [(Prod.mk.inj (Prod.mk.inj (Prod.mk.inj (Prod.mk.inj hah).2).2).2).1]; exact NotedOk.nil) t1 q1 g1 ?_)
  intro m2 a2 w2 g2 t2 d2 q2
  rw [e2, e3]
  have hfx : ∀ i, i < (x0 x).n * 2 → vflat 8 ((x0 x).f i) = true := by rw [hxd]; exact hfl
  obtain ⟨m3, jt3, jh3, g3, t3, q3⟩ := canonR (S := shOf (y2 x).s) (S2 := fun jt2 _ => S (x0 x) jt2) (fun jt2 _ y hy c t h => flat_of (x0 x) hfx jt2 y hy c t h) (fun jt2 jh2 => (Prod.mk.inj (Prod.mk.inj (Prod.mk.inj (Prod.mk.inj (ahead x jt2 jh2)).2).2).2).2) t2 q2 g2
  exact wp_block (wp_loop_rounds 61 (rounds 61 (x0 x) _ _ _ _ (by show 60 - 0 < 61; omega) (Nat.zero_le _) (Nat.zero_le _) (fun _ => Nat.zero_le _) (by rw [hxd]; exact hel) hfx t3 q3 g3 (by rw [d2, d1])))
set_option maxRecDepth 100000 in
theorem walk_nil (W : World) : Calls Tryd.prog 6 #[.slice none 0 0] W fun e W' => e = .returned (.bool true) ∧ Below W.heap.size W W' := by
  refine calls_of_wp Tryd.func6 hasBody ?_
  have hT : TRel (muG 2) 162 (initT [.slice none 0 0] 0 .leaf) (#[.slice none 0 0] ++ Array.replicate (Tryd.f6.ntmps - 1) undef) :=
    initT_rel (args := #[.slice none 0 0]) (args' := #[.slice none 0 0]) (n := 162) ⟨rfl, fun i h1 h2 => (match i, h1, h2 with
      | 0, _, _ => .nilSlice 0 0)⟩ (show 1 ≤ 162 by decide)
  exact endS_wp (n := 162) (K := 1000) (s := (initT [.slice none 0 0] 0 .leaf, bareOf 2)) entersOk zerosOk CBok DBok plB okB vb none1 hT (initRel 2 W) (muG_rel 2) rfl
set_option maxRecDepth 100000 in
theorem walk_empty (W : World) (b off c : Nat) (hc : c ≤ HALF) : Calls Tryd.prog 6 #[.slice (some ⟨b, off, none⟩) 0 c] W fun e W' => e = .returned (.bool true) ∧ Below W.heap.size W W' := by
  refine calls_of_wp Tryd.func6 hasBody ?_
  have hlim : (bareOf 2).next < (bareOf 2).lim := by decide
  have hr := (initRel (P := Tryd.prog) 2 W).name hlim ⟨b, off, 0⟩
  have hle : Mu.le (muG 2) ((muG 2).add (bareOf 2).next ⟨b, off, 0⟩) := Mu.le_add ((initRel (P := Tryd.prog) 2 W).fresh _ (Nat.le_refl _) hlim).2
  have hT : TRel ((muG 2).add (bareOf 2).next ⟨b, off, 0⟩) 162 (initT [.slice (some ⟨10, 0, none⟩) 0 c] 0 .leaf) (#[.slice (some ⟨b, off, none⟩) 0 c] ++ Array.replicate (Tryd.f6.ntmps - 1) undef) :=
    initT_rel (args := #[.slice (some ⟨10, 0, none⟩) 0 c]) (args' := #[.slice (some ⟨b, off, none⟩) 0 c]) (n := 162) ⟨rfl, fun i h1 h2 => (match i, h1, h2 with
      | 0, _, _ => .slice 10 0 0 c ⟨b, off, 0⟩ (Mu.add_self _ _ _) hc)⟩ (show 1 ≤ 162 by decide)
  exact endS_wp (n := 162) (K := 1000) (s := (initT [.slice (some ⟨10, 0, none⟩) 0 c] 0 .leaf, (bareOf 2).push .dead)) entersOk zerosOk CBok DBok plB okB vb (none2 c) hT hr ((muG_rel 2).mono hle) rfl
theorem two_of {α : Type} : ∀ (l : List α), l.length = 2 → ∃ u v, l = [u, v]
  | [u, v], _ => ⟨u, v, rfl⟩
set_option maxRecDepth 100000 in
theorem pair_of_trod {H : Type} {enc : TypeId × Value → H} {W : World} {base : Nat} {spare : Nat → Bool} {held : Bool} {fuel : Nat} {cs : List Value} {x : DataW H × List MemPlace} (h : DataW.trod enc Tryd.prog W base spare held fuel 55 cs = some x) : ∃ a b, cs = [i64 a, i64 b] := by
  obtain ⟨xs, m, _, _, hl, hxl, hall⟩ := DataW.trod_array und55 h
  rw [cells55] at hl
  have each : ∀ i, i < 2 → ∃ n, (cs.drop (i * 1)).take 1 = [i64 n] := by
    intro i hi
    have := hall i hi
    rw [cells3] at this
    cases hx : xs[i]? with
    | none => rw [List.getElem?_eq_none_iff] at hx; omega
    | some y =>
      rw [hx] at this
      obtain ⟨n, e, _⟩ := DataW.trod_int Tryd.underlying3 this
      exact ⟨n, e⟩
  obtain ⟨u, v, rfl⟩ := two_of cs hl
  obtain ⟨a, ha⟩ := each 0 (by omega)
  obtain ⟨b, hb⟩ := each 1 (by omega)
  obtain rfl : u = i64 a := (List.cons.inj ha).1
  obtain rfl : v = i64 b := (List.cons.inj hb).1
  exact ⟨a, b, rfl⟩
set_option maxRecDepth 100000 in
theorem contract (H : Type) (enc : TypeId × Value → H) (W : World) (base : Nat) (args : Array Value) (ds gs : List (DataW H)) (before : List MemPlace)
    (hval : ∀ (j : Nat) t v, Tryd.f6.params[j]? = some t → args[j]? = some v → Value.okWide Tryd.prog W .any base t v)
    (hW : DataW.Whole enc Tryd.prog Tryd.f6.params.toList Rows.metaMovesSpec.vars false W args.toList ds gs before) :
    Calls Tryd.prog 6 args W fun e W' => ∃ v, e = .returned v ∧ Rows.metaMovesSpec.post enc Tryd.prog Tryd.f6 false true false false W args v W' := by
  have hW' := hW
  obtain ⟨p, q, hA0, hV, rfl, hfz, hnd⟩ := hW
  have hA : DataW.TrodAll enc Tryd.prog W 0 (fun _ => true) true Tryd.f6.params.toList args.toList ds p := hA0
  rw [Tryd.params6] at hA hval
  obtain ⟨v0, vs0, d0, ds0, p0, q0, hargs, rfl, rfl, h0, r0⟩ := trodAll_cons hA
  obtain ⟨rfl, rfl, rfl⟩ := trodAll_nil r0
  obtain rfl : args = #[v0] := by cases args; simp_all
  obtain ⟨rfl, rfl⟩ := trodVars_none hV
  have key : Calls Tryd.prog 6 #[v0] W fun e W' => e = .returned (.bool true) ∧ Below W.heap.size W W' := by
    rcases sliceArg_of und54 (hval 0 54 v0 (by simp) (by simp)) h0 (by rw [cells55]; decide) (fun fuel cs x h v hv => by
      obtain ⟨a, b, rfl⟩ := pair_of_trod h
      simp only [List.mem_cons, List.not_mem_nil, or_false] at hv
      rcases hv with rfl | rfl <;> rfl) with rfl | ⟨b, off, c, rfl, hc⟩ | ⟨f, n, c, _, hs, hel⟩
    · exact walk_nil W
    · exact walk_empty W b off c hc
    · rw [cells55] at hs hel
      refine walk_some W v0 f n c hs fun i hi => ?_
      obtain ⟨fuel, x, hx⟩ := hel i hi
      obtain ⟨a, b, hab⟩ := pair_of_trod hx
      have hab' : [f (i * 2 + 0), f (i * 2 + 1)] = [i64 a, i64 b] := hab
      simp only [List.cons.injEq, and_true] at hab'
      exact ⟨a, b, hab'.1, hab'.2⟩
  refine key.mono fun e W' ⟨he, hb⟩ => ?_
  subst he
  exact ⟨_, rfl, post_true laidOut rd6 hW' rfl rfl rfl rfl (by kernel_rfl) Tryd.underlying4 hb⟩

def dcells : Nat → DataW Unit → List Value
  | _, .lit (.int k n) => [.int k n]
  | f + 1, .agg l => l.flatMap (dcells f)
  | _, _ => []
/-- A WORLD FOR THE WITNESS. -/
noncomputable def laidWorld (os : Os) : World :=
  let w0 := World.holding Tryd.prog os ⟨#[], #[], []⟩
  let put (h : Array Obj) (g : Nat) (cs : List Value) : Array Obj := h.modify g fun
    | .cells _ t frozen => .cells cs.toArray t frozen
    | o => o
  { w0 with heap := put (put w0.heap 0 (dcells 3 Rows.laid_unicode_utf8_first)) 1 (dcells 3 Rows.laid_unicode_utf8_acceptRanges) }
noncomputable def wargs : Array Value := #[.slice none 0 0]
theorem laid_met (os : Os) : laidMet Tryd.prog Rows.metaMovesRow.laid ((laidWorld os).forCall (fun _ _ => 0) ⟨#[], wargs, []⟩).memory :=
  laidMet_of_run3 8 (by kernel_rfl) (by kernel_rfl) (by kernel_rfl)
theorem reads (os : Os) {H : Type} (enc : TypeId × Value → H) : ∃ places, DataW.whole enc Tryd.prog ((laidWorld os).forCall (fun _ _ => 0) ⟨#[], wargs, []⟩).memory Tryd.f6.params.toList Rows.metaMovesSpec.vars false wargs.toList 8 =
    some ([.nil], [], places) :=
  ⟨[], by kernel_rfl⟩
set_option maxRecDepth 100000 in
theorem lifted (os : Os) (started : os.Started) (H : Type) (enc : TypeId × Value → H) (F : Stop.Interp) :
    ReturnsInHanded {} Tryd.checked os 6 .any ((OpenSpec.ofChange Rows.metaMovesSpec).preRow enc Tryd.prog Tryd.f6 Rows.metaMovesRow.domain false Rows.metaMovesRow.laid) (((OpenSpec.ofChange Rows.metaMovesSpec).at F).post enc Tryd.prog Tryd.f6 false true false false) := by
  obtain ⟨places, hx⟩ := reads os enc
  refine returnsInHanded_of_row (C := Tryd.checked) (s := OpenSpec.ofChange Rows.metaMovesSpec) own started (by kernel_rfl) Tryd.func6
    (witness_row_at (enc := enc) (C := Tryd.checked) false (laidWorld os) wargs rfl (by kernel_rfl) (by kernel_rfl) (by kernel_rfl)
      (OpenSpec.preRow_of_cond 8 hx (by kernel_rfl) (fun k hk => by cases hk) (by kernel_rfl) (laid_met os))) ?_
  intro W base args ds gs before hval hW _ _ _ _ _ _
  exact contract H enc W base args ds gs before hval hW
theorem said : Rows.MetaMovesSaid :=
  OpenClaim.holds_of_cond 6 Tryd.f6 rfl rfl rfl rfl rfl rfl rfl ⟨rfl, rfl, rfl, rfl, rfl⟩ rfl rfl rfl rfl rfl (by kernel_rfl) Tryd.func6 (by kernel_rfl)
    (of_decide_eq_true (by kernel_rfl)) (by unfold Func.isWrapper; first | (rw [if_pos (by decide +kernel)]; kernel_rfl) | (rw [if_neg (by decide +kernel)]; exact ⟨rfl, rfl⟩))
    (fun os started H enc _ F => by rw [OpenClaim.pre_eq_preRow]; exact lifted os started H enc F)
/-- No parameter wants a stand-in; the program's own looks are off: what both cards ask. -/
theorem plain (f : FuncId) (fn : Func) (hf : Tryd.pinned.checked.prog.funcNamed "rookery/rookerylaw14.MetaMoves" = some f) (hfn : Tryd.pinned.checked.prog.funcs[f]? = some fn) :
    false = Tryd.pinned.checked.prog.looks [] ∧ ∀ (j : Nat) t, fn.params[j]? = some t → Tryd.pinned.checked.prog.wantsStandIn t = false := by
  obtain rfl : f = 6 := Option.some.inj ((show Tryd.prog.funcNamed "rookery/rookerylaw14.MetaMoves" = some 6 by kernel_rfl).symm.trans hf) |>.symm
  obtain rfl : fn = Tryd.f6 := (Option.some.inj (Tryd.func6.symm.trans hfn)).symm
  refine ⟨by kernel_rfl, fun j t ht => ?_⟩
  rw [Tryd.params6] at ht
  obtain rfl : t = 54 := by simpa using Array.mem_of_getElem? ht
  exact (show Tryd.prog.wantsStandIn 54 = false by kernel_rfl)
/-- ████ THE CARD ████ -/
theorem card : Rows.MetaMovesCardSaid :=
  Claim7.holds_tied_plain_at .later [] _ _ _ _ said (fun _ h => by cases h) (by kernel_rfl) (fun _ h => by cases h) metaMoves_row_tie rfl ⟨rfl, rfl⟩ (by kernel_rfl) rfl plain (by kernel_rfl)
end Go.Proofs.YtclcobiaiedpbaaDoor.metaMoves
