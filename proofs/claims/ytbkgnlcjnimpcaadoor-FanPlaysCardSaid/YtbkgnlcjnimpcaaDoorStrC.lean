/- Texts: has a text a character that is none of a label's? -/
import Derived.Test.YtbkgnlcjnimpcaaDoorStrS
namespace Go.Proofs.YtbkgnlcjnimpcaaDoor.strs.odd
open Go Go.Ab Go.RowKit Go.Proofs.YtbkgnlcjnimpcaaDoor.strs
set_option maxRecDepth 100000
def r32 (n : Nat) : Value := .int .i32 (.ofNat n)
def mk52 : Marks := marksIn [(52, [4, 7, 11, 14, 19], [], [])]
/-- Of a character: what is looked at. -/
def runeT (y : Way) : Ab.Tape :=
  bV y.b1 :: (match y.b1 with | true => [] | false => [bV y.b2]) ++ (match y.b1 || y.b2 with | true => (bV y.b3 :: (match y.b3 with | true => [] | false => [bV y.b4])) ++ (match y.b3 || y.b4 with | true => [bV y.b5] | false => []) | false => [])
noncomputable def runeN (c : Nat) (y : Way) : Noted :=
  pr (.bool (intLt (.ofNat c) 97)) (bV y.b1) :: (match y.b1 with | true => [] | false => [pr (.bool (intLt 122 (.ofNat c))) (bV y.b2)]) ++
  (match y.b1 || y.b2 with | true => (pr (.bool (intLt (.ofNat c) 48)) (bV y.b3) :: (match y.b3 with | true => [] | false => [pr (.bool (intLt 57 (.ofNat c))) (bV y.b4)])) ++ (match y.b3 || y.b4 with | true => [pr (.bool (notB (intEq (.ofNat c) 45))) (bV y.b5)] | false => []) | false => [])
theorem run52 (c : Nat) : okWays.map (fun y => saidOf ((CCk noneK mk52 52).un [r32 c].toArray (bareOf 8) (runeT y) [])) = okWays.map (fun y => some (.bool false, revN (runeN c y) [])) := by kernel_rfl
theorem run52o (c : Nat) : oddWays.map (fun y => saidOf ((CCk noneK mk52 52).un [r32 c].toArray (bareOf 8) (runeT y) [])) = oddWays.map (fun y => some (.bool true, revN (runeN c y) [])) := by kernel_rfl
theorem runeN_ok (c : Nat) : NotedOk (runeN c (wayOf c)) := by
  have h := (wayN_ok (p := True) (c := c) (t := []) trivial NotedOk.nil).1
  have sub : ∀ y : Way, ∀ q ∈ runeN c y, q ∈ wayN True c y [] := by
    intro y q hq
    obtain ⟨b1, b2, b3, b4, b5⟩ := y
    unfold runeN at hq
    unfold wayN
    cases b1 <;> cases b2 <;> cases b3 <;> cases b4 <;> simp only [Bool.or_false, Bool.or_true, Bool.false_or, Bool.true_or, List.cons_append, List.nil_append, List.append_nil, List.mem_cons, List.not_mem_nil, or_false] at hq ⊢ <;>
      (repeat' (rcases hq with hq | hq)) <;> simp
  exact fun q hq => h q (sub _ q hq)
theorem odd_ok (c : Nat) : MemoOk Tryd.prog ⟨52, [r32 c], .bool (odd1 c)⟩ := by
  have hw := wayN_ok (p := True) (c := c) (t := []) trivial NotedOk.nil
  cases ho : odd1 c with
  | false => exact memoK' (kn := noneK) (mk := mk52) (tp := runeT (wayOf c)) noneK_sound rfl rfl (map_mem (run52 c) _ (hw.2.1 ho)) (revN_ok _ _ (runeN_ok c) NotedOk.nil)
  | true => exact memoK' (kn := noneK) (mk := mk52) (tp := runeT (wayOf c)) noneK_sound rfl rfl (map_mem (run52o c) _ (hw.2.2 ho)) (revN_ok _ _ (runeN_ok c) NotedOk.nil)
def g52 (l : List Value) : Option Value := match l with
  | [.int .i32 (.ofNat c)] => some (.bool (odd1 c))
  | _ => none
def kn52 : Known := pureK 52 g52
theorem kn52ok : Kok kn52 := pureK_sound fun l v h => by
  unfold g52 at h
  split at h
  · cases h; exact odd_ok _
  · cases h
/-! ### indexFunc -/
def fn52 : Value := .func (.func 52) ⟨[]⟩ ⟨[]⟩
def mk76 : Marks := with7 [(76, [11])] (marksIn [(76, [19], [], [])])
noncomputable def body : Code := Tryd.f76.body.getD .skip
theorem hasBody : Tryd.f76.body = some body := by kernel_rfl
noncomputable def c1 : Code := dropN 1 body
noncomputable def ini : Code := codeL c1
noncomputable def rest : Code := codeR c1
noncomputable def blk : Code := codeR ini
noncomputable def lp : Code := inBlk blk
noncomputable def hd : Code := codeL lp
noncomputable def lp2 : Code := codeR lp
theorem e1 : c1 = .seq ini rest := by kernel_rfl
theorem e2 : dropN 1 ini = blk := by kernel_rfl
theorem e3 : blk = .block 0 (.loop lp) := by kernel_rfl
theorem e4 : lp = .seq hd lp2 := by kernel_rfl
theorem k0 : partsOk Tryd.prog 8 21 1 body = true := by kernel_rfl
theorem k1 : partsOk Tryd.prog 8 21 1 ini = true := by kernel_rfl
theorem okL : codeOk 8 21 lp = true := by kernel_rfl
theorem okH : codeOk 8 21 hd = true := by kernel_rfl
theorem okR : codeOk 8 21 rest = true := by kernel_rfl
theorem plL : plansOk Tryd.prog lp = true := by kernel_rfl
theorem plH : plansOk Tryd.prog hd = true := by kernel_rfl
theorem plR : plansOk Tryd.prog rest = true := by kernel_rfl
noncomputable def SI (l : List UInt8) (i : Nat) (jt : Nat → Value) : St := (treeF (slotsOf [(0, str l), (1, fn52), (2, Tr), (10, ptrTo 8)] jt) 21 0 .leaf, ⟨heapF (deads 8 ++ [.iter ⟨⟨l⟩⟩ i]) 0 .leaf, 9, 1099511627776⟩)
def sh (s : St) : Shape := ⟨[0, 1, 2, 3, 4, 5, 6, 7, blkOf (Tget s.1 10)], 21, inL [0, 1, 2, 10], fun _ _ => true, fun _ => false, fun _ => false, fun _ => false⟩
noncomputable def y1 (l : List UInt8) : SC := partsK kn52 mk76 76 1 body (initT [str l, fn52, Tr] 0 .leaf, bareOf 8) []
noncomputable def y2 (l : List UInt8) : SC := partsK kn52 mk76 76 1 ini (y1 l).s []
theorem ahead (l : List UInt8) (jt : Nat → Value) (jh : Nat → Nat → Value) : (fun y z => (y.ok, y.lg, z.ok, z.lg, canonS (sh z.s) 8 z.s jt jh)) (y1 l) (y2 l) = (true, [], true, [], some (SI l 0 jt)) := by kernel_rfl
def tup (i c : Nat) : Value := .tuple ⟨[.bool true, e24 i, r32 c]⟩
noncomputable def rnd (l : List UInt8) (i c : Nat) (b : Bool) (p : Nat) (j0 : Nat → Value) : RCC := codeK kn52 mk76 76 lp (SI l i j0) [tup i c, e24 p, bV b]
noncomputable def rndN (l : List UInt8) (i c : Nat) (b : Bool) (p : Nat) : Noted := [nextFact ⟨⟨l⟩⟩ i (tup i c) p, pr (.bool (sameB (odd1 c) true)) (bV b)]
theorem round (l : List UInt8) (i c p : Nat) (j0 jt : Nat → Value) (jh : Nat → Nat → Value) : (fun r => (isN r, canonS (sh (stOf r)) 8 (stOf r) jt jh)) (rnd l i c false p j0) = (some (revN (rndN l i c false p) []), some (SI l p jt)) := by kernel_rfl
theorem found (l : List UInt8) (i c p : Nat) (j0 : Nat → Value) : isR Tryd.f76 (rnd l i c true p j0) = some (e24 i, revN (rndN l i c true p) []) := by kernel_rfl
noncomputable def over (l : List UInt8) (i : Nat) (j0 : Nat → Value) : RCC := codeK kn52 mk76 76 lp (SI l i j0) [.tuple ⟨[.bool false]⟩]
theorem ends (l : List UInt8) (i : Nat) (j0 : Nat → Value) : (fun r => (isX r, saidOf (finK kn52 mk76 76 Tryd.f76 rest (stOf r) []))) (over l i j0) = (some (0, [Nat.blt i (⟨⟨l⟩⟩ : ByteArray).size = false]), some (i64 (-1), [])) := by kernel_rfl
def oddV (l : List UInt8) : Value := match l.findIdx? (fun x => odd1 (u8n x)) with
  | some i => e24 i
  | none => i64 (-1)
theorem oddV_flat (l : List UInt8) : vflat 8 (oddV l) = true := by unfold oddV; split <;> rfl
abbrev QL (v : Value) (W : World) : Exit → Act → World → Prop := Exit.inBlock 0 (Exit.then (rest.wp Tryd.prog (Qb Tryd.f76 v W)) (Qb Tryd.f76 v W))
theorem found_at {l : List UInt8} {i : Nat} {x : UInt8} (h : l[i]? = some x) (ho : odd1 (u8n x) = true) (hpre : ∀ (k : Nat) (y : UInt8), k < i → l[k]? = some y → odd1 (u8n y) = false) : oddV l = e24 i := by
  unfold oddV
  have : l.findIdx? (fun x => odd1 (u8n x)) = some i := by
    have hi : i < l.length := by
      rcases Nat.lt_or_ge i l.length with q | q
      · exact q
      · rw [List.getElem?_eq_none q] at h; cases h
    rw [List.findIdx?_eq_some_iff_getElem]
    refine ⟨hi, ?_, fun j hj => ?_⟩
    · rw [List.getElem?_eq_getElem hi] at h
      rw [Option.some.inj h]; exact ho
    · have := hpre j _ hj (List.getElem?_eq_getElem (by omega))
      rw [this]; exact Bool.false_ne_true
  rw [this]
theorem none_at {l : List UInt8} (hpre : ∀ (k : Nat) (y : UInt8), l[k]? = some y → odd1 (u8n y) = false) : oddV l = i64 (-1) := by
  unfold oddV
  have : l.findIdx? (fun x => odd1 (u8n x)) = none := by
    rw [List.findIdx?_eq_none_iff]
    intro x hx
    obtain ⟨k, hk⟩ := List.mem_iff_getElem?.1 hx
    exact hpre k x hk
  rw [this]
theorem next_of {l : List UInt8} {i : Nat} {x : UInt8} (h : l[i]? = some x) : ∃ c p, nextFact ⟨⟨l⟩⟩ i (tup i c) p ∧ odd1 c = odd1 (u8n x) ∧ (odd1 c = false → p = i + 1) := by
  have hi : i < l.length := by
    rcases Nat.lt_or_ge i l.length with q | q
    · exact q
    · rw [List.getElem?_eq_none q] at h; cases h
  have hs : i < (⟨⟨l⟩⟩ : ByteArray).size := hi
  have hx : (⟨⟨l⟩⟩ : ByteArray)[i]'hs = x := by
    rw [List.getElem?_eq_getElem hi] at h
    exact Option.some.inj h
  have hb : Nat.blt i (⟨⟨l⟩⟩ : ByteArray).size = true := by rw [Nat.blt_eq]; exact hs
  by_cases ha : x.toNat < 128
  · have hd := decode_ascii ⟨⟨l⟩⟩ i hs (by rw [hx]; exact ha)
    rw [hx] at hd
    exact ⟨x.toNat, i + 1, ⟨hb, x.toNat, 1, hd, rfl, rfl⟩, rfl, fun _ => rfl⟩
  · obtain ⟨h1, _⟩ := decode_high ⟨⟨l⟩⟩ i hs (by rw [hx]; omega)
    obtain ⟨c, wd, hd⟩ : ∃ c wd, Utf8.decode ⟨⟨l⟩⟩ i = (c, wd) := ⟨_, _, rfl⟩
    rw [hd] at h1
    have h1 : 128 ≤ c := h1
    have o1 : odd1 c = true := by
      unfold odd1
      rw [blt_f (show 97 ≤ c by omega), blt_t (show 122 < c by omega), blt_f (show 48 ≤ c by omega), blt_t (show 57 < c by omega), beq_f (by omega)]; rfl
    have o2 : odd1 (u8n x) = true := by
      rw [u8n_eq]
      unfold odd1
      rw [blt_f (show 97 ≤ x.toNat by omega), blt_t (show 122 < x.toNat by omega), blt_f (show 48 ≤ x.toNat by omega), blt_t (show 57 < x.toNat by omega), beq_f (by omega)]; rfl
    exact ⟨c, i + wd, ⟨hb, c, wd, hd, rfl, rfl⟩, o1.trans o2.symm, fun h => by rw [o1] at h; cases h⟩
theorem rounds {W : World} {l : List UInt8} : ∀ (fuel i : Nat) (j0 : Nat → Value) (m : Mu) (a : Act) (w : World), l.length - i < fuel → i ≤ l.length → (∀ (k : Nat) (x : UInt8), k < i → l[k]? = some x → odd1 (u8n x) = false) →
    TRel m 21 (SI l i j0).1 a.tmps → Rel Tryd.prog (baseOf W) m (SI l i j0).2 w → GRel 8 m → a.defers = [] → Code.rounds Tryd.prog lp (QL (oddV l) W) fuel a w := by
  intro fuel
  induction fuel with
  | zero => intro i j0 m a w h; omega
  | succ fuel ih =>
    intro i j0 m a w hf hi hpre hT hr hG hd0
    rw [rounds_succ]
    by_cases hlt : i < l.length
    · obtain ⟨x, hx⟩ : ∃ x, l[i]? = some x := ⟨_, List.getElem?_eq_getElem hlt⟩
      obtain ⟨c, p, h1, h2, h3⟩ := next_of hx
      cases ho : odd1 c with
      | false =>
        obtain rfl := h3 ho
        have hs := fun jt jh => round l i c (i + 1) j0 jt jh
        refine normK (n := 21) kn52ok plL okL rfl (Prod.mk.inj (hs j0 (fun _ _ => undef))).1 (revN_ok _ _ (NotedOk.cons h1 (NotedOk.cons (by rw [ho]; rfl) NotedOk.nil)) NotedOk.nil) hT hr hG ?_
        intro m1 a1 w1 g1 t1 d1 q1
        obtain ⟨m2, j2, g2, t2, q2⟩ := reK (S := sh _) (S2 := fun jt => SI l (i + 1) jt) (fun _ => rfl) (fun _ => rfl) (fun _ => rfl) (fun jt jh => (Prod.mk.inj (hs jt jh)).2) t1 q1 g1
        exact ih (i + 1) j2 m2 a1 w1 (by omega) (by omega) (fun k y hk hy => by
          by_cases e : k = i
          · subst e; rw [hx] at hy; cases hy; exact h2.symm.trans ho
          · exact hpre k y (by omega) hy) t2 q2 g2 (d1.trans hd0)
      | true =>
        have e := found_at hx (h2.symm.trans ho) hpre
        rw [e]
        exact retK (n := 21) kn52ok plL okL (R := rnd l i c true p j0) rfl (found l i c p j0) rfl (revN_ok _ _ (NotedOk.cons h1 (NotedOk.cons (by rw [ho]; rfl) NotedOk.nil)) NotedOk.nil) hT hr hG hd0 (fun a' w' h => h)
    · obtain rfl : i = l.length := by omega
      have e : oddV l = i64 (-1) := none_at fun k y hk => hpre k y (by
        rcases Nat.lt_or_ge k l.length with h | h
        · exact h
        · rw [List.getElem?_eq_none h] at hk; cases hk) hk
      rw [e]
      obtain ⟨x1, x2⟩ := Prod.mk.inj (ends l l.length j0)
      refine exitK (n := 21) kn52ok plL okL (R := over l l.length j0) rfl x1 (NotedOk.cons (show Nat.blt l.length l.length = false from blt_f (Nat.le_refl _)) NotedOk.nil) hT hr hG ?_
      intro m1 a1 w1 g1 t1 d1 q1
      show rest.wp Tryd.prog (Qb Tryd.f76 (i64 (-1)) W) a1 w1
      exact lastK (n := 21) kn52ok plR okR rfl x2 NotedOk.nil t1 q1 g1 (d1.trans hd0)
theorem index_ok (l : List UInt8) : MemoOk Tryd.prog ⟨76, [str l, fn52, Tr], oddV l⟩ := by
  refine pure_of_wp (G := 8) (n := 21) Tryd.func76 hasBody rfl (show 3 ≤ 21 by decide) rfl (oddV_flat l) fun W a hT hd0 => ?_
  have hah := ahead l
  obtain ⟨p1, p⟩ := Prod.mk.inj (hah (fun _ => undef) (fun _ _ => undef))
  obtain ⟨p2, p⟩ := Prod.mk.inj p
  obtain ⟨p3, p⟩ := Prod.mk.inj p
  obtain ⟨p4, _⟩ := Prod.mk.inj p
  refine partK (n := 21) kn52ok k0 (y := y1 l) rfl p1 (by rw [p2]; exact NotedOk.nil) hT (initRel 8 W) (muG_rel 8) ?_
  intro m1 a1 w1 g1 t1 d1 q1
  show c1.wp Tryd.prog _ a1 w1
  rw [e1]
  refine wp_seq (partK (n := 21) kn52ok k1 (y := y2 l) rfl p3 (by rw [p4]; exact NotedOk.nil) t1 q1 g1 ?_)
  intro m2 a2 w2 g2 t2 d2 q2
  rw [e2, e3]
  obtain ⟨m3, j3, g3, t3, q3⟩ := reK (S := sh _) (S2 := fun jt => SI l 0 jt) (fun _ => rfl) (fun _ => rfl) (fun _ => rfl) (fun jt jh => (Prod.mk.inj (Prod.mk.inj (Prod.mk.inj (Prod.mk.inj (hah jt jh)).2).2).2).2) t2 q2 g2
  exact wp_block (wp_loop_rounds (l.length + 1) (rounds (l.length + 1) 0 j3 m3 a2 w2 (by omega) (Nat.zero_le _) (fun k x hk => by omega) t3 q3 g3 (by rw [d2, d1]; exact hd0)))
end Go.Proofs.YtbkgnlcjnimpcaaDoor.strs.odd
