/- Texts: what all walks over them have in common. -/
import Derived.Test.YtbkgnlcjnimpcaaDoorStrB
import Derived.Laws.RangeString
import Derived.Laws.RangeAny
namespace Go.Proofs.YtbkgnlcjnimpcaaDoor.strs
open Go Go.Ab Go.RowKit
set_option maxRecDepth 100000
noncomputable def CBk (kn : Known) : CallB := quickB kn 40
noncomputable def CCk (kn : Known) (mk : Marks) : CallC := callC Tryd.prog enters FT kn draw drawc mk 1048576 40
noncomputable def DBk (kn : Known) : DrawB := draw (CBk kn)
noncomputable def DCk (kn : Known) (mk : Marks) : DrawC := drawc (CBk kn) (CCk kn mk)
abbrev Kok (kn : Known) : Prop := CallSound Tryd.prog 8 kn.call
theorem CBkok {kn : Known} (hk : Kok kn) : CallSound Tryd.prog 8 (callOf (CBk kn)) := quickB_sound hk 40
theorem CCkok (kn : Known) (mk : Marks) : CallEq (CBk kn) (CCk kn mk) := callC_eq (fun _ _ h => drawC_eq h) mk 1048576 40
theorem DCkok (kn : Known) (mk : Marks) : DrawEq (DBk kn) (DCk kn mk) := drawC_eq (CCkok kn mk)
theorem DBkok {kn : Known} (hk : Kok kn) : DrawGood Tryd.prog 8 (fun ops T h => (DBk kn ops).un T h) := drawB_sound entersOk zerosOk (CBkok hk)
noncomputable def codeK (kn : Known) (mk : Marks) (f : Nat) (c : Code) (s : St) (tp : Ab.Tape) : RCC := (codeC Tryd.prog enters (CBk kn) (CCk kn mk) (DCk kn mk) (mk f) 1000 c).un s.1 s.2 tp []
noncomputable def partsK (kn : Known) (mk : Marks) (f k : Nat) (c : Code) (s : St) (tp : Ab.Tape) : SC := goNC Tryd.prog enters (CBk kn) (CCk kn mk) (DCk kn mk) (mk f) 1000 k c ⟨s, tp, [], true⟩
noncomputable def finK (kn : Known) (mk : Marks) (f : Nat) (fn : Func) (c : Code) (s : St) (tp : Ab.Tape) : Option OutC := lastC Tryd.prog enters (CBk kn) (CCk kn mk) (DCk kn mk) (mk f) 1000 fn c s tp
section
variable {kn : Known} {mk : Marks} {f n : Nat} {c : Code} {s s' : St} {tp tp' : Ab.Tape} {lg : Noted} {B : Base} {m : Mu} {a : Act} {w W : World} {Q : Exit → Act → World → Prop}
theorem normK (hk : Kok kn) (hp : plansOk Tryd.prog c = true) (hok : codeOk 8 n c = true) {R : RCC} (hR : codeK kn mk f c s tp = R) (hx : isN R = some lg) (hl : NotedOk lg) (hT : TRel m n s.1 a.tmps) (hr : Rel Tryd.prog B m s.2 w) (hG : GRel 8 m)
    (hQ : ∀ m' a' w', GRel 8 m' → TRel m' n (stOf R).1 a'.tmps → a'.defers = a.defers → Rel Tryd.prog B m' (stOf R).2 w' → Q .normal a' w') : c.wp Tryd.prog Q a w := by
  obtain ⟨tp', hx'⟩ := norm_of hx
  exact oneC_wp (n := n) (mk := mk f) (K := 1000) (e := .normal) (s := s) (s' := stOf R) entersOk zerosOk (CBkok hk) (CCkok kn mk) (DCkok kn mk) (DBkok hk) hp hok (hR.trans hx') hl hT hr hG hQ
theorem exitK (hk : Kok kn) (hp : plansOk Tryd.prog c = true) (hok : codeOk 8 n c = true) {R : RCC} {id : Nat} (hR : codeK kn mk f c s tp = R) (hx : isX R = some (id, lg)) (hl : NotedOk lg) (hT : TRel m n s.1 a.tmps) (hr : Rel Tryd.prog B m s.2 w) (hG : GRel 8 m)
    (hQ : ∀ m' a' w', GRel 8 m' → TRel m' n (stOf R).1 a'.tmps → a'.defers = a.defers → Rel Tryd.prog B m' (stOf R).2 w' → Q (.exit id) a' w') : c.wp Tryd.prog Q a w := by
  obtain ⟨tp', hx'⟩ := exit_of hx
  exact oneC_wp (n := n) (mk := mk f) (K := 1000) (e := .exit id) (s := s) (s' := stOf R) entersOk zerosOk (CBkok hk) (CCkok kn mk) (DCkok kn mk) (DBkok hk) hp hok (hR.trans hx') hl hT hr hG hQ
theorem retK (hk : Kok kn) (hp : plansOk Tryd.prog c = true) (hok : codeOk 8 n c = true) {fn : Func} {R : RCC} {v : Value} (hR : codeK kn mk f c s tp = R) (hx : isR fn R = some (v, lg)) (hv : vflat 8 v = true) (hl : NotedOk lg) (hT : TRel m n s.1 a.tmps) (hr : Rel Tryd.prog (baseOf W) m s.2 w) (hG : GRel 8 m) (hd : a.defers = [])
    (hQ : ∀ a' w', bodyPost Tryd.prog fn (fun e w' => e = .returned v ∧ Below W.heap.size W w') .ret a' w' → Q .ret a' w') : c.wp Tryd.prog Q a w := by
  obtain ⟨T', h', tp', vs, hx', hvs, hone⟩ := ret_of hx
  refine oneC_wp (n := n) (mk := mk f) (K := 1000) (e := .ret) (s := s) (s' := (T', h')) entersOk zerosOk (CBkok hk) (CCkok kn mk) (DCkok kn mk) (DBkok hk) hp hok (hR.trans hx') hl hT hr hG ?_
  intro m1 a1 w1 g1 t1 d1 q1
  obtain ⟨v', r1, r2⟩ := results_sound q1 t1 (resB_some hvs)
  refine hQ a1 w1 ⟨d1.trans hd, v', r1, ?_, below_of_rel q1⟩
  rw [hone] at r2
  rw [r2.of_flat 8 hv]
theorem partK (hk : Kok kn) {k : Nat} (hp : partsOk Tryd.prog 8 n k c = true) {y : SC} (hy : partsK kn mk f k c s tp = y) (h1 : y.ok = true) (hl : NotedOk y.lg) (hT : TRel m n s.1 a.tmps) (hr : Rel Tryd.prog B m s.2 w) (hG : GRel 8 m)
    (hQ : ∀ m' a' w', GRel 8 m' → TRel m' n y.s.1 a'.tmps → a'.defers = a.defers → Rel Tryd.prog B m' y.s.2 w' → (dropN k c).wp Tryd.prog Q a' w') : c.wp Tryd.prog Q a w :=
  goNC_wp (n := n) (mk := mk f) (K := 1000) (k := k) (x := ⟨s, tp, [], true⟩) (y := y) entersOk zerosOk (CBkok hk) (CCkok kn mk) (DCkok kn mk) (DBkok hk) hp hy h1 hl hT hr hG hQ
theorem lastK (hk : Kok kn) (hp : plansOk Tryd.prog c = true) (hok : codeOk 8 n c = true) {fn : Func} {v : Value} (hv : vflat 8 v = true) (hx : saidOf (finK kn mk f fn c s tp) = some (v, lg)) (hl : NotedOk lg) (hT : TRel m n s.1 a.tmps) (hr : Rel Tryd.prog (baseOf W) m s.2 w) (hG : GRel 8 m) (hd : a.defers = []) :
    c.wp Tryd.prog (bodyPost Tryd.prog fn fun e w' => e = .returned v ∧ Below W.heap.size W w') a w := by
  unfold saidOf at hx
  split at hx
  · rename_i o ho
    simp only [Option.some.injEq, Prod.mk.injEq] at hx
    exact lastC_wp (n := n) entersOk zerosOk (CBkok hk) (CCkok kn mk) (DCkok kn mk) (DBkok hk) hp hok hv ho hx.1 (by rw [hx.2]; exact hl) hT hr hG hd
  · cases hx
/-- A function without loops of open length, by its run. -/
theorem memoK' (hk : Kok kn) {l : List Value} {v : Value} (ha : l.all (vflat 8) = true) (hv : vflat 8 v = true) (hx : saidOf ((CCk kn mk f).un l.toArray (bareOf 8) tp []) = some (v, lg)) (hl : NotedOk lg) : MemoOk Tryd.prog ⟨f, l, v⟩ := by
  unfold saidOf at hx
  split at hx
  · rename_i o ho
    simp only [Option.some.injEq, Prod.mk.injEq] at hx
    have := (CCkok kn mk _ _ _ _ _ _ ho (by rw [hx.2]; exact hl)).2
    exact memo_of_quick (CBkok hk) ha hv (by rw [this, ← hx.1]; rfl)
  · cases hx
end
/-- Slots and blocks numbered anew, where blocks hold no numbers. -/
theorem reK {S : Shape} {s : St} {S2 : (Nat → Value) → St} {B : Base} {m : Mu} {a : Act} {w : World} (hR : ∀ y, S.R y = false) (hZ : ∀ y, S.Z y = false) (hZT : ∀ y, S.ZT y = false) (hc : ∀ jt jh, canonS S 8 s jt jh = some (S2 jt)) (hT : TRel m S.n s.1 a.tmps) (hr : Rel Tryd.prog B m s.2 w) (hG : GRel 8 m) :
    ∃ m2 jt, GRel 8 m2 ∧ TRel m2 S.n (S2 jt).1 a.tmps ∧ Rel Tryd.prog B m2 (S2 jt).2 w := by
  obtain ⟨m2, jt, _, h1, h2, h3⟩ := canon (S := S) (S2 := fun jt _ => S2 jt) hR hc hT hr hG hZ hZT
  exact ⟨m2, jt, h1, h2, h3⟩
abbrev Qb (fn : Func) (v : Value) (W : World) : Exit → Act → World → Prop := bodyPost Tryd.prog fn fun e w' => e = .returned v ∧ Below W.heap.size W w'
end Go.Proofs.YtbkgnlcjnimpcaaDoor.strs
