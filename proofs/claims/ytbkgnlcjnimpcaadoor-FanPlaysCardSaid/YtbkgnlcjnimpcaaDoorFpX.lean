/- FanPlays: a round that takes posts: what is run between the calls. -/
import Derived.Test.YtbkgnlcjnimpcaaDoorFpW
namespace Go.Proofs.YtbkgnlcjnimpcaaDoor.fanPlays.ev
open Go Go.Ab Go.RowKit Go.Proofs.YtbkgnlcjnimpcaaDoor.strs Go.Proofs.YtbkgnlcjnimpcaaDoor.fanPlays
open Go.Proofs.YtbkgnlcjnimpcaaDoor.fanPlays.tk (opE reE elO h1 h2)
open Go.Proofs.YtbkgnlcjnimpcaaDoor.fanPlays.dk (refV h3)
open Go.Proofs.YtbkgnlcjnimpcaaDoor.fanPlays.sm (h4)
open Go.Proofs.YtbkgnlcjnimpcaaDoor.strs.rf (ltP)
open Go.Proofs.YtbkgnlcjnimpcaaDoor.fanReads (kl klok)
set_option maxRecDepth 100000
def blkIn : Code → Code
  | .block _ c => c
  | c => c
def thenOf : Code → Code
  | .cond _ a _ => a
  | c => c
def opsOf : Code → Array Oper
  | .region _ ops _ => ops
  | _ => #[]
def opAt (a : Array Oper) (i : Nat) : Oper := a.toList.getD i default
noncomputable def C1 : Code := blkIn (codeL lp2)
noncomputable def r9 : Code := codeR lp2
noncomputable def D1 : Code := blkIn (dropN 2 C1)
noncomputable def cnd : Code := dropN 1 D1
noncomputable def E1' : Code := thenOf cnd
noncomputable def E2' : Code := codeR E1'
noncomputable def E3' : Code := codeR E2'
noncomputable def r13 : Code := codeL E1'
noncomputable def r14 : Code := codeL E2'
noncomputable def r15c : Code := codeL E3'
noncomputable def r15 : Code := codeL r15c
noncomputable def cd : Code := codeR r15c
noncomputable def r17 : Code := codeR E3'
noncomputable def o13 : Array Oper := opsOf r13
noncomputable def o14 : Array Oper := opsOf r14
noncomputable def o15 : Array Oper := opsOf r15
theorem e4 : lp2 = .seq (.block 1 C1) r9 := by kernel_rfl
theorem e5 : dropN 2 C1 = .block 2 D1 := by kernel_rfl
theorem e6 : dropN 1 D1 = .cond (.tmp 73) E1' (match cnd with | .cond _ _ b => b | c => c) := by kernel_rfl
theorem e7 : E1' = .seq r13 E2' := by kernel_rfl
theorem e8 : E2' = .seq r14 E3' := by kernel_rfl
theorem e9 : E3' = .seq r15c r17 := by kernel_rfl
theorem e10 : r15c = .seq r15 cd := by kernel_rfl
theorem x13 : r13 = .region 13 o13 false := by kernel_rfl
theorem x14 : r14 = .region 14 o14 false := by kernel_rfl
theorem x15 : r15 = .region 15 o15 false := by kernel_rfl
abbrev L0 (VV : Value) (i : Nat) : List (Nat × Value) := [(1, VV), (5, ptrTo 8), (7, ptrTo 9), (9, e24 i), (10, ptrTo 18)]
noncomputable def hdS (VV : Value) (OS OP : AObj) (f : Fd) (i : Nat) (j0 : Nat → Value) : RCC := codeK kl mk2 8 hd (SP VV OS OP f i j0) [Tr, Tr]
noncomputable def c1S (VV : Value) (OS OP : AObj) (f : Fd) (i : Nat) (j0 : Nat → Value) (e : El) : SC := partsK kl mk2 8 2 C1 (stOf (hdS VV OS OP f i j0)) [pA (i * 14), elV e]
noncomputable def d1S (VV : Value) (OS OP : AObj) (f : Fd) (i : Nat) (j0 : Nat → Value) (e : El) : SC := partsK kl mk2 8 1 D1 (c1S VV OS OP f i j0 e).s [Tr]
noncomputable def goO (ops : Array Oper) (l : List Oper) (s : St) : St := goL Tryd.prog enters (CBk kl) ops l s
noncomputable def okO (ops : Array Oper) (l : List Oper) (s : St) : Bool := Ab.okL Tryd.prog enters (CBk kl) ops l s
noncomputable def S13 (VV : Value) (OS OP : AObj) (f : Fd) (i : Nat) (e : El) (jt : Nat → Value) : St := (treeF (slotsOf ((76, ptrTo 8) :: (78, opE e) :: (80, reE e) :: L0 VV i) jt) 178 0 .leaf, h1 OS OP f e)
def shA : Shape := ⟨[0, 1, 2, 3, 4, 5, 6, 7, 8, 9, 10, 11, 12, 13, 14, 15, 16, 17, 18], 178, inL [5, 7, 9, 10, 76], fun _ _ => true, fun _ => false, fun y => Nat.beq y 5 || (Nat.beq y 16 || (Nat.beq y 17 || Nat.beq y 18)), fun t => Nat.beq t 1 || (Nat.beq t 78 || Nat.beq t 80)⟩
theorem ahead13 (N c : Nat) (OS OP : AObj) (f : Fd) (i : Nat) (j0 jt : Nat → Value) (jh : Nat → Nat → Value) (e : El) : (fun a y z s => (isN a, y.ok, y.lg, z.ok, z.lg, okO o13 (o13.toList.take 5) z.s, canonS shA 8 s jt jh)) (hdS (VS N c) OS OP f i j0) (c1S (VS N c) OS OP f i j0 e) (d1S (VS N c) OS OP f i j0 e) (goO o13 (o13.toList.take 5) (d1S (VS N c) OS OP f i j0 e).s) =
    (some [ltP (.ofNat i) 200 true, ltP (.ofNat i) (.ofNat N) true], true, [ldS OS i e, atS N c i], true, [isI e.kd 1 true], true, some (S13 (VS N c) OS OP f i e jt)) := by kernel_rfl
theorem cnd73 (N c : Nat) (OS OP : AObj) (f : Fd) (i : Nat) (j0 : Nat → Value) (e : El) : Tget (d1S (VS N c) OS OP f i j0 e).s.1 73 = Tr := by kernel_rfl
theorem call13 (VV : Value) (OS OP : AObj) (f : Fd) (i : Nat) (e : El) (jt : Nat → Value) : opA Tryd.prog enters (rhoA (S13 VV OS OP f i e jt).1) (opAt o13 5) (S13 VV OS OP f i e jt).2 = some (.call 13 ⟨[ptrTo 8, opE e, reE e]⟩, h1 OS OP f e) := by kernel_rfl
/-! ### Behind the program's -/
noncomputable def P13 (VV : Value) (OS OP : AObj) (g f0 : Fd) (i : Nat) (e : El) (O1 : AObj) (A : Option Addr) (n c : Nat) (jt : Nat → Value) : St := ((putB (some 81)).un (S13 VV OS OP f0 i e jt).1 (.tuple ⟨[.slice A n c, e24 0]⟩), h2 OS OP g f0 e O1)
noncomputable def S14 (VV : Value) (OS OP : AObj) (g f0 : Fd) (i : Nat) (e : El) (O1 : AObj) (A : Option Addr) (n c : Nat) (jt : Nat → Value) : St := (treeF (slotsOf ((85, refV f0) :: (87, opE e) :: (89, reE e) :: (11, .slice A n c) :: (12, e24 0) :: L0 VV i) jt) 178 0 .leaf, h2 OS OP g f0 e O1)
def shB : Shape := ⟨[0, 1, 2, 3, 4, 5, 6, 7, 8, 9, 10, 11, 12, 13, 14, 15, 16, 17, 18, 19], 178, inL [5, 7, 9, 10, 12], fun _ _ => true, fun _ => false, fun y => Nat.beq y 5 || (Nat.beq y 16 || (Nat.beq y 17 || (Nat.beq y 18 || Nat.beq y 19))), fun t => Nat.beq t 1 || (Nat.beq t 85 || (Nat.beq t 87 || (Nat.beq t 89 || Nat.beq t 11)))⟩
noncomputable def a14 (VV : Value) (OS OP : AObj) (g f0 : Fd) (i : Nat) (e : El) (O1 : AObj) (A : Option Addr) (n c : Nat) (jt : Nat → Value) : St := goO o13 (o13.toList.drop 6) (P13 VV OS OP g f0 i e O1 A n c jt)
theorem ahead14 (VV : Value) (OS OP : AObj) (g f0 : Fd) (i : Nat) (e : El) (O1 : AObj) (A : Option Addr) (n c : Nat) (j0 jt : Nat → Value) (jh : Nat → Nat → Value) : (okO o13 (o13.toList.drop 6) (P13 VV OS OP g f0 i e O1 A n c j0), okO o14 (o14.toList.take 5) (a14 VV OS OP g f0 i e O1 A n c j0), canonS shB 8 (goO o14 (o14.toList.take 5) (a14 VV OS OP g f0 i e O1 A n c j0)) jt jh) =
    (true, true, some (S14 VV OS OP g f0 i e O1 A n c jt)) := by kernel_rfl
theorem call14 (VV : Value) (OS OP : AObj) (g f0 : Fd) (i : Nat) (e : El) (O1 : AObj) (A : Option Addr) (n c : Nat) (jt : Nat → Value) : opA Tryd.prog enters (rhoA (S14 VV OS OP g f0 i e O1 A n c jt).1) (opAt o14 5) (S14 VV OS OP g f0 i e O1 A n c jt).2 = some (.call 19 ⟨[refV f0, opE e, reE e]⟩, h2 OS OP g f0 e O1) := by kernel_rfl
/-! ### Behind the document's -/
noncomputable def P14 (VV : Value) (OS OP : AObj) (g f0 f : Fd) (i : Nat) (e : El) (O1 O2 : AObj) (A A2 : Option Addr) (n c n2 c2 : Nat) (jt : Nat → Value) : St := ((putB (some 90)).un (S14 VV OS OP g f0 i e O1 A n c jt).1 (.tuple ⟨[refV f, .slice A2 n2 c2, e24 0]⟩), h3 OS OP O1 g f0 f e O2)
noncomputable def S15 (VV : Value) (OS OP : AObj) (g f0 f : Fd) (i : Nat) (e : El) (O1 O2 : AObj) (A A2 : Option Addr) (n c n2 c2 : Nat) (jt : Nat → Value) : St := (treeF (slotsOf ((94, .slice A n c) :: (95, .slice A2 n2 c2) :: (12, e24 0) :: (15, e24 0) :: (13, ptrTo 25) :: L0 VV i) jt) 178 0 .leaf, h4 OS OP O1 g f0 f e O2)
def shC : Shape := ⟨[0, 1, 2, 3, 4, 5, 6, 7, 8, 9, 10, 11, 12, 13, 14, 15, 16, 17, 18, 19, 20, 21, 22, 23, 24, 25], 178, inL [5, 7, 9, 10, 12, 15, 13], fun _ _ => true, fun _ => false, fun y => Nat.beq y 5 || (Nat.beq y 16 || (Nat.beq y 17 || (Nat.beq y 18 || (Nat.beq y 19 || (Nat.beq y 22 || Nat.beq y 24))))), fun t => Nat.beq t 1 || (Nat.beq t 94 || Nat.beq t 95)⟩
noncomputable def a15 (VV : Value) (OS OP : AObj) (g f0 f : Fd) (i : Nat) (e : El) (O1 O2 : AObj) (A A2 : Option Addr) (n c n2 c2 : Nat) (jt : Nat → Value) : St := goO o14 (o14.toList.drop 6) (P14 VV OS OP g f0 f i e O1 O2 A A2 n c n2 c2 jt)
theorem ahead15 (VV : Value) (OS OP : AObj) (g f0 f : Fd) (i : Nat) (e : El) (O1 O2 : AObj) (A A2 : Option Addr) (n c n2 c2 : Nat) (j0 jt : Nat → Value) (jh : Nat → Nat → Value) : (okO o14 (o14.toList.drop 6) (P14 VV OS OP g f0 f i e O1 O2 A A2 n c n2 c2 j0), okO o15 (o15.toList.take 2) (a15 VV OS OP g f0 f i e O1 O2 A A2 n c n2 c2 j0), canonS shC 8 (goO o15 (o15.toList.take 2) (a15 VV OS OP g f0 f i e O1 O2 A A2 n c n2 c2 j0)) jt jh) =
    (true, true, some (S15 VV OS OP g f0 f i e O1 O2 A A2 n c n2 c2 jt)) := by kernel_rfl
theorem call15 (VV : Value) (OS OP : AObj) (g f0 f : Fd) (i : Nat) (e : El) (O1 O2 : AObj) (A A2 : Option Addr) (n c n2 c2 : Nat) (jt : Nat → Value) : opA Tryd.prog enters (rhoA (S15 VV OS OP g f0 f i e O1 O2 A A2 n c n2 c2 jt).1) (opAt o15 2) (S15 VV OS OP g f0 f i e O1 O2 A A2 n c n2 c2 jt).2 = some (.call 20 ⟨[.slice A n c, .slice A2 n2 c2]⟩, h4 OS OP O1 g f0 f e O2) := by kernel_rfl
/-! ### Behind the comparison -/
noncomputable def P15 (VV : Value) (OS OP : AObj) (g f0 f : Fd) (i : Nat) (e : El) (O1 O2 : AObj) (A A2 : Option Addr) (n c n2 c2 : Nat) (jt : Nat → Value) : St := ((putB (some 96)).un (S15 VV OS OP g f0 f i e O1 O2 A A2 n c n2 c2 jt).1 Tr, h4 OS OP O1 g f0 f e O2)
noncomputable def b15 (VV : Value) (OS OP : AObj) (g f0 f : Fd) (i : Nat) (e : El) (O1 O2 : AObj) (A A2 : Option Addr) (n c n2 c2 : Nat) (jt : Nat → Value) : St := goO o15 (o15.toList.drop 3) (P15 VV OS OP g f0 f i e O1 O2 A A2 n c n2 c2 jt)
noncomputable def b16 (VV : Value) (OS OP : AObj) (g f0 f : Fd) (i : Nat) (e : El) (O1 O2 : AObj) (A A2 : Option Addr) (n c n2 c2 : Nat) (jt : Nat → Value) : RCC := codeK kl mk2 8 cd (b15 VV OS OP g f0 f i e O1 O2 A A2 n c n2 c2 jt) []
noncomputable def b17 (VV : Value) (OS OP : AObj) (g f0 f : Fd) (i : Nat) (e : El) (O1 O2 : AObj) (A A2 : Option Addr) (n c n2 c2 : Nat) (jt : Nat → Value) : RCC := codeK kl mk2 8 r17 (stOf (b16 VV OS OP g f0 f i e O1 O2 A A2 n c n2 c2 jt)) []
noncomputable def b9 (VV : Value) (OS OP : AObj) (g f0 f : Fd) (i : Nat) (e : El) (O1 O2 : AObj) (A A2 : Option Addr) (n c n2 c2 : Nat) (jt : Nat → Value) : RCC := codeK kl mk2 8 r9 (stOf (b17 VV OS OP g f0 f i e O1 O2 A A2 n c n2 c2 jt)) [e24 (i + 1)]
theorem behind (VV : Value) (OS OP : AObj) (f0 f : Fd) (i : Nat) (e : El) (O1 O2 : AObj) (A A2 : Option Addr) (n c n2 c2 : Nat) (j0 jt : Nat → Value) (jh : Nat → Nat → Value) : (okO o15 (o15.toList.drop 3) (P15 VV OS OP f f0 f i e O1 O2 A A2 n c n2 c2 j0), isN (b16 VV OS OP f f0 f i e O1 O2 A A2 n c n2 c2 j0), isN (b17 VV OS OP f f0 f i e O1 O2 A A2 n c n2 c2 j0), isN (b9 VV OS OP f f0 f i e O1 O2 A A2 n c n2 c2 j0), canonS (sh 8 9) 8 (stOf (b9 VV OS OP f f0 f i e O1 O2 A A2 n c n2 c2 j0)) jt jh) =
    (true, some [], some [], some [incP i], some (SP VV OS OP f (i + 1) jt)) := by kernel_rfl
end Go.Proofs.YtbkgnlcjnimpcaaDoor.fanPlays.ev
/- FanPlays: what keeps its form where numbers agree; regions in two parts, where it is told which numbers stay. -/
namespace Go.Ab
open Go Go.RowKit
section
variable {P : Program} {G n : Nat} {enters : FuncId → FKind} {CB : CallB}
theorem FixO.ro {σ : List Nat} {c : Row} {t : TypeId} (h : ∀ i v, c.get? i = some v → FixV σ v) : FixO P σ (.ro c t) := by
  intro m m' l w hm hok
  obtain ⟨C, te, fr, h1, h3, h4⟩ := hok
  refine ⟨C, te, fr, h1, h3, fun i v hv => ?_⟩
  obtain ⟨v', q1, q2⟩ := h4 i v hv
  exact ⟨v', q1, h i v hv m m' v' hm q2⟩
theorem FixV.agg {σ : List Nat} {l : List Value} (h : ∀ v ∈ l, FixV σ v) : FixV σ (.agg ⟨l⟩) := by
  intro m m' v' hm hv
  cases hv with
  | agg _ c' h1 h2 => exact .agg _ c' h1 fun i a b => h _ (by simp) m m' _ hm (h2 i a b)
theorem FixV.any {σ : List Nat} {r : Nat} : FixV σ (.chan (some r)) := by
  intro m m' v' _ hv
  cases hv with
  | any _ _ a b c => exact .any r v' a b c
theorem FixV.ptr {σ : List Nat} {b o : Nat} (h : atOf σ b = some b) : FixV σ (.pointer (some ⟨b, o, none⟩)) := by
  intro m m' v' hm hv
  cases hv with
  | ptr _ _ l h1 => exact .ptr b o l (by rw [hm b h]; exact h1)
theorem FixV.keep {k : Nat} {m m' : Mu} {v v' : Value} (h : FixV (List.range k) v) (hm : ∀ b, b < k → m' b = m b) (hv : VRel m v v') : VRel m' v v' :=
  h m m' v' (fun y hy => hm y (by have := atOf_lt _ _ _ hy; simpa using this)) hv
theorem goLX_wp (hE : Enters P enters) (hz : ZF P) (hC : CallSound P G (callOf CB)) {ops : Array Oper} {l l2 : List Oper} {s : St} {B : Base} {m : Mu} {a : Act} {w : World} {Q : Exit → Act → World → Prop} {k : Nat}
    (hok : ops.toList.all (opOk G n) = true) (hl : ops.toList = l ++ l2) (hs : okL P enters CB ops l s = true) (hT : TRel m n s.1 a.tmps) (hr : Rel P B m s.2 w) (hG : GRel G m) (hkn : k ≤ s.2.next)
    (hk : ∀ m' a' w', (∀ b, b < k → m' b = m b) → GRel G m' → TRel m' n (goL P enters CB ops l s).1 a'.tmps → a'.defers = a.defers → Rel P B m' (goL P enters CB ops l s).2 w' → wpList P ops Q l2 a' w') : wpList P ops Q ops.toList a w := by
  unfold okL at hs
  unfold goL at hk
  cases hc : (opsB P enters CB ops l).un s.1 s.2 with
  | none => rw [hc] at hs; cases hs
  | some r =>
    obtain ⟨T', h'⟩ := r
    rw [hc] at hk
    have hall : l.all (opOk G n) = true := by
      rw [hl, List.all_append, Bool.and_eq_true] at hok
      exact hok.1
    rw [hl]
    exact runOps_cont (B := B) hE hz hC (dst_of_ok hok) l2 l _ _ _ _ m a w hall (opsB_some hc) hT hr hG fun m' a' w' c1 c2 c3 c4 => hk m' a' w' (fun b hb => c1.2 b (.inl (by omega))) (hG.mono c1.1) c2 c3 c4
theorem goLX_end (hE : Enters P enters) (hz : ZF P) (hC : CallSound P G (callOf CB)) {ops : Array Oper} {l l0 : List Oper} {s : St} {B : Base} {m : Mu} {a : Act} {w : World} {Q : Exit → Act → World → Prop} {k : Nat}
    (hok : ops.toList.all (opOk G n) = true) (hl : ops.toList = l0 ++ l) (hs : okL P enters CB ops l s = true) (hT : TRel m n s.1 a.tmps) (hr : Rel P B m s.2 w) (hG : GRel G m) (hkn : k ≤ s.2.next)
    (hk : ∀ m' a' w', (∀ b, b < k → m' b = m b) → GRel G m' → TRel m' n (goL P enters CB ops l s).1 a'.tmps → a'.defers = a.defers → Rel P B m' (goL P enters CB ops l s).2 w' → Q .normal a' w') : wpList P ops Q l a w := by
  unfold okL at hs
  unfold goL at hk
  cases hc : (opsB P enters CB ops l).un s.1 s.2 with
  | none => rw [hc] at hs; cases hs
  | some r =>
    obtain ⟨T', h'⟩ := r
    rw [hc] at hk
    have hall : l.all (opOk G n) = true := by
      rw [hl, List.all_append, Bool.and_eq_true] at hok
      exact hok.2
    exact runOps_sound (B := B) hE hz hC (dst_of_ok hok) l _ _ _ _ m a w hall (opsB_some hc) hT hr hG fun m' a' w' c1 c2 c3 c4 => hk m' a' w' (fun b hb => c1.2 b (.inl (by omega))) (hG.mono c1.1) c2 c3 c4
end
end Go.Ab
namespace Go.Proofs.YtbkgnlcjnimpcaaDoor.fanPlays
open Go Go.Ab Go.RowKit Go.Proofs.YtbkgnlcjnimpcaaDoor.strs
open Go.Proofs.YtbkgnlcjnimpcaaDoor.fanPlays.tk (opE reE elO)
open Go.Proofs.YtbkgnlcjnimpcaaDoor.fanPlays.dk (opO reO refV)
set_option maxRecDepth 100000
/-- What a round's objects are, where numbers agree. -/
structure Fx (OS OP : AObj) (e : El) : Prop where
  os : ∀ σ, atOf σ 17 = some 17 → FixO Tryd.prog σ OS
  op : ∀ σ, FixO Tryd.prog σ OP
  sl : ∀ σ, atOf σ 17 = some 17 → FixV σ (.slice e.pa e.pn e.pc)
theorem flats_fix {σ : List Nat} {l : List Value} (h : l.all (vflat 8) = true) : ∀ v ∈ l, FixV σ v := fun v hv => FixV.flat (List.all_eq_true.1 h v hv)
theorem ofList_row {σ : List Nat} {l : List Value} (h : ∀ v ∈ l, FixV σ v) : ∀ i v, (Row.ofList l).get? i = some v → FixV σ v := by
  intro i v hv
  rw [Row.ofList_get?] at hv
  exact h v (List.mem_of_getElem? hv)
theorem Fx.el {OS OP : AObj} {e : El} (h : Fx OS OP e) {σ : List Nat} (hs : atOf σ 17 = some 17) : FixO Tryd.prog σ (elO e) := by
  refine FixO.row (ofList_row fun v hv => ?_)
  simp only [List.mem_cons, List.not_mem_nil, or_false] at hv
  rcases hv with rfl | rfl | rfl | rfl | rfl | rfl | rfl | rfl | rfl | rfl | rfl | rfl | rfl | rfl
  all_goals first | exact h.sl σ hs | exact FixV.flat rfl
theorem Fx.re {OS OP : AObj} {e : El} (h : Fx OS OP e) {σ : List Nat} (hs : atOf σ 17 = some 17) : FixO Tryd.prog σ (reO e) := by
  refine FixO.row (ofList_row fun v hv => ?_)
  simp only [List.mem_cons, List.not_mem_nil, or_false] at hv
  rcases hv with rfl | rfl | rfl
  all_goals first | exact h.sl σ hs | exact FixV.flat rfl
theorem Fx.rv {OS OP : AObj} {e : El} (h : Fx OS OP e) {σ : List Nat} (hs : atOf σ 17 = some 17) : FixV σ (reE e) := by
  refine FixV.agg fun v hv => ?_
  simp only [List.mem_cons, List.not_mem_nil, or_false] at hv
  rcases hv with rfl | rfl | rfl
  all_goals first | exact h.sl σ hs | exact FixV.flat rfl
theorem op_fix {σ : List Nat} {e : El} : FixV σ (opE e) := FixV.flat rfl
theorem ref_fix {σ : List Nat} {f : Fd} : FixV σ (refV f) := FixV.flat rfl
end Go.Proofs.YtbkgnlcjnimpcaaDoor.fanPlays
