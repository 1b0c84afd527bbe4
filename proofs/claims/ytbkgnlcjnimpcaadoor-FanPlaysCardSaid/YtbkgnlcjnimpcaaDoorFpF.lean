/- FanPlays: rounds that take an answer without posts to tell. -/
import Derived.Test.YtbkgnlcjnimpcaaDoorFpC
namespace Go.Proofs.YtbkgnlcjnimpcaaDoor.fanPlays
open Go Go.Ab Go.RowKit Go.Proofs.YtbkgnlcjnimpcaaDoor.strs
open Go.Proofs.YtbkgnlcjnimpcaaDoor.strs.rf (ltP)
open Go.Proofs.YtbkgnlcjnimpcaaDoor.fanReads (kl klok jK jT)
set_option maxRecDepth 100000
def mk2 : Marks := fun f t => match Nat.beq f 13 || Nat.beq f 34 || Nat.beq f 39 || Nat.beq f 19 with
  | true => marksIn [(13, [27, 34, 42], [], []), (34, [24, 28, 33, 38, 43, 51, 52, 54, 58, 61, 68, 69, 73, 77, 84], [], []), (39, [17, 21, 26, 31, 36, 40, 44, 48, 55, 60, 63, 69, 78, 79], [], []), (19, [22, 27, 33], [], [])] f t
  | false => mk f t
noncomputable def rndT (N c : Nat) (OS OP : AObj) (f : Fd) (i : Nat) (j0 : Nat → Value) (e : El) (tp : Ab.Tape) : RCC := codeK kl mk2 8 lp (SP (VS N c) OS OP f i j0) (Tr :: Tr :: pA (i * 14) :: elV e :: Tr :: tp)
noncomputable def asked (e : El) (sp ch : List UInt8) : Bool := andB (intEq e.k 4) (andB (eqL e.s1 sp) (andB (eqL e.s2 ch) (andB (eqL e.s3 []) (andB (eqL e.s4 []) (andB (eqL e.s5 []) (andB (eqL e.s6 []) (andB (intEq e.fr e.fr) (andB (intEq e.mo e.mo) true))))))))
noncomputable def neP (e : El) (sp ch : List UInt8) (q : Bool) : Prop := pr (.bool (notB (asked e sp ch))) (bV q)
noncomputable def geP (a b : Int) (q : Bool) : Prop := pr (.bool (notB (intLt a b))) (bV q)
noncomputable def smP (e : El) (sm : Int) : Prop := pr (i64 (wrapF .i64 (Int.add e.fr (.ofNat e.pn)))) (i64 sm)
/-- What both look at of the question. -/
def qT : Nat → Ab.Tape
  | 0 => [Tr]
  | 1 => [F, Tr]
  | 2 => [F, F, Tr]
  | 3 => [F, F, F, Tr]
  | 4 => [F, F, F, F, Tr]
  | _ => [F, F, F, F, F]
noncomputable def qN (e : El) (sp ch : List UInt8) : Nat → Noted
  | 0 => [neP e sp ch true]
  | 1 => [neP e sp ch false, ltP e.fr 0 true]
  | 2 => [neP e sp ch false, ltP e.fr 0 false, ltP 1073741824 e.fr true]
  | 3 => [neP e sp ch false, ltP e.fr 0 false, ltP 1073741824 e.fr false, ltP e.mo 1 true]
  | 4 => [neP e sp ch false, ltP e.fr 0 false, ltP 1073741824 e.fr false, ltP e.mo 1 false, ltP 64 e.mo true]
  | _ => [neP e sp ch false, ltP e.fr 0 false, ltP 1073741824 e.fr false, ltP e.mo 1 false, ltP 64 e.mo false]
/-- Of the answer: the program's. -/
def aT (sm : Int) : Nat → Ab.Tape
  | 5 => [Tr]
  | 6 => [F, Tr]
  | 7 => [F, F, F]
  | 8 => [F, F, Tr, F]
  | 9 => [F, F, Tr, Tr, Tr, i64 sm, F, F]
  | 10 => [F, F, Tr, Tr, Tr, i64 sm, Tr]
  | 11 => [F, F, Tr, Tr, F, Tr, F]
  | 12 => [F, F, Tr, Tr, F, Tr, Tr, F]
  | 13 => [F, F, Tr, Tr, F, Tr, Tr, Tr]
  | _ => []
noncomputable def aN (e : El) (sm : Int) : Nat → Noted
  | 5 => [isI e.er 3 true]
  | 6 => [isI e.er 3 false, isI e.er 120 true]
  | 7 => [isI e.er 3 false, isI e.er 120 false, isI e.er 0 false]
  | 8 => [isI e.er 3 false, isI e.er 120 false, isI e.er 0 true, geP e.mo (.ofNat e.pn) false]
  | 9 => [isI e.er 3 false, isI e.er 120 false, isI e.er 0 true, geP e.mo (.ofNat e.pn) true, ltP 0 (.ofNat e.pn) true, smP e sm, isI e.rat sm false, isI (.ofNat e.pn) 0 false]
  | 10 => [isI e.er 3 false, isI e.er 120 false, isI e.er 0 true, geP e.mo (.ofNat e.pn) true, ltP 0 (.ofNat e.pn) true, smP e sm, isI e.rat sm true]
  | 11 => [isI e.er 3 false, isI e.er 120 false, isI e.er 0 true, geP e.mo (.ofNat e.pn) true, ltP 0 (.ofNat e.pn) false, isI (.ofNat e.pn) 0 true, geP e.rat 0 false]
  | 12 => [isI e.er 3 false, isI e.er 120 false, isI e.er 0 true, geP e.mo (.ofNat e.pn) true, ltP 0 (.ofNat e.pn) false, isI (.ofNat e.pn) 0 true, geP e.rat 0 true, geP e.fr e.rat false]
  | 13 => [isI e.er 3 false, isI e.er 120 false, isI e.er 0 true, geP e.mo (.ofNat e.pn) true, ltP 0 (.ofNat e.pn) false, isI (.ofNat e.pn) 0 true, geP e.rat 0 true, geP e.fr e.rat true]
  | _ => []
/-- The document's. -/
def dT (sm : Int) : Nat → Ab.Tape
  | 5 => [Tr]
  | 6 => [F, Tr]
  | 7 => [F, F, Tr]
  | 8 => [F, F, F, Tr]
  | 9 => [F, F, F, F, F, i64 sm, F]
  | 10 => [F, F, F, F, F, i64 sm, Tr]
  | 11 => [F, F, F, F, Tr, F]
  | 12 => [F, F, F, F, Tr, Tr, F]
  | 13 => [F, F, F, F, Tr, Tr, Tr]
  | _ => []
noncomputable def erP (e : El) (q : Bool) : Prop := pr (.bool (notB (intEq e.er 0))) (bV q)
noncomputable def dN (e : El) (sm : Int) : Nat → Noted
  | 5 => [isI e.er 3 true]
  | 6 => [isI e.er 3 false, isI e.er 120 true]
  | 7 => [isI e.er 3 false, isI e.er 120 false, erP e true]
  | 8 => [isI e.er 3 false, isI e.er 120 false, erP e false, ltP e.mo (.ofNat e.pn) true]
  | 9 => [isI e.er 3 false, isI e.er 120 false, erP e false, ltP e.mo (.ofNat e.pn) false, isI (.ofNat e.pn) 0 false, smP e sm, isI e.rat sm false]
  | 10 => [isI e.er 3 false, isI e.er 120 false, erP e false, ltP e.mo (.ofNat e.pn) false, isI (.ofNat e.pn) 0 false, smP e sm, isI e.rat sm true]
  | 11 => [isI e.er 3 false, isI e.er 120 false, erP e false, ltP e.mo (.ofNat e.pn) false, isI (.ofNat e.pn) 0 true, geP e.rat 0 false]
  | 12 => [isI e.er 3 false, isI e.er 120 false, erP e false, ltP e.mo (.ofNat e.pn) false, isI (.ofNat e.pn) 0 true, geP e.rat 0 true, geP e.fr e.rat false]
  | 13 => [isI e.er 3 false, isI e.er 120 false, erP e false, ltP e.mo (.ofNat e.pn) false, isI (.ofNat e.pn) 0 true, geP e.rat 0 true, geP e.fr e.rat true]
  | _ => []
/-- Behind it: gone, busy, or is it ahead of what is to be told? -/
def bT : Nat → Ab.Tape
  | 5 => [Tr]
  | 6 => [F, Tr]
  | 10 => [F, F, Tr]
  | 13 => [F, F, Tr]
  | _ => []
noncomputable def bN (e : El) (nx : Nat) : Nat → Noted
  | 5 => [isI e.er 3 true]
  | 6 => [isI e.er 3 false, isI e.er 120 true]
  | 10 => [isI e.er 3 false, isI e.er 120 false, ltP (.ofNat nx) e.fr true]
  | 13 => [isI e.er 3 false, isI e.er 120 false, ltP (.ofNat nx) e.fr true]
  | _ => []
def takeT (sm : Int) (k : Nat) : Ab.Tape := F :: qT k ++ aT sm k ++ bT k ++ qT k ++ dT sm k ++ bT k
noncomputable def takeN (e : El) (sp ch : List UInt8) (nx : Nat) (sm : Int) (k : Nat) : Noted := noSp sp :: qN e sp ch k ++ aN e sm k ++ bN e nx k ++ qN e sp ch k ++ dN e sm k ++ bN e nx k
def plainK : List Nat := [0, 1, 2, 3, 4, 6, 7, 8, 9, 10, 11, 12, 13]
theorem r_take (N c : Nat) (OS OP : AObj) (sp ch : List UInt8) (nx td i : Nat) (j0 jt : Nat → Value) (jh : Nat → Nat → Value) (e : El) (sm : Int) : plainK.map (fun k => (fun r => (isN r, canonS (sh 8 9) 8 (stOf r) jt jh)) (rndT N c OS OP ⟨sp, ch, nx, td, false⟩ i j0 e (takeT sm k ++ [e24 (i + 1)]))) =
    plainK.map (fun k => (some (revN (hdN N c OS i e ++ [isI e.kd 1 true] ++ takeN e sp ch nx sm k ++ [incP i]) []), some (SP (VS N c) OS OP ⟨sp, ch, nx, td, false⟩ (i + 1) jt))) := by kernel_rfl
theorem r_gone (N c : Nat) (OS OP : AObj) (sp ch : List UInt8) (nx td i : Nat) (j0 jt : Nat → Value) (jh : Nat → Nat → Value) (e : El) : (fun r => (isN r, canonS (sh 8 9) 8 (stOf r) jt jh)) (rndT N c OS OP ⟨sp, ch, nx, td, false⟩ i j0 e (takeT 0 5 ++ [e24 (i + 1)])) =
    (some (revN (hdN N c OS i e ++ [isI e.kd 1 true] ++ takeN e sp ch nx 0 5 ++ [incP i]) []), some (SP (VS N c) OS OP ⟨sp, ch, nx, td, true⟩ (i + 1) jt)) := by kernel_rfl
theorem r_was (N c : Nat) (OS OP : AObj) (sp ch : List UInt8) (nx td i : Nat) (j0 jt : Nat → Value) (jh : Nat → Nat → Value) (e : El) : (fun r => (isN r, canonS (sh 8 9) 8 (stOf r) jt jh)) (rndT N c OS OP ⟨sp, ch, nx, td, true⟩ i j0 e [F, e24 (i + 1)]) =
    (some (revN (hdN N c OS i e ++ [isI e.kd 1 true, noSp sp, incP i]) []), some (SP (VS N c) OS OP ⟨sp, ch, nx, td, true⟩ (i + 1) jt)) := by kernel_rfl
end Go.Proofs.YtbkgnlcjnimpcaaDoor.fanPlays
/- A call whose callee is walked. -/
namespace Go.Ab
open Go Go.RowKit
section
variable {P : Program} {G n : Nat} {enters : FuncId → FKind}
open Classical in
/-- What is shown of one call, from one memory. -/
noncomputable def shotB (f : FuncId) (A : Array Value) (h : AHeap) (v : Value) (h' : AHeap) : CallB := fun g => ⟨fun args k => if g = f ∧ args = A ∧ k = h then some (v, h') else none⟩
open Classical in
theorem shot_sound {f : FuncId} {A : Array Value} {h h' : AHeap} {v : Value} (hn : Nx h h')
    (hs : ∀ (B : Base) m args' w, ARel m A args' → Rel P B m h w → GRel G m → Calls P f args' w (fun e w' => ∃ v' m', e = .returned v' ∧ Ext h m m' ∧ Rel P B m' h' w' ∧ VRel m' v v')) : CallSound P G (callOf (shotB f A h v h')) := by
  intro g args k u k' e
  have e2 : (if g = f ∧ args = A ∧ k = h then some (v, h') else none) = some (u, k') := e
  split at e2
  · rename_i hc
    obtain ⟨rfl, rfl, rfl⟩ := hc
    cases e2
    exact ⟨hn, hs⟩
  · cases e2
open Classical in
theorem shot_cont (hE : Enters P enters) (hz : ZF P) {ops : Array Oper} {o : Oper} {l1 l2 : List Oper} {c : Call} {f : FuncId} {A : List Value} {v : Value} {h' : AHeap} {s : St} {B : Base} {m : Mu} {a : Act} {w : World} {Q : Exit → Act → World → Prop}
    (hok : ops.toList.all (opOk G n) = true) (hl : ops.toList = l1 ++ o :: l2) (ho : o.op = .call c) (hc : c.callee = .value (.func f)) (hen : enters f = .enter) (hg : o.guard = none) (hA : (argsB c.args.toList).un s.1 = A) (hn : Nx s.2 h')
    (hs : ∀ (B : Base) m args' w, ARel m ⟨A⟩ args' → Rel P B m s.2 w → GRel G m → Calls P f args' w (fun e w' => ∃ v' m', e = .returned v' ∧ Ext s.2 m m' ∧ Rel P B m' h' w' ∧ VRel m' v v'))
    (hT : TRel m n s.1 a.tmps) (hr : Rel P B m s.2 w) (hG : GRel G m)
    (hk : ∀ m' a' w', GRel G m' → TRel m' n ((putB o.dst).un s.1 v) a'.tmps → a'.defers = a.defers → Rel P B m' h' w' → wpList P ops Q l2 a' w') : wpList P ops Q (o :: l2) a w := by
  have hx : (execB P enters (shotB f ⟨A⟩ s.2 v h') o).un s.1 s.2 = some (v, h') := by
    unfold execB
    rw [ho]; dsimp only; rw [hc]; dsimp only; rw [hen]
    show (if f = f ∧ (⟨(argsB c.args.toList).un s.1⟩ : Array Value) = ⟨A⟩ ∧ s.2 = s.2 then some (v, h') else none) = _
    rw [hA, if_pos ⟨rfl, rfl, rfl⟩]
  have hrun : (opsB P enters (shotB f ⟨A⟩ s.2 v h') ops [o]).un s.1 s.2 = some ((putB o.dst).un s.1 v, h') := by
    simp only [opsB, stepB, hg]
    rw [hx]
  have ha : [o].all (opOk G n) = true := by
    rw [hl, List.all_append, Bool.and_eq_true] at hok
    have := hok.2
    rw [List.all_cons, Bool.and_eq_true] at this
    rw [List.all_cons, this.1]
    rfl
  exact runOps_cont (B := B) hE hz (shot_sound hn hs) (dst_of_ok hok) l2 [o] _ _ _ _ m a w ha (opsB_some hrun) hT hr hG fun m' a' w' c1 c2 c3 c4 => hk m' a' w' (hG.mono c1.1) c2 c3 c4
end
end Go.Ab
