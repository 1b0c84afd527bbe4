import Derived.Test.YthapjgecggdliaaGreatDoorAbFp
import Derived.Recover
namespace Go.Ab
open Go Go.RowKit

/-! ## A function that defers one call, which finds nothing to recover -/
/-- What is known of such a function's text. -/
structure DeferText where
  fn : Func
  g : FuncId
  gn : Func
  r0 : Code
  idD : Nat
  oD : Oper
  rest : Code
  idR : Nat
  oR : Oper
  grest : Code
structure DeferOk (P : Program) (G : Nat) (f : FuncId) (x : DeferText) (dargs : List Operand) : Prop where
  hf : P.funcs[f]? = some x.fn
  hb : x.fn.body = some (.seq x.r0 (.seq (.region x.idD #[x.oD] false) x.rest))
  hD : ∃ c, x.oD.op = .defer c ∧ c.callee = .value (.func x.g) ∧ c.args = dargs.toArray
  gD : x.oD.guard = none
  hg : P.funcs[x.g]? = some x.gn
  gb : x.gn.body = some (.seq (.region x.idR #[x.oR] false) x.grest)
  hR : ∃ c, x.oR.op = .call c ∧ c.callee = .builtin .recover ∧ c.args = #[]
  gR : x.oR.guard = none
  ok0 : codeOk G x.fn.ntmps x.r0 = true
  okr : codeOk G x.fn.ntmps x.rest = true
  okg : codeOk G x.gn.ntmps x.grest = true
  pl0 : plansOk P x.r0 = true
  plr : plansOk P x.rest = true
  plg : plansOk P x.grest = true
  dstD : ∀ d, x.oD.dst = some d → d < x.fn.ntmps
  dstR : ∀ d, x.oR.dst = some d → d < x.gn.ntmps
  ops : ∀ o ∈ dargs, opndOk G o = true
  ent : ∀ args w, (callFunc x.g args).run P w = .ok (.enter x.g args) w
noncomputable def deferF (P : Program) (enters : FuncId → FKind) (CB : CallB) (DB : DrawB) (K : Nat) (x : DeferText) (dargs : List Operand) : Array Value → AHeap → Option (Value × AHeap) := fun args h =>
  match Nat.ble (lenV (listOf args)) x.fn.ntmps with
  | true => match (codeB P enters CB DB K x.r0).un (treeOfB (listOf args) 0 .leaf) h with
    | .normal T1 h1 => match (codeB P enters CB DB K x.rest).un ((putB x.oD.dst).un T1 undef) h1 with
      | .ret T2 h2 => match Nat.ble (lenV ((argsB dargs).un T1)) x.gn.ntmps with
        | true => match (codeB P enters CB DB K x.grest).un ((putB x.oR.dst).un (treeOfB ((argsB dargs).un T1) 0 .leaf) .nilIface) h2 with
          | .normal T4 h4 => match (resB P x.gn.results.toList).un h4 T4, (resB P x.fn.results.toList).un h4 T2 with
            | some _, some vs => some (oneA vs, h4)
            | _, _ => none
          | _ => none
        | false => none
      | _ => none
    | _ => none
  | false => none
section
variable {P : Program} {G : Nat} {enters : FuncId → FKind} {CB : CallB} {DB : DrawB}
theorem initT_self (l : List Value) : treeOfB l 0 .leaf = initT l 0 .leaf := by rw [treeOfB_eq, initT_treeOf]
theorem deferF_sound (hE : Enters P enters) (hz : ZF P) (hC : CallSound P G (callOf CB)) (hD : DrawGood P G (fun ops T h => (DB ops).un T h)) {K : Nat} {f : FuncId} {x : DeferText} {dargs : List Operand} (hx : DeferOk P G f x dargs)
    {args : Array Value} {h : AHeap} {v : Value} {h' : AHeap} (e : deferF P enters CB DB K x dargs args h = some (v, h')) : Nx h h' ∧
    ∀ (B : Base) m args' w, ARel m args args' → Rel P B m h w → GRel G m →
      Calls P f args' w (fun e w' => ∃ v' m', e = .returned v' ∧ Ext h m m' ∧ Rel P B m' h' w' ∧ VRel m' v v') := by
  unfold deferF at e
  split at e <;> try (cases e; done)
  rename_i hsz
  split at e <;> try (cases e; done)
  rename_i T1 h1 q1
  split at e <;> try (cases e; done)
  rename_i T2 h2 q2
  split at e <;> try (cases e; done)
  rename_i hsz2
  split at e <;> try (cases e; done)
  rename_i T4 h4 q4
  split at e <;> try (cases e; done)
  rename_i us vs hus hvs
  cases e
  rw [Nat.ble_eq, lenV_eq] at hsz hsz2
  rw [listOf_eq] at hsz
  rw [listOf_eq, initT_self] at q1
  rw [putB_eq] at q2
  rw [putB_eq, initT_self] at q4
  rw [argsB_eq] at hsz2 q4
  obtain ⟨n1, c1⟩ := codeB_sound (n := x.fn.ntmps) hE hz hC hD K x.r0 hx.pl0 _ _ .normal _ _ q1
  obtain ⟨n2, c2⟩ := codeB_sound (n := x.fn.ntmps) hE hz hC hD K x.rest hx.plr _ _ .ret _ _ q2
  obtain ⟨n4, c4⟩ := codeB_sound (n := x.gn.ntmps) hE hz hC hD K x.grest hx.plg _ _ .normal _ _ q4
  refine ⟨(n1.trans n2).trans n4, fun B m args' w ha hr hG => ?_⟩
  refine calls_of_wp_defers hx.hf hx.hb (wp_seq (c1 B m _ w _ hx.ok0 (initT_rel ha hsz) hr hG ?_))
  intro m1 a1 w1 x1 t1 d1 r1
  show (Code.seq (.region x.idD #[x.oD] false) x.rest).wp P _ a1 w1
  obtain ⟨cD, oD1, oD2, oD3⟩ := hx.hD
  have hrun : (execOp a1.eval x.oD).run P w1 = .ok (.defer { target := .fn (.func x.g) #[], args := (dargs.map a1.eval).toArray }) w1 := by
    unfold execOp
    rw [oD1]
    simp only [resolve, oD2, oD3, Act.eval, Deferred.ofValue, pure_bind, Sem.run_pure]
    simp
  refine wp_seq (wp_region_list ?_)
  show wpList P #[x.oD] _ [x.oD] a1 w1
  unfold wpList
  rw [if_pos (by unfold Region.wanted; rw [hx.gD])]
  refine .inl ?_
  unfold Oper.wp
  rw [hrun]
  rw [Oper.upon_defer]
  unfold wpList
  have t1' : TRel m1 x.fn.ntmps (Tput T1 x.oD.dst undef) ({ a1 with defers := { target := .fn (.func x.g) #[], args := (dargs.map a1.eval).toArray } :: a1.defers }.put x.oD.dst undef).tmps :=
    TRel.put (a := { a1 with defers := { target := .fn (.func x.g) #[], args := (dargs.map a1.eval).toArray } :: a1.defers }) t1 hx.dstD (undef_rel m1)
  refine c2 B m1 _ w1 _ hx.okr t1' r1 (hG.mono x1.1) ?_
  intro m2 a2 w2 x2 t2 d2 r2
  have hdef : a2.defers = [{ target := .fn (.func x.g) #[], args := (dargs.map a1.eval).toArray }] := by
    rw [d2]
    cases x.oD.dst <;> (simp only [Act.put]; rw [d1])
  show Leaves P x.fn a2.tmps _ a2.defers .returning w2
  rw [hdef]
  have hinv : (invoke (.fn (.func x.g) #[]) (dargs.map a1.eval).toArray).run P w2 = .ok (.enter x.g (dargs.map a1.eval).toArray) w2 := by
    show (callFunc x.g ((dargs.map a1.eval).toArray ++ #[])).run P w2 = _
    rw [Array.append_empty]
    exact hx.ent _ _
  refine leaves_cons (by intro q; cases q) hinv ?_
  refine callsD_of_wpS hx.hg hx.gb fun c0 cs hmode => ?_
  obtain ⟨cR, oR1, oR2, oR3⟩ := hx.hR
  refine wpS_seq (wpS_region ?_)
  have hrec : ∀ ρ : Operand → Value, (execOp ρ x.oR).run P w2 = .ok .recover w2 := by
    intro ρ
    unfold execOp
    rw [oR1]
    simp only [resolve, oR2, oR3, pure_bind, invoke, builtin, Sem.run_pure]
  have hnone : recoverD (c0 :: cs) = none := by
    unfold recoverD
    simp only [hmode]
  show wpOpsS P #[x.oR] _ (List.range 1) _ _ _
  rw [show List.range 1 = [0] from rfl]
  simp only [wpOpsS]
  rw [show (#[x.oR] : Array Oper)[0]? = some x.oR from rfl]
  dsimp only
  rw [if_pos (by unfold Region.wanted; rw [hx.gR]), hrec]
  dsimp only
  rw [hnone]
  dsimp only
  show Code.wpS P x.grest _ _ _ _
  have hdr : ARel m2 (dargs.map (rhoA T1)).toArray (dargs.map a1.eval).toArray := by
    refine ⟨by simp, fun i hi hi' => ?_⟩
    simp only [List.getElem_toArray, List.getElem_map]
    exact (rho_rel t1 (hG.mono x1.1) (hx.ops _ (List.getElem_mem (by simpa using hi)))).mono x2.1
  refine wpS_of_wp (c4 B m2 _ w2 _ hx.okg (TRel.put (a := { tmps := (dargs.map a1.eval).toArray ++ Array.replicate (x.gn.ntmps - (dargs.map a1.eval).toArray.size) undef, defers := [] }) (initT_rel (args := (dargs.map (rhoA T1)).toArray) hdr (by simpa using hsz2)) hx.dstR .nilIface) r2 ((hG.mono x1.1).mono x2.1) ?_)
  intro m4 a4 w4 x4 t4 d4 r4
  obtain ⟨u', hu1, hu2⟩ := results_sound r4 t4 (resB_some hus)
  obtain ⟨v', hv1, hv2⟩ := results_sound r4 (t2.mono x4.1) (resB_some hvs)
  refine ⟨?_, .returning, ?_, u', hu1, ?_⟩
  · rw [d4]; cases x.oR.dst <;> rfl
  · rw [← hmode]
  · exact ⟨v', hv1, v', m4, rfl, (x1.trans x2 n1.1 n1.2.1).trans x4 (n1.trans n2).1 (n1.trans n2).2.1, r4, hv2⟩
end
end Go.Ab
