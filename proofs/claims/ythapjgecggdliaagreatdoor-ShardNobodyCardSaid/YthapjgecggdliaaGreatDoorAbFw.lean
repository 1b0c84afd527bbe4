import Derived.Test.YthapjgecggdliaaGreatDoorAbFv
namespace Go.Ab
open Go Go.RowKit
section
variable {P : Program}

/-! ## Functions that defer, and that range over functions, known layer by layer -/
def hasDefer : Code → Bool
  | .region _ ops _ => ops.toList.any fun o => match o.op with | .defer _ => true | _ => false
  | .seq a b => hasDefer a || hasDefer b
  | .cond _ a b => hasDefer a || hasDefer b
  | .block _ c | .loop c | .scope c => hasDefer c
  | _ => false
def rangeOf (fn : Func) : Option RangeText := match fn.body with
  | some (.seq c0 (.seq (.seq c1 (.block id (.rangeFunc g ⟨[p]⟩ asg bd))) rest)) => some ⟨fn, c0, c1, id, g, p, asg, bd, rest⟩
  | _ => none
def rangeOkB (P : Program) (G : Nat) (x : RangeText) : Bool :=
  Nat.blt x.p x.fn.ntmps && opndOk G x.g && codeOk G x.fn.ntmps x.c0 && codeOk G x.fn.ntmps x.c1 && codeOk G x.fn.ntmps x.asg && codeOk G x.fn.ntmps x.bd && codeOk G x.fn.ntmps x.rest && plansOk P x.c0 && plansOk P x.c1 && plansOk P x.rest
theorem rangeOf_some {fn : Func} {x : RangeText} (h : rangeOf fn = some x) : x.fn = fn ∧ fn.body = some (.seq x.c0 (.seq (.seq x.c1 (.block x.id (.rangeFunc x.g #[x.p] x.asg x.bd))) x.rest)) := by
  unfold rangeOf at h
  split at h
  · rename_i hb; cases h; exact ⟨rfl, hb⟩
  · cases h
theorem rangeOk_of {G : Nat} {f : FuncId} {x : RangeText} (hf : P.funcs[f]? = some x.fn) (hb : x.fn.body = some (.seq x.c0 (.seq (.seq x.c1 (.block x.id (.rangeFunc x.g #[x.p] x.asg x.bd))) x.rest))) (h : rangeOkB P G x = true) : RangeOk P G f x := by
  simp only [rangeOkB, Bool.and_eq_true, Nat.blt_eq] at h
  obtain ⟨⟨⟨⟨⟨⟨⟨⟨⟨h1, h2⟩, h3⟩, h4⟩, h5⟩, h6⟩, h7⟩, h8⟩, h9⟩, h10⟩ := h
  exact ⟨hf, hb, h1, h2, h3, h4, h5, h6, h7, h8, h9, h10⟩
noncomputable def richK (P : Program) (G : Nat) (FT : FuncId → Option Func) (enters : FuncId → FKind) (CB : CallB) (DB : DrawB) (K : Nat) : Known := fun f => match FT f with
  | some fn => match fn.body with
    | some c => match hasDefer c with
      | true => some (deferG P FT enters CB DB K fn c)
      | false => match rangeOf fn with
        | some x => match rangeOkB P G x with
          | true => some (rangeF P FT enters CB DB K x)
          | false => none
        | none => none
    | none => none
  | none => none
theorem richK_sound {G : Nat} {FT : FuncId → Option Func} {enters : FuncId → FKind} {CB : CallB} {DB : DrawB} {K : Nat} (hE : Enters P enters) (hz : ZF P) (hC : CallSound P G (callOf CB)) (hD : DrawGood P G (fun ops T h => (DB ops).un T h)) (hTb : Table P G enters FT)
    (hpl : ∀ f fn c, FT f = some fn → fn.body = some c → plansOk P c = true) : CallSound P G (richK P G FT enters CB DB K).call := by
  intro f args h v h' e
  unfold Known.call richK at e
  split at e <;> try (cases e; done)
  rename_i g hg
  split at hg <;> try (cases hg; done)
  rename_i fn hfn
  split at hg <;> try (cases hg; done)
  rename_i c hc
  split at hg
  · cases hg
    exact deferG_sound hE hz hC hD hTb hpl hfn hc e
  · split at hg <;> try (cases hg; done)
    rename_i x hx
    split at hg <;> try (cases hg; done)
    rename_i hok
    cases hg
    obtain ⟨h1, h2⟩ := rangeOf_some hx
    exact rangeF_sound hE hz hC hD hTb (rangeOk_of (f := f) (by rw [h1]; exact hTb.has f fn hfn) (by rw [h1]; exact h2) hok) e
noncomputable def layerB (P : Program) (G : Nat) (FT : FuncId → Option Func) (enters : FuncId → FKind) (K d : Nat) : Nat → CallB
  | 0 => callB P enters FT noneK (drawB P enters) K d
  | n + 1 => callB P enters FT (richK P G FT enters (layerB P G FT enters K d n) (drawB P enters (layerB P G FT enters K d n)) K) (drawB P enters) K d
theorem layerB_sound {G : Nat} {FT : FuncId → Option Func} {enters : FuncId → FKind} (hE : Enters P enters) (hz : ZF P) (hTb : Table P G enters FT) (hpl : ∀ f fn c, FT f = some fn → fn.body = some c → plansOk P c = true) (K d : Nat) : ∀ n, CallSound P G (callOf (layerB P G FT enters K d n)) := by
  intro n
  induction n with
  | zero => exact callB_sound hE hz hTb noneK_sound hpl (fun _ h => drawB_sound hE hz h) K d
  | succ n ih => exact callB_sound hE hz hTb (richK_sound hE hz ih (drawB_sound hE hz ih) hTb hpl) hpl (fun _ h => drawB_sound hE hz h) K d
end
end Go.Ab
