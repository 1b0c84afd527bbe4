import Derived.Test.YthapjgecggdliaaGreatDoorAbFr
namespace Go.Ab
open Go Go.RowKit
variable {P : Program} {G : Nat}

/-! ## What a function answers, by a told run, and for whole families of arguments -/
theorem memo_of_told {CB : CallB} {CC : CallC} (hs : CallSound P G (callOf CB)) (hC : CallEq CB CC) {x : Memo} {tp : Tape} {r : OutC} (ha : x.args.all (vflat 8) = true) (hv : vflat 8 x.v = true)
    (h : (CC x.f).un x.args.toArray (bareOf G) tp [] = some r) (hr : r.v = x.v) (hl : NotedOk r.lg) : MemoOk P x := by
  refine memo_of_quick hs ha hv ?_
  rw [(hC _ _ _ _ _ _ h hl).2, ← hr]
  rfl
/-- What such a run said and noted. -/
def saidC (r : Option OutC) : Option (Value × Noted) := match r with | some o => some (o.v, o.lg) | none => none
theorem memo_of_said {CB : CallB} {CC : CallC} (hs : CallSound P G (callOf CB)) (hC : CallEq CB CC) {x : Memo} {tp : Tape} {lg : Noted} (ha : x.args.all (vflat 8) = true) (hv : vflat 8 x.v = true)
    (h : saidC ((CC x.f).un x.args.toArray (bareOf G) tp []) = some (x.v, lg)) (hl : NotedOk lg) : MemoOk P x := by
  unfold saidC at h
  split at h
  · rename_i o ho
    simp only [Option.some.injEq, Prod.mk.injEq] at h
    exact memo_of_told hs hC ha hv ho h.1 (by rw [h.2]; exact hl)
  · cases h
/-- A function that is known for all arguments of a kind. -/
def famK (f : FuncId) (F : List Value → Option Value) : Known := fun g => match Nat.beq f g with
  | true => some fun args h => match F args.toList with | some v => some (v, h) | none => none
  | false => none
theorem famK_sound {f : FuncId} {F : List Value → Option Value} (hF : ∀ l v, F l = some v → MemoOk P ⟨f, l, v⟩) : CallSound P G (famK f F).call := by
  intro g args h v h' e
  unfold Known.call famK at e
  cases hb : Nat.beq f g with
  | false => rw [hb] at e; cases e
  | true =>
    rw [hb] at e
    obtain rfl := Nat.eq_of_beq_eq_true hb
    dsimp only at e
    split at e
    · rename_i v0 hv
      simp only [Option.some.injEq, Prod.mk.injEq] at e
      obtain ⟨rfl, rfl⟩ := e
      obtain ⟨k1, k2, k3⟩ := hF _ _ hv
      refine ⟨Nx.refl _, fun B m args' w ha hr hG => ?_⟩
      have e2 : args' = args := by
        refine Array.ext ha.1.symm fun i a b => ?_
        exact (ha.2 i b a).of_flat 8 (List.all_eq_true.1 k1 _ (by simp))
      rw [e2]
      have k3' : Calls P f args w fun e w' => e = .returned v0 ∧ Below w.heap.size w w' := by
        have := k3 w
        rwa [Array.toArray_toList] at this
      refine k3'.mono ?_
      rintro e w' ⟨rfl, hb⟩
      exact ⟨_, m, rfl, Ext.refl _ m, hr.below hb, vflat_rel m 8 _ k2⟩
    · cases e
/-- One known function ahead of others. -/
def orK (a b : Known) : Known := fun g => match a g with
  | some x => some x
  | none => b g
theorem orK_sound {a b : Known} (ha : CallSound P G a.call) (hb : CallSound P G b.call) : CallSound P G (orK a b).call := by
  intro g args h v h' e
  unfold Known.call orK at e
  cases hg : a g with
  | some x =>
    rw [hg] at e
    exact ha g args h v h' (by unfold Known.call; rw [hg]; exact e)
  | none =>
    rw [hg] at e
    exact hb g args h v h' e
end Go.Ab
