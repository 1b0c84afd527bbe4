import Derived.Test.YthapjgecggdliaaGreatDoorAbM
namespace Go.Ab
open Go
section
variable {P : Program}

def initT : List Value → Nat → Tree Value → Tree Value
  | [], _, T => T
  | v :: rest, i, T => initT rest (i + 1) (T.set undef i v)

def callA (P : Program) (enters : FuncId → FKind) (FT : FuncId → Option Func) (sp : CallF) (draw : CallF → DrawF) (K : Nat) : Nat → CallF
  | 0, _, _, _ => none
  | d + 1, f, args, h =>
    match sp f args h with
    | some r => some r
    | none =>
      match FT f with
      | some fn =>
        match fn.body, Nat.ble args.size fn.ntmps with
        | some c, true =>
          match codeA P enters (callA P enters FT sp draw K d) (draw (callA P enters FT sp draw K d)) K c (initT args.toList 0 .leaf) h with
          | some (.normal, T', h') => match resA P h' T' fn.results.toList with
            | some vs => some (oneA vs, h')
            | none => none
          | some (.ret, T', h') => match resA P h' T' fn.results.toList with
            | some vs => some (oneA vs, h')
            | none => none
          | _ => none
        | _, _ => none
      | none => none

theorem initT_get : ∀ (l : List Value) (i : Nat) (T : Tree Value) (t : Nat), (initT l i T).get undef t = if i ≤ t ∧ t < i + l.length then (l[t - i]?).getD undef else T.get undef t := by
  intro l
  induction l with
  | nil => intro i T t; rw [if_neg (by simp)]; rfl
  | cons v l ih =>
    intro i T t
    simp only [initT]
    rw [ih, Tree.get_set]
    by_cases e : t = i
    · subst e
      rw [if_neg (by omega), if_pos rfl, if_pos (by simp), Nat.sub_self]; rfl
    · rw [if_neg e]
      by_cases c : i + 1 ≤ t ∧ t < i + 1 + l.length
      · rw [if_pos c, if_pos (by simp; omega)]
        obtain ⟨d, rfl⟩ : ∃ d, t = i + 1 + d := ⟨t - (i + 1), by omega⟩
        rw [show i + 1 + d - (i + 1) = d by omega, show i + 1 + d - i = d + 1 by omega]; rfl
      · rw [if_neg c, if_neg (by simp; omega)]

theorem initT_rel {m : Mu} {args args' : Array Value} {n : Nat} (h : ARel m args args') (hn : args.size ≤ n) :
    TRel m n (initT args.toList 0 .leaf) (args' ++ Array.replicate (n - args'.size) undef) := by
  refine ⟨by simp [← h.1]; omega, fun t => ?_⟩
  unfold Tget
  rw [initT_get]
  simp only [Nat.zero_le, true_and, Nat.zero_add, Array.length_toList, Nat.sub_zero, Tree.get_leaf]
  rw [Array.getD_eq_getD_getElem?, Array.getElem?_append]
  by_cases c : t < args.size
  · rw [if_pos c, if_pos (by rw [← h.1]; exact c)]
    have e1 : args.toList[t]? = some args[t] := by simp [c]
    have c' : t < args'.size := by rw [← h.1]; exact c
    rw [e1, Array.getElem?_eq_getElem c']
    exact h.2 t c c'
  · rw [if_neg c, if_neg (by rw [← h.1]; exact c)]
    simp only [Array.getElem?_replicate]
    split <;> exact undef_rel m

/-- What is asked of a table of functions. -/
structure Table (P : Program) (G : Nat) (enters : FuncId → FKind) (FT : FuncId → Option Func) : Prop where
  has : ∀ f fn, FT f = some fn → P.funcs[f]? = some fn
  code : ∀ f fn c, FT f = some fn → fn.body = some c → codeOk G fn.ntmps c = true

theorem callA_sound {G : Nat} {enters : FuncId → FKind} {FT : FuncId → Option Func} {sp : CallF} {draw : CallF → DrawF} (hE : Enters P enters) (hz : ZF P) (hT : Table P G enters FT) (hS : CallSound P G sp)
    (hD : ∀ callF, CallSound P G callF → DrawSound P G (draw callF)) (K : Nat) : ∀ d, CallSound P G (callA P enters FT sp draw K d) := by
  intro d
  induction d with
  | zero => intro f args h v h' e; simp [callA] at e
  | succ d ih =>
    intro f args h v h' e
    simp only [callA] at e
    split at e
    · rename_i r hr
      cases e
      exact hS f args h v h' hr
    split at e <;> try (cases e; done)
    rename_i fn hfn
    split at e <;> try (cases e; done)
    rename_i c hb hsz
    simp only [Nat.ble_eq] at hsz
    have fin : ∀ (x : AExit) (T' : Tree Value) (h2 : AHeap), (x = .normal ∨ x = .ret) → codeA P enters (callA P enters FT sp draw K d) (draw (callA P enters FT sp draw K d)) K c (initT args.toList 0 .leaf) h = some (x, T', h2) →
        (match resA P h2 T' fn.results.toList with | some vs => some (oneA vs, h2) | none => none) = some (v, h') → Nx h h' ∧
        ∀ (B : Base) m args' w, ARel m args args' → Rel P B m h w → GRel G m →
          Calls P f args' w (fun e w' => ∃ v' m', e = .returned v' ∧ Ext h m m' ∧ Rel P B m' h' w' ∧ VRel m' v v') := by
      intro x T' h2 hx hc he
      split at he <;> try (cases he; done)
      rename_i vs hvs
      simp only [Option.some.injEq, Prod.mk.injEq] at he
      obtain ⟨rfl, rfl⟩ := he
      obtain ⟨q1, q2⟩ := codeA_soundF (n := fn.ntmps) hE hz ih (hD _ ih) K c _ _ _ _ _ hc
      refine ⟨q1, fun B m args' w ha hr hG => ?_⟩
      refine calls_of_wp (hT.has f fn hfn) hb (wpF_wp (q2 B m { tmps := args' ++ Array.replicate (fn.ntmps - args'.size) undef, defers := [] } w _ (hT.code f fn c hfn hb) (initT_rel ha hsz) hr hG ?_))
      intro m' a' w' c1 c2 c3 c4
      obtain ⟨v', r1, r2⟩ := results_sound c4 c2 hvs
      have : bodyPost P fn (fun e w' => ∃ v' m', e = .returned v' ∧ Ext h m m' ∧ Rel P B m' h2 w' ∧ VRel m' (oneA vs) v') .ret a' w' := ⟨c3, v', r1, v', m', rfl, c1, c4, r2⟩
      rcases hx with rfl | rfl <;> exact this
    split at e
    · rename_i T' h2 hc; exact fin _ _ _ (.inl rfl) hc e
    · rename_i T' h2 hc; exact fin _ _ _ (.inr rfl) hc e
    · cases e
end
end Go.Ab
