import Derived.Test.YthapjgecggdliaaGreatDoorAbV
namespace Go.Ab
open Go Go.RowKit

/-! ## A body, part by part -/
section
variable {P : Program} {G n : Nat} {enters : FuncId → FKind} {callF : CallF} {draw : DrawF}

def stp (P : Program) (enters : FuncId → FKind) (callF : CallF) (draw : DrawF) (K : Nat) (r : Code) (s : Tree Value × AHeap) : Tree Value × AHeap :=
  match codeA P enters callF draw K r s.1 s.2 with
  | some (.normal, T, h) => (T, h)
  | _ => s
def stpOk (P : Program) (enters : FuncId → FKind) (callF : CallF) (draw : DrawF) (K : Nat) (r : Code) (s : Tree Value × AHeap) : Bool :=
  match codeA P enters callF draw K r s.1 s.2 with
  | some (.normal, _, _) => true
  | _ => false
theorem stp_wp (hE : Enters P enters) (hz : ZF P) (hC : CallSound P G callF) (hD : DrawSound P G draw) {K : Nat} {r b : Code} {s : Tree Value × AHeap} {B : Base} {m : Mu} {a : Act} {w : World} {Q : Exit → Act → World → Prop}
    (hok : codeOk G n r = true) (hs : stpOk P enters callF draw K r s = true) (hT : TRel m n s.1 a.tmps) (hr : Rel P B m s.2 w) (hG : GRel G m)
    (hk : ∀ m' a' w', GRel G m' → TRel m' n (stp P enters callF draw K r s).1 a'.tmps → a'.defers = a.defers → Rel P B m' (stp P enters callF draw K r s).2 w' → b.wp P Q a' w') : (Code.seq r b).wp P Q a w := by
  unfold stpOk at hs
  split at hs
  · rename_i T' h' hc
    have hst : stp P enters callF draw K r s = (T', h') := by unfold stp; rw [hc]
    rw [hst] at hk
    obtain ⟨_, q2⟩ := codeA_soundF (n := n) hE hz hC hD _ _ _ _ _ _ _ hc
    refine wp_seq (wpF_wp (q2 B m a w _ hok hT hr hG ?_))
    intro m' a' w' c1 c2 c3 c4
    exact hk m' a' w' (hG.mono c1.1) c2 c3 c4
  · cases hs

def finA (P : Program) (enters : FuncId → FKind) (callF : CallF) (draw : DrawF) (K : Nat) (fn : Func) (r : Code) (s : Tree Value × AHeap) : Option Value :=
  match codeA P enters callF draw K r s.1 s.2 with
  | some (.ret, T', h') => match resA P h' T' fn.results.toList with
    | some vs => some (oneA vs)
    | none => none
  | _ => none
theorem fin_wp (hE : Enters P enters) (hz : ZF P) (hC : CallSound P G callF) (hD : DrawSound P G draw) {K : Nat} {r : Code} {s : Tree Value × AHeap} {fn : Func} {W : World} {m : Mu} {a : Act} {w : World} {v : Value}
    (hok : codeOk G n r = true) (hv : vflat 8 v = true) (hs : finA P enters callF draw K fn r s = some v) (hT : TRel m n s.1 a.tmps) (hr : Rel P (baseOf W) m s.2 w) (hG : GRel G m) (hd : a.defers = []) :
    r.wp P (bodyPost P fn fun e w' => e = .returned v ∧ Below W.heap.size W w') a w := by
  unfold finA at hs
  split at hs <;> try (cases hs; done)
  rename_i T' h' hc
  split at hs <;> try (cases hs; done)
  rename_i vs hvs
  obtain rfl := Option.some.inj hs
  obtain ⟨_, q2⟩ := codeA_soundF (n := n) hE hz hC hD _ _ _ _ _ _ _ hc
  refine wpF_wp (q2 (baseOf W) m a w _ hok hT hr hG ?_)
  intro m' a' w' c1 c2 c3 c4
  obtain ⟨v', r1, r2⟩ := results_sound c4 c2 hvs
  exact ⟨c3.trans hd, v', r1, by rw [r2.of_flat 8 hv], below_of_rel c4⟩

/-- A slot's value under another name. -/
theorem TRel.name {m : Mu} {N : Nat} {T : Tree Value} {tmps : Array Value} (h : TRel m N T tmps) {t : Tmp} {v : Value} (e : Tget T t = v) : TRel m N (Tput T (some t) v) tmps := by
  refine ⟨h.size, fun x => ?_⟩
  rw [Tget_put]
  split
  · rename_i hx
    obtain rfl := Option.some.inj hx
    rw [← e]; exact h.rel t
  · exact h.rel x
end

def codeL : Code → Code
  | .seq a _ => a
  | c => c
def codeR : Code → Code
  | .seq _ b => b
  | c => c

/-! ### 'x & 15' -/
def low4 (x : Int) : Int := IntKind.i64.wrap ((BitVec.ofInt 64 x &&& BitVec.ofInt 64 15).toNat : Int)
theorem low4_lt (x : Int) : ∃ k : Nat, k < 16 ∧ low4 x = (k : Int) := by
  have h : (BitVec.ofInt 64 x &&& BitVec.ofInt 64 15).toNat < 16 := by
    rw [BitVec.toNat_and]
    have : (BitVec.ofInt 64 15).toNat = 15 := by decide
    rw [this]
    exact Nat.lt_of_le_of_lt Nat.and_le_right (by decide)
  refine ⟨_, h, ?_⟩
  unfold low4
  rw [IntKind.wrap_i64]
  omega

/-! ### What is known of a call, over every memory -/
theorem OKObj.of_block {P : Program} {m : Mu} {l : Loc} {w w' : World} {o : AObj} (h : OKObj P m l w o) (hb : ∀ x, w.heap[l.blk]? = some x → w'.heap[l.blk]? = some x) : OKObj P m l w' o := by
  cases o with
  | dead => exact trivial
  | cells c t => obtain ⟨C, fr, h1, h2⟩ := h; exact ⟨C, fr, hb _ h1, h2⟩
  | map es k => obtain ⟨es', h1, h2⟩ := h; exact ⟨es', hb _ h1, h2⟩
  | iter s p => exact ⟨hb _ h.1, h.2⟩
  | miter x a b c => obtain ⟨⟨x', h1, h2⟩, h3⟩ := h; exact ⟨⟨x', hb _ h1, h2⟩, h3⟩
  | ro c t => obtain ⟨C, te, fr, h1, h2⟩ := h; exact ⟨C, te, fr, hb _ h1, h2⟩
theorem Rel.below {P : Program} {B : Base} {m : Mu} {h : AHeap} {w w' : World} (hr : Rel P B m h w) (hb : Below w.heap.size w w') : Rel P B m h w' := by
  have hk : ∀ (k : Nat) (x : Obj), w.heap[k]? = some x → w'.heap[k]? = some x := by
    intro k x hx
    rw [hb.block k (Array.getElem?_eq_some_iff.1 hx).1]; exact hx
  refine ⟨hb.os.trans hr.os, hb.tape.trans hr.tape, hb.output.trans hr.output, fun k o ho => hk k o (hr.prot k o ho), fun b hbb => ?_, hr.sep, hr.fresh⟩
  obtain ⟨l, h1, h2, h3⟩ := hr.obj b hbb
  exact ⟨l, h1, h2, h3.of_block (hk l.blk)⟩
structure Memo where
  f : FuncId
  args : List Value
  v : Value
def memoA : List Memo → CallF
  | [], _, _, _ => none
  | x :: rest, f, args, h =>
    if Nat.beq x.f f && veq.veqs 8 x.args args.toList then some (x.v, h) else memoA rest f args h
/-- What is asked of one. -/
def MemoOk (P : Program) (x : Memo) : Prop := x.args.all (vflat 8) = true ∧ vflat 8 x.v = true ∧ ∀ W : World, Calls P x.f x.args.toArray W fun e w' => e = .returned x.v ∧ Below W.heap.size W w'
theorem veqs_eq : ∀ (l l' : List Value), veq.veqs 8 l l' = true → l = l' := by
  intro l
  induction l with
  | nil => intro l' h; cases l' with | nil => rfl | cons => simp [veq.veqs] at h
  | cons x xs ih =>
    intro l' h
    cases l' with
    | nil => simp [veq.veqs] at h
    | cons y ys =>
      simp only [veq.veqs, Bool.and_eq_true] at h
      rw [veq_eq 8 x y h.1, ih ys h.2]
theorem memoA_sound {P : Program} {G : Nat} : ∀ (l : List Memo), (∀ x ∈ l, MemoOk P x) → CallSound P G (memoA l) := by
  intro l
  induction l with
  | nil => intro _ f args h v h' e; simp [memoA] at e
  | cons x rest ih =>
    intro hl f args h v h' e
    simp only [memoA] at e
    split at e
    · rename_i hc
      simp only [Bool.and_eq_true, Nat.beq_eq] at hc
      simp only [Option.some.injEq, Prod.mk.injEq] at e
      obtain ⟨rfl, rfl⟩ := e
      obtain ⟨k1, k2, k3⟩ := hl x (by simp)
      refine ⟨Nx.refl _, fun B m args' w ha hr hG => ?_⟩
      have e1 : args = x.args.toArray := Array.ext' (by simpa using (veqs_eq _ _ hc.2).symm)
      have e2 : args' = args := by
        refine Array.ext ha.1.symm fun i a b => ?_
        refine (ha.2 i b a).of_flat 8 (List.all_eq_true.1 k1 _ ?_)
        subst e1
        simp
      rw [e2, e1, ← hc.1]
      refine (k3 w).mono ?_
      rintro e w' ⟨rfl, hb⟩
      exact ⟨_, m, rfl, Ext.refl _ m, hr.below hb, vflat_rel m 8 _ k2⟩
    · exact ih (fun y hy => hl y (by simp [hy])) f args h v h' e
theorem memo_of_run {P : Program} {G : Nat} {callF : CallF} (hs : CallSound P G callF) {x : Memo} (ha : x.args.all (vflat 8) = true) (hv : vflat 8 x.v = true) (h : (callF x.f x.args.toArray (bareOf G)).map (·.1) = some x.v) : MemoOk P x :=
  ⟨ha, hv, fun _ => calls_of_run hs hv h ⟨rfl, fun i h1 _ => vflat_rel _ 8 _ (List.all_eq_true.1 ha _ (by simp))⟩⟩
end Go.Ab
