import Derived.Test.YtbkgnlcjnimpcaaDoorAbV
namespace Go.Ab
open Go Go.RowKit

/-! ## A body, part by part -/
section
variable {P : Program} {G n : Nat} {enters : FuncId → Bool} {callF : CallF} {draw : DrawF}

def stp (P : Program) (enters : FuncId → Bool) (callF : CallF) (draw : DrawF) (K : Nat) (r : Code) (s : Tree Value × AHeap) : Tree Value × AHeap :=
  match codeA P enters callF draw K r s.1 s.2 with
  | some (.normal, T, h) => (T, h)
  | _ => s
def stpOk (P : Program) (enters : FuncId → Bool) (callF : CallF) (draw : DrawF) (K : Nat) (r : Code) (s : Tree Value × AHeap) : Bool :=
  match codeA P enters callF draw K r s.1 s.2 with
  | some (.normal, _, _) => true
  | _ => false
theorem stp_wp (hE : Enters P enters) (hz : ZF P) (hC : CallSound P G callF) (hD : DrawSound P G draw) {K : Nat} {r b : Code} {s : Tree Value × AHeap} {B : Base} {m : Mu} {a : Act} {w : World} {Q : Exit → Act → World → Prop}
    (hok : codeOk G n r = true) (hs : stpOk P enters callF draw K r s = true) (hT : TRel m n s.1 a.tmps) (hr : Rel P B m s.2 w) (hG : GRel G m)
    (hk : ∀ m' a' w', GRel G m' → TRel m' n (stp P enters callF draw K r s).1 a'.tmps → a'.defers = a.defers → Rel P B m' (stp P enters callF draw K r s).2 w' → b.wp P Q a' w') : (Code.seq r b).wp P Q a w := by
  unfold stpOk at hs
  split at hs
  · rename_i T' h' hc
    have hst : stp P enters callF draw K r s = (T', h') := by unfold stp; rw [hc]
    rw [hst] at hk
    obtain ⟨_, q2⟩ := codeA_soundF (n := n) hE hz hC hD _ _ _ _ _ _ _ hc
    refine wp_seq (wpF_wp (q2 B m a w _ hok hT hr hG ?_))
    intro m' a' w' c1 c2 c3 c4
    exact hk m' a' w' (hG.mono c1.1) c2 c3 c4
  · cases hs

def finA (P : Program) (enters : FuncId → Bool) (callF : CallF) (draw : DrawF) (K : Nat) (fn : Func) (r : Code) (s : Tree Value × AHeap) : Option Value :=
  match codeA P enters callF draw K r s.1 s.2 with
  | some (.ret, T', h') => match resA P h' T' fn.results.toList with
    | some vs => some (oneA vs)
    | none => none
  | _ => none
theorem fin_wp (hE : Enters P enters) (hz : ZF P) (hC : CallSound P G callF) (hD : DrawSound P G draw) {K : Nat} {r : Code} {s : Tree Value × AHeap} {fn : Func} {W : World} {m : Mu} {a : Act} {w : World} {v : Value}
    (hok : codeOk G n r = true) (hv : vflat 8 v = true) (hs : finA P enters callF draw K fn r s = some v) (hT : TRel m n s.1 a.tmps) (hr : Rel P (baseOf W) m s.2 w) (hG : GRel G m) (hd : a.defers = []) :
    r.wp P (bodyPost P fn fun e w' => e = .returned v ∧ Below W.heap.size W w') a w := by
  unfold finA at hs
  split at hs <;> try (cases hs; done)
  rename_i T' h' hc
  split at hs <;> try (cases hs; done)
  rename_i vs hvs
  obtain rfl := Option.some.inj hs
  obtain ⟨_, q2⟩ := codeA_soundF (n := n) hE hz hC hD _ _ _ _ _ _ _ hc
  refine wpF_wp (q2 (baseOf W) m a w _ hok hT hr hG ?_)
  intro m' a' w' c1 c2 c3 c4
  obtain ⟨v', r1, r2⟩ := results_sound c4 c2 hvs
  exact ⟨c3.trans hd, v', r1, by rw [r2.of_flat 8 hv], below_of_rel c4⟩

/-- A slot's value under another name. -/
theorem TRel.name {m : Mu} {N : Nat} {T : Tree Value} {tmps : Array Value} (h : TRel m N T tmps) {t : Tmp} {v : Value} (e : Tget T t = v) : TRel m N (Tput T (some t) v) tmps := by
  refine ⟨h.size, fun x => ?_⟩
  rw [Tget_put]
  split
  · rename_i hx
    obtain rfl := Option.some.inj hx
    rw [← e]; exact h.rel t
  · exact h.rel x
end

def codeL : Code → Code
  | .seq a _ => a
  | c => c
def codeR : Code → Code
  | .seq _ b => b
  | c => c

/-! ### 'x & 15' -/
def low4 (x : Int) : Int := IntKind.i64.wrap ((BitVec.ofInt 64 x &&& BitVec.ofInt 64 15).toNat : Int)
theorem low4_lt (x : Int) : ∃ k : Nat, k < 16 ∧ low4 x = (k : Int) := by
  have h : (BitVec.ofInt 64 x &&& BitVec.ofInt 64 15).toNat < 16 := by
    rw [BitVec.toNat_and]
    have : (BitVec.ofInt 64 15).toNat = 15 := by decide
    rw [this]
    exact Nat.lt_of_le_of_lt Nat.and_le_right (by decide)
  refine ⟨_, h, ?_⟩
  unfold low4
  rw [IntKind.wrap_i64]
  omega
end Go.Ab
