import Derived.Test.YthapjgecggdliaaGreatDoorAbU
import Derived.ProofKit
import Derived.OpenShut
import Derived.Carry
import Derived.Deep.DeepHandedRow
import Derived.Deep.DeepLaidRun
namespace Go.Ab
open Go Go.ChangeShapes Go.WideShapes Go.ChangeAt Go.RowKit

/-! ## From a run over an abstract memory to the row's contract -/
def baseOf (W : World) : Base := ⟨fun k => W.heap[k]?, W.os, W.tape, W.output⟩
def muG (G : Nat) : Mu := fun g => if g < G then some ⟨g, 0, 0⟩ else none
def bareOf (G : Nat) : AHeap := ⟨.leaf, G + 8, 1099511627776⟩
theorem muG_rel (G : Nat) : GRel G (muG G) := fun g hg => ⟨⟨g, 0, 0⟩, by simp [muG, hg], rfl, rfl⟩
theorem initRel {P : Program} (G : Nat) (W : World) : Rel P (baseOf W) (muG G) (bareOf G) W := by
  have hd : ∀ b, (bareOf G).get b = .dead := fun b => by simp [bareOf, AHeap.get, Tree.get_leaf]
  refine ⟨rfl, rfl, rfl, fun _ _ h => h, fun b hb => absurd (hd b) hb, fun b _ _ _ hb => absurd (hd b) hb, fun b h1 _ => ⟨hd b, ?_⟩⟩
  simp only [bareOf] at h1
  simp [muG]; omega
theorem below_of_rel {P : Program} {W w' : World} {m : Mu} {h : AHeap} (hr : Rel P (baseOf W) m h w') : Below W.heap.size W w' := by
  have hk : ∀ k, k < W.heap.size → w'.heap[k]? = W.heap[k]? := by
    intro k hk
    have : (baseOf W).prot k = some (W.heap[k]) := Array.getElem?_eq_getElem hk
    rw [hr.prot k _ this, Array.getElem?_eq_getElem hk]
  refine ⟨hr.os, hr.tape, hr.output, ?_, hk⟩
  rcases Nat.lt_or_ge w'.heap.size W.heap.size with c | c
  · have := hk w'.heap.size c
    rw [Array.getElem?_eq_none (Nat.le_refl _), Array.getElem?_eq_getElem c] at this
    cases this
  · exact c
theorem calls_of_run {P : Program} {G : Nat} {callF : CallF} (hs : CallSound P G callF) {f : FuncId} {aa args : Array Value} {v : Value} {W : World} (hv : vflat 8 v = true)
    (h : (callF f aa (bareOf G)).map (·.1) = some v) (ha : ARel (muG G) aa args) : Calls P f args W fun e w' => e = .returned v ∧ Below W.heap.size W w' := by
  obtain ⟨⟨v', h'⟩, h1, h2⟩ := Option.map_eq_some_iff.1 h
  subst h2
  refine ((hs f aa (bareOf G) v' h' h1).2 (baseOf W) (muG G) args W ha (initRel G W) (muG_rel G)).mono ?_
  rintro e w' ⟨u, m', rfl, _, hr, hu⟩
  exact ⟨by rw [hu.of_flat 8 hv], below_of_rel hr⟩

/-! ### Arguments that are not read -/
def un : Value := .chan (some 0)
theorem cell_any {P : Program} {W : World} {r : Reach} {base : Nat} {u : TypeId} {v : Value} {m : Mu} (hu : P.underlying u ≠ some .bool) (h : Cell.okWide P W r base u v) : VRel m un v := by
  unfold Cell.okWide Cell.ok at h
  refine .any 0 v (fun b e => ?_) (fun c e => ?_) (fun c e => ?_) <;> subst e
  · cases hd : P.underlying u with
    | none => rw [hd] at h; simp at h
    | some d => rw [hd] at h; cases d <;> first | exact hu hd | (simp at h; done)
  · cases hd : P.underlying u with
    | none => rw [hd] at h; simp at h
    | some d => rw [hd] at h; cases d <;> simp at h
  · cases hd : P.underlying u with
    | none => rw [hd] at h; simp at h
    | some d => rw [hd] at h; cases d <;> simp at h
def noBool (P : Program) (t : TypeId) : Bool := match P.cellTypes P.depth t with
  | some ts => ts.all fun u => match P.underlying u with | some .bool => false | _ => true
  | none => true
theorem any_struct {P : Program} {W : World} {r : Reach} {base : Nat} {t : TypeId} {v : Value} {m : Mu} {fs : Array Field} {n : Nat} (ht : P.underlying t = some (.struct fs)) (hn : P.cellsOf t = n) (hb : noBool P t = true)
    (h : Value.okWide P W r base t v) : VRel m (.agg (Array.replicate n un)) v := by
  unfold Value.okWide at h
  rw [ht] at h
  obtain ⟨cs, rfl, hsz, ts, hts, _, hall⟩ := h
  refine .agg _ _ (by simp [hsz, hn]) fun i h1 h2 => ?_
  obtain ⟨u, hu, hc⟩ := hall i _ (Array.getElem?_eq_getElem h2)
  rw [Array.getElem_replicate]
  refine cell_any (fun e => ?_) hc
  unfold noBool at hb
  rw [hts] at hb
  have := List.all_eq_true.1 hb u (List.mem_of_getElem? hu)
  rw [e] at this
  cases this
def isCellD : TypeDesc → Bool
  | .bool | .struct _ | .array _ _ => false
  | _ => true
theorem any_cell {P : Program} {W : World} {r : Reach} {base : Nat} {t : TypeId} {v : Value} {m : Mu} {d : TypeDesc} (ht : P.underlying t = some d) (hd : isCellD d = true)
    (h : Value.okWide P W r base t v) : VRel m un v := by
  unfold Value.okWide at h
  rw [ht] at h
  have hc : Cell.okWide P W r base t v := by
    cases d <;> first | exact h | cases hd
  refine cell_any (fun e => ?_) hc
  rw [ht] at e
  cases e; cases hd

/-! ### The row's post -/
theorem trodAll_stays {H : Type} {enc : TypeId × Value → H} {P : Program} (hl : laidOutB P = true) {W W' : World} {sp : Nat → Bool} :
    ∀ (ts : List TypeId) (vs : List Value) (ds : List (DataW H)) (ps : List MemPlace), (∀ t ∈ ts, P.readableRec t = true ∧ t < P.types.size) → DataW.TrodAll enc P W 0 (fun _ => true) true ts vs ds ps →
      (∀ p ∈ ps, W.sameAt W' p) → (∀ p ∈ ps, sp p.block = true) → DataW.TrodAll enc P W' 0 sp true ts vs ds ps
  | [], vs, ds, ps, _, h, _, _ => by
    obtain ⟨rfl, rfl, rfl⟩ := trodAll_nil h
    exact trodAll_mk0
  | t :: ts, vs, ds, ps, hr, h, h1, h2 => by
    obtain ⟨v, vs', d, ds', p, q, rfl, rfl, rfl, h3, h4⟩ := trodAll_cons h
    exact trodAll_cons_mk (WideElems.Trod_stays hl (hr t (by simp)).1 (hr t (by simp)).2 h3 (fun x hx => h1 x (by simp [hx])) (fun x hx => h2 x (by simp [hx])))
      (trodAll_stays hl ts vs' ds' q (fun x hx => hr x (by simp [hx])) h4 (fun x hx => h1 x (by simp [hx])) (fun x hx => h2 x (by simp [hx])))
theorem post_true {H : Type} {enc : TypeId × Value → H} {P : Program} {fn : Func} {s : ChangeSpec} {W W' : World} {args : Array Value} {ds gs : List (DataW H)} {before : List MemPlace} {tb : TypeId}
    (hl : laidOutB P = true) (hr : fn.params.toList.all (fun t => P.readableRec t && Nat.blt t P.types.size) = true) (hW : DataW.Whole enc P fn.params.toList s.vars false W args.toList ds gs before) (hvars : s.vars = [])
    (hres : (s.fn H (ds ++ gs)).results = [.lit (.bool true)]) (hargs : (s.fn H (ds ++ gs)).args = ds) (hv : (s.fn H (ds ++ gs)).vars = []) (ht : fn.resultTypes = #[tb]) (hb : P.underlying tb = some .bool) (hbelow : Below W.heap.size W W') :
    s.post enc P fn false true false false W args (.bool true) W' := by
  have hW' := hW
  obtain ⟨p, q, hA, hV, rfl, hfz, hnd⟩ := hW
  have hlt : ∀ x ∈ p, x.block < W.heap.size := fun x hx => by simpa using hW'.lt x (by simp [hx])
  refine ⟨ds, gs, p ++ q, [], p, [], hW', ?_, ?_, ?_, hbelow.frame _, fun h => by cases h⟩
  · rw [ht, hres]
    exact trodAll_cons_mk (p := []) (shut_bool hb _) trodAll_mk0
  · rw [hargs]
    exact trodAll_stays hl _ _ _ _ (fun t htm => by have := List.all_eq_true.1 hr t htm; simpa using this) hA (fun x hx => hbelow.same (hlt x hx)) (fun x hx => by simpa using hlt x hx)
  · rw [hvars, hv]; rfl
end Go.Ab
