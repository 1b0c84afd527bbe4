/- ShardBoth: what is looked at is so. -/
import Derived.Test.YtgokkngepgnedaaGreatDoorSbI
import Derived.Test.YtgokkngepgnedaaGreatDoorSbC
namespace Go.Proofs.YtgokkngepgnedaaGreatDoor.shardBoth
open Go Go.Ab Go.RowKit
set_option maxRecDepth 100000
/-! ### Numbers -/
theorem lt_ok {a b : Int} (h : a < b) : ltP a b true := by
  unfold ltP pr bV
  rw [intLt_eq, decide_eq_true h]
theorem lt_no {a b : Int} (h : b ≤ a) : ltP a b false := by
  unfold ltP pr bV
  rw [intLt_eq, decide_eq_false (by omega)]
theorem ge_ok {a b : Int} (h : b ≤ a) : geP a b true := by
  unfold geP pr bV
  rw [intLt_eq, decide_eq_false (by omega)]
  rfl
theorem ge_no {a b : Int} (h : a < b) : geP a b false := by
  unfold geP pr bV
  rw [intLt_eq, decide_eq_true h]
  rfl
theorem wbig {n : Nat} (h : n < 9223372036854775808) : wrapF .i64 (.ofNat n) = .ofNat n := by
  rw [wrapF_eq]
  exact wrap_u (show n < 9223372036854775808 from h)
theorem inc_ok {i : Nat} (h : i < 1000) : incP i := congrArg i64 (show wrapF .i64 (.ofNat (i + 1)) = _ from wbig (by omega))
theorem add_ok {n : Nat} (h : n < 1000) : addP n := congrArg i64 (show wrapF .i64 (.ofNat (n + 0)) = _ from wbig (by omega))
theorem min_ok {n : Nat} {k : Int} (h : (n : Int) ≤ k) : minP n k := by
  unfold minP pr
  refine congrArg i64 ?_
  show (if (n : Int) < k then (n : Int) else k) = (n : Int)
  split <;> omega
theorem ck_e (n : Nat) : ckP (e24 n) := by simp [ckP, veq, e24]
theorem ck_id (n : Nat) : ckP (idV n) := by simp [ckP, veq, veq.veqs, idV, e24, i64]
theorem one {p : Prop} (h : p) : NotedOk [p] := NotedOk.cons h NotedOk.nil
theorem two {p q : Prop} (h : p) (h2 : q) : NotedOk [p, q] := NotedOk.cons h (one h2)
theorem seq_ok {q : Nat} (h : 1 ≤ q) (h2 : q < 1000) : NotedOk (seqN q) := two (ge_ok (by show (1 : Int) ≤ (q : Int); omega)) (ge_ok (by show (q : Int) ≤ 2147483647; omega))
theorem find_ok {l q : Nat} (h : l < q) (h2 : q < 1000) : NotedOk (findN l q) := (seq_ok (by omega) h2).append (NotedOk.cons rfl (two (lt_ok (by show (l : Int) < (q : Int); omega)) rfl))
theorem put1_ok {l q : Nat} (h : l < q) (h2 : q < 1000) : NotedOk (put1N l q) := (seq_ok (by omega) h2).append (NotedOk.cons rfl (two (ge_no (by show (l : Int) < (q : Int); omega)) (ck_e q)))
theorem op_ok {c : Value} {l q : Nat} {w : Noted} (hc : ab c) (h : l < q) (h2 : q < 1000) (hw : NotedOk w) : NotedOk (opN c l q w) :=
  ((((((one hc).append (find_ok h h2)).append (put1_ok h h2)).append (one (ck_id q))).append hw).append (one rfl)).append (put1_ok h h2) |>.append (two rfl rfl)
theorem opR_ok {c : Value} {l q : Nat} {w : Noted} (hc : ab c) (h : l < q) (h2 : q < 1000) (hw : NotedOk w) : NotedOk (opR c l q w) :=
  (((((((one hc).append (find_ok h h2)).append (put1_ok h h2)).append (one (ck_id q))).append hw).append (one rfl)).append (seq_ok (by omega) h2)).append (NotedOk.cons rfl (NotedOk.cons (ge_no (by show (l : Int) < (q : Int); omega)) (two rfl (ck_e q)))) |>.append (two rfl rfl)
theorem post_ok {k : Nat} {a : Prop} (h : k < 1000) (ha : a) : NotedOk (postW k a) :=
  NotedOk.cons (ge_no (by show (k : Int) < 1024; omega)) (NotedOk.cons ha (two rfl (congrArg i64 (by
    rw [wrapF_eq]
    rw [show Int.sub (.ofNat (k + 1)) 1 = .ofNat k by show ((k + 1 : Nat) : Int) - 1 = (k : Int); omega]
    exact wrap_u (show k < 9223372036854775808 by omega)))))
/-! ### Ops and commands -/
theorem p2 {α β : Type} {a c : α} {b d : β} (h : (a, b) = (c, d)) : a = c ∧ b = d := Prod.mk.inj h
theorem in4a : oMake ∈ os4 := List.mem_cons_self
theorem in4b : oJoin ∈ os4 := List.mem_cons_of_mem _ List.mem_cons_self
theorem in4c : oPost ∈ os4 := List.mem_cons_of_mem _ (List.mem_cons_of_mem _ List.mem_cons_self)
theorem in4d : oHere ∈ os4 := List.mem_cons_of_mem _ (List.mem_cons_of_mem _ (List.mem_cons_of_mem _ List.mem_cons_self))
theorem in16 {x : Nat} (h : x < 16) : x ∈ xs := by
  have h : x = 0 ∨ x = 1 ∨ x = 2 ∨ x = 3 ∨ x = 4 ∨ x = 5 ∨ x = 6 ∨ x = 7 ∨ x = 8 ∨ x = 9 ∨ x = 10 ∨ x = 11 ∨ x = 12 ∨ x = 13 ∨ x = 14 ∨ x = 15 := by omega
  simp only [xs, List.mem_cons, List.not_mem_nil, or_false]
  exact h
theorem flat4 {o : List Value} (h : o ∈ os4) (q : Int) (sl : Nat) : vflat 8 (cOp q o sl) = true ∧ [i64 q, .agg ⟨o⟩].all (vflat 8) = true := by
  simp only [os4, List.mem_cons, List.not_mem_nil, or_false] at h
  rcases h with rfl | rfl | rfl | rfl <;> exact ⟨rfl, rfl⟩
theorem m6_ok {o : List Value} (h : o ∈ os4) (q : Int) : m6 q o 6 := mo (flat4 h q 6).2 (flat4 h q 6).1 (map_mem (op6 q) o h)
theorem ab_ok {o : List Value} (h : o ∈ os4) (q : Int) : ab (cOp q o 6) := mo (by
  show (vflat 8 (cOp q o 6) && true) = true
  rw [(flat4 h q 6).1]; rfl) rfl (map_mem (ab33 q) o h)
theorem m6_away {x : Nat} (h : x < 16) (q : Int) : m6 q (oAway x) (slT x) := mo rfl rfl (p2 (map_mem (op6x q) x (in16 h))).1
theorem m6_new {x : Nat} (h : x < 16) (q : Int) : m6 q (oNew x) (slT x) := mo rfl rfl (p2 (map_mem (op6x q) x (in16 h))).2
theorem ab_away {x : Nat} (h : x < 16) (q : Int) : ab (cOp q (oAway x) (slT x)) := mo rfl rfl (p2 (map_mem (ab33x q) x (in16 h))).1
theorem ab_new {x : Nat} (h : x < 16) (q : Int) : ab (cOp q (oNew x) (slT x)) := mo rfl rfl (p2 (map_mem (ab33x q) x (in16 h))).2
/-- A slot of the two. -/
def Slot (x s : Nat) : Prop := s = 6 ∨ s = slT x
theorem ab_lock {x s : Nat} (h : x < 16) (hs : Slot x s) : ab (cLock x s) := by
  have q := map_mem (ab33m true []) x (in16 h)
  obtain ⟨q1, q⟩ := p2 q
  obtain ⟨q2, q⟩ := p2 q
  rcases hs with rfl | rfl
  · exact mo rfl rfl q1
  · exact mo rfl rfl q2
theorem ab_fin {x s : Nat} (h : x < 16) (hs : Slot x s) (ok : Bool) (d : List UInt8) : ab (cFin x s ok d) := by
  have q := map_mem (ab33m ok d) x (in16 h)
  obtain ⟨_, q⟩ := p2 q
  obtain ⟨_, q⟩ := p2 q
  obtain ⟨q1, q2⟩ := p2 q
  rcases hs with rfl | rfl
  · exact mo rfl rfl q1
  · exact mo rfl rfl q2
theorem beq_swap (a b : Nat) : Nat.beq a b = Nat.beq b a := by
  rw [Bool.eq_iff_iff, Nat.beq_eq, Nat.beq_eq]
  exact ⟨fun h => h.symm, fun h => h.symm⟩
theorem mine_ok {c : Nat → Value} {x : Nat} (hf : ∀ s sp ch, [c s, str sp, str ch].all (vflat 8) = true) (hc : mine4 c x = (some Tr, some (same x), some (same x), some Tr)) {s : Nat} (hs : Slot x s) : mi (c s) [119] [99] 6 s ∧ mi (c s) [118] (nm x) (slT x) s := by
  unfold mine4 at hc
  obtain ⟨q1, hc⟩ := p2 hc
  obtain ⟨q2, hc⟩ := p2 hc
  obtain ⟨q3, q4⟩ := p2 hc
  rcases hs with rfl | rfl
  · refine ⟨mo (hf _ _ _) rfl q1, mo (hf _ _ _) rfl q2⟩
  · refine ⟨mo (hf _ _ _) rfl (q3.trans ?_), mo (hf _ _ _) rfl (q4.trans ?_)⟩
    · unfold same; rw [beq_swap]
    · rw [show Nat.beq (slT x) (slT x) = true from Nat.beq_refl _]
theorem mi_lock {x s : Nat} (h : x < 16) (hs : Slot x s) : mi (cLock x s) [119] [99] 6 s ∧ mi (cLock x s) [118] (nm x) (slT x) s :=
  mine_ok (c := cLock x) (fun _ _ _ => rfl) (p2 (map_mem (mine42 true []) x (in16 h))).1 hs
theorem mi_fin {x s : Nat} (h : x < 16) (hs : Slot x s) (ok : Bool) (d : List UInt8) : mi (cFin x s ok d) [119] [99] 6 s ∧ mi (cFin x s ok d) [118] (nm x) (slT x) s :=
  mine_ok (c := fun s => cFin x s ok d) (fun _ _ _ => rfl) (p2 (map_mem (mine42 ok d) x (in16 h))).2 hs
/-! ### Texts -/
theorem cat_ok {a b : List UInt8} (h : a.length + b.length < 9223372036854775808) : catP a b (a ++ b) := by
  show chk (Nat.blt (Nat.add (lenL a) (lenL b)) 9223372036854775808) (str (appL a b)) = some (str (a ++ b))
  rw [lenL_eq, lenL_eq, appL_eq, show Nat.blt (Nat.add a.length b.length) 9223372036854775808 = true from Nat.blt_eq ▸ h]
  rfl
noncomputable def v44 (n : Nat) : Bool := match val 44 [str (99 :: enc n), str [99]] with
  | some v => veq 8 v (.tuple ⟨[str (enc n), Tr]⟩)
  | none => false
theorem run44 : upTo v44 32 0 = upTo (fun _ => true) 32 0 := by kernel_rfl
theorem m44 {n : Nat} (h : n ≤ 31) : MemoOk Tryz.prog ⟨44, [str (99 :: enc n), str [99]], .tuple ⟨[str (enc n), Tr]⟩⟩ := by
  refine mo rfl rfl ?_
  have q := upTo_eq _ _ run44 n (Nat.zero_le _) (by omega)
  unfold v44 at q
  split at q
  · rename_i v hv
    rw [hv, veq_eq 8 _ _ q]
  · cases q
theorem enc_len {n : Nat} (h : n ≤ 31) : (enc n).length < 1000 := by
  unfold enc
  rw [List.length_append, List.length_flatten, List.map_replicate]
  have : ∀ k c : Nat, (List.replicate k c).sum = k * c := by
    intro k c
    induction k with
    | zero => simp
    | succ k ih => rw [List.replicate_succ, List.sum_cons, ih, Nat.succ_mul]; omega
  rw [this]
  simp only [List.length_cons, List.length_nil]
  omega
end Go.Proofs.YtgokkngepgnedaaGreatDoor.shardBoth
