import Derived.Test.YthapjgecggdliaaGreatDoorAbH
namespace Go.Ab
open Go
section
variable {P : Program} {B : Base}

/-! ## append -/
theorem nextslicecap_le {need old : Nat} (h : old < need) : Builtin.nextslicecap need old ≤ 8 * need + 8192 := by
  unfold Builtin.nextslicecap
  split
  · omega
  · split
    · omega
    · simp only [Builtin.growBy]
      repeat' split
      all_goals omega

def lenA : Value → Option Nat
  | .slice _ n _ => some n
  | .string s => some s.size
  | _ => none
def notIntT (P : Program) : Option TypeId → Bool
  | none => true
  | some t => match P.underlying t with
    | some (.int _) => false
    | some _ => true
    | none => false

def appendA (P : Program) (ts : Array TypeId) (args : Array Value) (h : AHeap) : Option (Value × AHeap) :=
  match ts[0]?, (args[0]? : Option Value), (args[1]? : Option Value) with
  | some t, some (.slice base n c), some x =>
    match P.underlying t, lenA x with
    | some (.slice elem), some k =>
      match P.info? elem with
      | some i =>
        match rowOf h i.size k x, notIntT P ts[1]?, i.zero with
        | some xs, true, some z =>
          if Nat.beq k 0 && xs.isEmpty then
            if Nat.ble n c then some (.slice base n c, h) else none
          else if !(Nat.blt h.next h.lim && Nat.blt 0 k && xs.all isCell && Nat.beq xs.length (k * i.size) && Nat.beq z.cells.size i.size && Nat.ble (n + k) (2 ^ 30) && Nat.ble i.bytes (2 ^ 14)) then none
          else if Nat.ble c HALF then
            if Nat.ble (n + k) c then
              match base with
              | some ⟨b, o, none⟩ =>
                match h.get b with
                | .cells L t' =>
                  if Nat.ble (o + (n + k) * i.size) L.len then
                    some (.slice base (n + k) c, h.put b (.cells (L.lay (o + n * i.size) xs) t'))
                  else none
                | _ => none
              | _ => none
            else
              match rowOf h i.size n (.slice base n c) with
              | some old => some (.slice (some ⟨h.next, 0, none⟩) (n + k) OPEN, h.push (.cells (Row.ofList (old ++ xs)) elem))
              | none => none
          else
            match base with
            | some ⟨b, o, none⟩ =>
              match h.get b with
              | .cells L t' =>
                if Nat.beq t' elem && Nat.beq o ((OPEN - c) * i.size) && Nat.beq (o + n * i.size) L.len then
                  some (.slice (some ⟨h.next, 0, none⟩) (n + k) OPEN, (h.put b .dead).push (.cells ((L.tail o).more xs) elem))
                else none
              | _ => none
            | _ => none
        | _, _, _ => none
      | none => none
    | _, _ => none
  | _, _, _ => none

/-- The place where append grows. -/
theorem run_append_grow {ts : Array TypeId} {t ty elem : TypeId} {args' : Array Value} {base' : Option Addr} {n cap k : Nat} {x' z : Value} {i : TypeInfo} {w : World} {old' xs' : Array Value}
    (h0 : ts[0]? = some t) (ht : P.underlying t = some (.slice elem)) (ha0 : args'[0]? = some (.slice base' n cap)) (ha1 : args'[1]? = some x') (hi : P.info? elem = some i)
    (hx : notIntT P ts[1]? = true) (hk : Builtin.lenOf x' = pure k) (hz : i.zero = some z) (hlim : n + k ≤ 2 ^ 30) (hb : i.bytes ≤ 2 ^ 14) (hcap : cap < n + k)
    (hold : (Builtin.firstCells i.size n (.slice base' n cap)).run P { w with drawn := w.drawn + 1 } = .ok old' { w with drawn := w.drawn + 1 })
    (hnew : (Builtin.firstCells i.size k x').run P { w with drawn := w.drawn + 1 } = .ok xs' { w with drawn := w.drawn + 1 }) :
    ∃ NC : Nat, n + k ≤ NC ∧ NC < 2 ^ 63 ∧ (Builtin.append_ ts ty args').run P w = .ok (.slice (some ⟨w.heap.size, 0, none⟩) (n + k) NC)
      { ({ w with drawn := w.drawn + 1 } : World) with heap := w.heap.push (.cells (old' ++ xs' ++ Builtin.zeroCells z.cells (NC - (n + k))) elem) } := by
  have hzt : ∀ w, (match ts[1]? with
      | some xType => (do pure ((← Go.underlying xType) matches .int _) : Sem Bool)
      | none => pure false).run P w = .ok false w := by
    intro w
    unfold notIntT at hx
    cases h1 : ts[1]? with
    | none => rfl
    | some t1 =>
      rw [h1] at hx
      dsimp only at hx ⊢
      cases hu : P.underlying t1 with
      | none => rw [hu] at hx; cases hx
      | some d =>
        rw [hu] at hx
        simp only [Sem.run_bind, run_underlying hu, Result.andThen_ok]
        cases d <;> first | rfl | simp at hx
  have hlimit : ¬ Builtin.nextslicecap (n + k) cap * i.bytes > 2 ^ 48 := by
    have h1 := nextslicecap_le hcap
    have h2 : Builtin.nextslicecap (n + k) cap * i.bytes ≤ (8 * 2 ^ 30 + 8192) * 2 ^ 14 := Nat.mul_le_mul (by omega) hb
    omega
  have hc0 : ¬ (n + k ≤ cap) := by omega
  have hzv : ∀ w, (Go.zeroValue elem).run P w = .ok z w := by
    intro w
    simp [Go.zeroValue, Go.typeInfo, hi, hz, Go.program, Sem.run]
  let w1 : World := { w with drawn := w.drawn + 1 }
  let NC := Question.cut (.appendCap (n + k) cap elem) (w.tape w.drawn (.appendCap (n + k) cap elem))
  have hNC : n + k ≤ NC ∧ NC < 2 ^ 63 := by
    show n + k ≤ n + k + _ % (2 ^ 63 - (n + k)) ∧ n + k + _ % (2 ^ 63 - (n + k)) < 2 ^ 63
    have := Nat.mod_lt (w.tape w.drawn (.appendCap (n + k) cap elem)) (show 2 ^ 63 - (n + k) > 0 by omega)
    omega
  refine ⟨NC, hNC.1, hNC.2, ?_⟩
  have hroom : ∀ (nb : Nat) w, (Go.askRoom nb).run P w = .ok () w := by
    intro nb w
    unfold Go.askRoom
    split <;> rfl
  have e1 : (Builtin.firstCells i.size n (.slice base' n cap)).run P w1 = .ok old' w1 := hold
  have e2 : (Builtin.firstCells i.size k x').run P w1 = .ok xs' w1 := hnew
  have hti : ∀ w, (Go.typeInfo elem).run P w = .ok i w := by
    intro w
    simp [Go.typeInfo, hi, Go.program, Sem.run]
  have h63 : ¬ (((n + k : Nat) : Int) > IntKind.i64.max) := by
    have : IntKind.i64.max = 9223372036854775807 := rfl
    rw [this]; omega
  have hb1 : ((TypeDesc.int .i8 matches .int _) : Bool) = true := rfl
  have fin : (do
      let newCap ← choose (.appendCap (n + k) cap elem)
      Go.askRoom (newCap * (← Go.typeInfo elem).bytes)
      let old ← Builtin.firstCells i.size n (.slice base' n cap)
      let new ← Builtin.firstCells i.size k x'
      let rest := Builtin.zeroCells (← Go.zeroValue elem).cells (newCap - (n + k))
      pure (.slice (some (← Go.newRow elem (old ++ new ++ rest))) (n + k) newCap) : Sem Value).run P w = .ok (.slice (some ⟨w.heap.size, 0, none⟩) (n + k) NC)
      { ({ w with drawn := w.drawn + 1 } : World) with heap := w.heap.push (.cells (old' ++ xs' ++ Builtin.zeroCells z.cells (NC - (n + k))) elem) } := by
    have hch : (choose (.appendCap (n + k) cap elem)).run P w = .ok NC w1 := by
      simp [choose, Sem.run, Question.forced, NC, w1]
    simp only [Sem.run_bind, hch, Result.andThen_ok, hti, hroom, e1, e2, hzv, Go.newRow, Sem.run_pure]
    rfl
  cases h1 : ts[1]? with
  | none =>
    simp only [Builtin.append_, h0, ha0, ha1, Sem.run_bind, run_underlying ht, Result.andThen_ok, run_sizeOf' hi, h1, pure_bind, Bool.false_eq_true, if_false, hk, if_neg hc0, hti, h63, false_and, if_neg hlimit, Bool.not_false, if_true]
    simpa only [Sem.run_bind, hti, Result.andThen_ok] using fin
  | some t1 =>
    unfold notIntT at hx
    rw [h1] at hx
    dsimp only at hx
    cases hu : P.underlying t1 with
    | none => rw [hu] at hx; cases hx
    | some d =>
      rw [hu] at hx
      simp only [Builtin.append_, h0, ha0, ha1, Sem.run_bind, run_underlying ht, Result.andThen_ok, run_sizeOf' hi, h1, run_underlying hu]
      cases d <;> first
        | (simp at hx; done)
        | (simp only [pure_bind, Bool.false_eq_true, if_false, hk, if_neg hc0, hti, h63, false_and, if_neg hlimit, Bool.not_false, if_true, Sem.run_bind, Sem.run_pure, Result.andThen_ok]
           simpa only [Sem.run_bind, Sem.run_pure, hti, Result.andThen_ok] using fin)
/-- The place where there is room. -/
theorem run_append_room' {ts : Array TypeId} {t ty elem : TypeId} {args' : Array Value} {base' : Option Addr} {n cap k : Nat} {x' : Value} {i : TypeInfo} {w w2 : World} {xs' : Array Value}
    (h0 : ts[0]? = some t) (ht : P.underlying t = some (.slice elem)) (ha0 : args'[0]? = some (Value.slice base' n cap)) (ha1 : args'[1]? = some x') (hi : P.info? elem = some i)
    (hx : notIntT P ts[1]? = true) (hk : Builtin.lenOf x' = pure k) (hcap : n + k ≤ cap)
    (hnew : (Builtin.firstCells i.size k x').run P w = .ok xs' w)
    (hst : match base' with | some a => (Go.storeCells (a.add (n * i.size)) xs'.toList).run P w = .ok () w2 | none => w2 = w) :
    (Builtin.append_ ts ty args').run P w = .ok (Value.slice base' (n + k) cap) w2 := by
  cases h1 : ts[1]? with
  | none =>
    cases base' with
    | none =>
      simp only at hst; subst hst
      simp only [Builtin.append_, h0, ha0, ha1, Sem.run_bind, run_underlying ht, Result.andThen_ok, run_sizeOf' hi, h1, pure_bind, Bool.false_eq_true, if_false, hk, if_pos hcap, Bool.not_false, if_true, hnew, Sem.run_pure]
    | some a =>
      dsimp only at hst
      simp only [Builtin.append_, h0, ha0, ha1, Sem.run_bind, run_underlying ht, Result.andThen_ok, run_sizeOf' hi, h1, pure_bind, Bool.false_eq_true, if_false, hk, if_pos hcap, Bool.not_false, if_true, hnew, Sem.run_pure, hst]
  | some t1 =>
    unfold notIntT at hx
    rw [h1] at hx
    dsimp only at hx
    cases hu : P.underlying t1 with
    | none => rw [hu] at hx; cases hx
    | some d =>
      rw [hu] at hx
      cases base' with
      | none =>
        simp only at hst; subst hst
        simp only [Builtin.append_, h0, ha0, ha1, Sem.run_bind, run_underlying ht, Result.andThen_ok, run_sizeOf' hi, h1, run_underlying hu]
        cases d <;> first
          | (simp at hx; done)
          | simp only [pure_bind, Bool.false_eq_true, if_false, hk, if_pos hcap, Bool.not_false, if_true, Sem.run_bind, Sem.run_pure, Result.andThen_ok, hnew]
      | some a =>
        dsimp only at hst
        simp only [Builtin.append_, h0, ha0, ha1, Sem.run_bind, run_underlying ht, Result.andThen_ok, run_sizeOf' hi, h1, run_underlying hu]
        cases d <;> first
          | (simp at hx; done)
          | simp only [pure_bind, Bool.false_eq_true, if_false, hk, if_pos hcap, Bool.not_false, if_true, Sem.run_bind, Sem.run_pure, Result.andThen_ok, hnew, hst]

theorem lenA_rel {m : Mu} {v v' : Value} {k : Nat} (h : VRel m v v') (hk : lenA v = some k) : Builtin.lenOf v' = pure k ∧ (∀ a c, v = .slice (some a) 0 c → k = 0) := by
  cases h <;> simp only [lenA] at hk <;> first
    | (cases hk; done)
    | (obtain rfl := Option.some.inj hk
       refine ⟨rfl, fun a c e => ?_⟩
       first | (cases e; rfl) | (cases e))

theorem toArray_append_rel {m : Mu} {a b : List Value} {a' b' : Array Value} (h1 : ARel m a.toArray a') (h2 : ARel m b.toArray b') : ARel m (a ++ b).toArray (a' ++ b') := by
  have : (a ++ b).toArray = a.toArray ++ b.toArray := by simp
  rw [this]; exact h1.append h2

theorem cells_of_rel {m : Mu} {xs : List Value} {xs' rest : Array Value} (h : ARel m xs.toArray xs') (i : Nat) (v : Value) (hv : xs[i]? = some v) : ∃ v', (xs' ++ rest)[0 + i]? = some v' ∧ VRel m v v' := by
  have : xs.toArray[i]? = some v := by simpa using hv
  obtain ⟨v', h1, h2⟩ := h.get? this
  refine ⟨v', ?_, h2⟩
  rw [Nat.zero_add, Array.getElem?_append]
  have hi : i < xs'.size := by
    rcases Nat.lt_or_ge i xs'.size with x | x
    · exact x
    · rw [Array.getElem?_eq_none x] at h1; cases h1
  rw [if_pos hi]; exact h1

theorem isCell_rel {m : Mu} {v v' : Value} (h : VRel m v v') (hc : isCell v = true) : isCell v' = true := by
  cases h <;> first | rfl | (simp [isCell] at hc; done) | (rename_i h1 h2; revert h1 h2; cases v' <;> intro h1 h2 <;> first | rfl | exact absurd rfl (h1 _) | exact absurd rfl (h2 _))
theorem isCells_rel {m : Mu} {xs : List Value} {xs' : Array Value} (h : ARel m xs.toArray xs') (hc : xs.all isCell = true) : ∀ v ∈ xs'.toList, isCell v = true := by
  intro v hv
  obtain ⟨i, hi, rfl⟩ := List.mem_iff_getElem.1 hv
  have hi' : i < xs'.size := by simpa using hi
  have hi2 : i < xs.toArray.size := by rw [h.1]; exact hi'
  have := h.2 i hi2 hi'
  refine isCell_rel (v := xs.toArray[i]) (by simpa using this) ?_
  exact List.all_eq_true.1 hc _ (by simp)

theorem rowOf_len {h : AHeap} {size n c : Nat} {base : Option Addr} {xs : List Value} (hx : rowOf h size n (.slice base n c) = some xs) : xs.length = n * size := by
  cases base with
  | none =>
    simp only [rowOf] at hx
    split at hx
    · rename_i e; obtain rfl := Option.some.inj hx; simp [e]
    · cases hx
  | some a =>
    simp only [rowOf] at hx
    split at hx
    · split at hx
      · obtain rfl := Option.some.inj hx; exact Row.part_length _ _ _
      · cases hx
    · cases hx

theorem zeroCells_size (z : Array Value) (n : Nat) : (Builtin.zeroCells z n).size = n * z.size := by simp [Builtin.zeroCells]

theorem Addr_add_none (k o n : Nat) : ((⟨k, o, none⟩ : Addr).add n) = ⟨k, o + n, none⟩ := by unfold Addr.add; split <;> simp_all

theorem appendA_sound {m : Mu} {ts : Array TypeId} {ty : TypeId} {args args' : Array Value} {h h' : AHeap} {v : Value} {w : World} (ha : ARel m args args') (hr : Rel P B m h w)
    (he : appendA P ts args h = some (v, h')) :
    ∃ v' w' m', (Builtin.append_ ts ty args').run P w = .ok v' w' ∧ Ext h m m' ∧ Rel P B m' h' w' ∧ VRel m' v v' := by
  unfold appendA at he
  split at he <;> try (cases he; done)
  rename_i t base n c x h0 hA0 hA1
  split at he <;> try (cases he; done)
  rename_i elem k ht hk
  split at he <;> try (cases he; done)
  rename_i i hi
  split at he <;> try (cases he; done)
  rename_i xs z hxs hnot hz
  obtain ⟨s', hs0, hs⟩ := ha.get? hA0
  obtain ⟨x', hx0, hx⟩ := ha.get? hA1
  obtain ⟨hlen, hzero⟩ := lenA_rel hx hk
  obtain ⟨xs', hrun, hxr⟩ := rowOf_sound hr hx hxs hzero
  split at he
  · -- nothing is appended
    rename_i hk0
    simp only [Bool.and_eq_true, Nat.beq_eq, List.isEmpty_iff] at hk0
    obtain ⟨rfl, rfl⟩ := hk0
    split at he <;> try (cases he; done)
    rename_i hlim
    simp only [Nat.ble_eq] at hlim
    simp only [Option.some.injEq, Prod.mk.injEq] at he
    obtain ⟨rfl, rfl⟩ := he
    have hxs0 : xs'.toList = [] := by
      have h2 := hxr.1
      simpa using h2.symm
    have go : ∀ base' cap', s' = .slice base' n cap' → n ≤ cap' → (Builtin.append_ ts ty args').run P w = .ok s' w := by
      intro base' cap' e hle
      subst e
      refine run_append_room' h0 ht hs0 hx0 hi hnot hlen (by omega) hrun ?_
      cases base' with
      | none => rfl
      | some a => dsimp only; rw [hxs0]; rfl
    refine ⟨s', w, m, ?_, Ext.refl _ m, hr, hs⟩
    cases hs with
    | nilSlice => exact go _ _ rfl hlim
    | slice b o _ _ l hm hc => exact go _ _ rfl hlim
    | oslice b o _ k l hm h1 h2 h3 => exact go _ _ rfl h3
    | oslice0 b o k l a hm h1 h2 => exact go _ _ rfl (Nat.le_refl _)
  · split at he <;> try (cases he; done)
    rename_i hchk
    simp only [Bool.not_eq_true', Bool.and_eq_true, Nat.beq_eq, Nat.ble_eq, Nat.blt_eq, Bool.not_eq_false] at hchk
    obtain ⟨⟨⟨⟨⟨⟨hwin, hk0⟩, hcells⟩, hxl⟩, hzs⟩, hlim⟩, hbytes⟩ := hchk
    -- what growing gives
    have grow : ∀ (hk' : AHeap) (base' : Option Addr) (cap' : Nat) (old : List Value) (R : Row), R.len = (old ++ xs).length → (∀ j : Nat, R.get? j = (old ++ xs)[j]?) → s' = .slice base' n cap' → cap' < n + k → Rel P B m hk' w → hk'.next = h.next → hk'.lim = h.lim → rowOf h i.size n (.slice base n c) = some old →
        ∃ v' w' m', (Builtin.append_ ts ty args').run P w = .ok v' w' ∧ Ext h m m' ∧ Rel P B m' (hk'.push (.cells R elem)) w' ∧ VRel m' (.slice (some ⟨h.next, 0, none⟩) (n + k) OPEN) v' := by
      intro hk' base' cap' old R hRl hRg e hcap hrk hnext hlim2 hold
      subst e
      obtain ⟨old', hro, hor⟩ := rowOf_sound hr.drew hs hold (fun a k e => by cases e; rfl)
      obtain ⟨xs2, hrx, hxr2⟩ := rowOf_sound hr.drew hx hxs hzero
      obtain ⟨NC, hN1, hN2, hrunA⟩ := run_append_grow (ty := ty) h0 ht hs0 hx0 hi hnot hlen hz hlim hbytes hcap hro hrx
      have hrk' := hrk.drew
      have hwin2 : hk'.next < hk'.lim := by rw [hnext, hlim2]; exact hwin
      have hle : Mu.le m (m.add hk'.next ⟨w.heap.size, 0, NC⟩) := Mu.le_add (hrk'.fresh _ (Nat.le_refl _) hwin2).2
      have hext : Ext h m (m.add hk'.next ⟨w.heap.size, 0, NC⟩) := by
        have := Ext.add (l := ⟨w.heap.size, 0, NC⟩) (hrk'.fresh _ (Nat.le_refl _) hwin2).2 hwin2
        exact ⟨this.1, fun b hb => this.2 b (by rw [hnext, hlim2]; exact hb)⟩
      refine ⟨_, _, _, hrunA, hext, hrk'.alloc hwin2 NC (.cells R elem) _ ⟨_, (0, 0), heap_push_self _ _, ?_, ?_, ?_, ?_⟩, ?_⟩
      · intro j _ hj; omega
      · have a1 := hor.1; have a2 := hxr2.1
        rw [hRl]
        simp at a1 a2 ⊢; omega
      · intro j v hv
        rw [hRg] at hv
        obtain ⟨v', hv1, hv2⟩ := cells_of_rel (rest := Builtin.zeroCells z.cells (NC - (n + k))) (toArray_append_rel hor hxr2) j v hv
        exact ⟨v', hv1, hv2.mono hle⟩
      · intro s hs
        rw [hi] at hs
        obtain rfl := Option.some.inj hs
        have a1 := hor.1; have a2 := hxr2.1
        have a3 := rowOf_len hold
        simp only [List.size_toArray] at a1 a2
        simp only [Nat.zero_add, Array.size_append, zeroCells_size, hzs, ← a1, ← a2, a3, hxl]
        rw [← Nat.add_mul, ← Nat.add_mul]
        exact ⟨Nat.mul_le_mul_right _ (by omega), Nat.zero_mod _⟩
      · have := VRel.oslice (m := m.add hk'.next ⟨w.heap.size, 0, NC⟩) hk'.next 0 (n + k) 0 ⟨w.heap.size, 0, NC⟩ (Mu.add_self _ _ _) (Nat.zero_le _) (by unfold HALF; omega) (by simpa using hN1)
        rw [hnext] at this
        simpa [hnext] using this
    split at he
    · rename_i hcH
      simp only [Nat.ble_eq] at hcH
      split at he
      · -- in place, within what is known
        rename_i hroom
        simp only [Nat.ble_eq] at hroom
        split at he <;> try (cases he; done)
        rename_i b o
        split at he <;> try (cases he; done)
        rename_i L t' hb
        split at he <;> try (cases he; done)
        rename_i hin
        simp only [Nat.ble_eq] at hin
        have hsum0 : (n + k) * i.size = n * i.size + k * i.size := Nat.add_mul _ _ _
        have hlay := fun j => Row.lay_get? L (o + n * i.size) xs j (by omega)
        simp only [Option.some.injEq, Prod.mk.injEq] at he
        obtain ⟨rfl, rfl⟩ := he
        cases hs with
        | oslice _ _ _ k l hm h1 h2 h3 => unfold OPEN at hcH; unfold HALF at *; omega
        | oslice0 _ _ k l a hm h1 h2 => unfold OPEN at hcH; unfold HALF at *; omega
        | slice _ _ _ _ l hm hc =>
          obtain ⟨l', hl', hp', hok⟩ := hr.obj b (by rw [hb]; intro h; cases h)
          obtain rfl : l = l' := by rw [hm] at hl'; exact Option.some.inj hl'
          rw [hb] at hok
          obtain ⟨C, fr, q1, q2, q3, q4, q5⟩ := hok
          have hxl' : xs'.toList.length = k * i.size := by have := hxr.1; simp at this ⊢; omega
          have hsum : (n + k) * i.size = n * i.size + k * i.size := Nat.add_mul _ _ _
          obtain ⟨w2, r1, r2, r3, r4, _, r5, C', r6, r7, r8⟩ := run_storeCells (P := P) (k := l.blk) (t := t') (fr := fr) xs'.toList (l.off + o + n * i.size) 0 w C q1 (isCells_rel hxr hcells) (by rw [hxl']; omega) q2
          refine ⟨_, w2, m, run_append_room' h0 ht hs0 hx0 hi hnot hlen hroom hrun (by dsimp only; rw [Addr_add_none]; exact r1), Ext.refl _ m, ?_, .slice _ _ _ _ _ hm hc⟩
          refine hr.update (by rw [hb]; intro h; cases h) hm r2 r3 r4 r5 ⟨C', fr, r6, ?_, ?_, ?_, ?_⟩
          · rw [r7]; exact q2
          · rw [r7]; exact q3
          · intro j v hv
            rw [hlay] at hv
            rw [r8]
            by_cases c1 : j < o + n * i.size
            · rw [if_neg (by omega)]
              rw [if_neg (by omega)] at hv
              exact q4 j v hv
            · by_cases c2 : j < o + (n + k) * i.size
              · rw [if_pos (by rw [hxl']; omega)]
                have hv2 : xs[j - (o + n * i.size)]? = some v := by
                  rw [if_pos (by omega)] at hv
                  exact hv
                obtain ⟨v', hv1, hv3⟩ := hxr.get? (i := j - (o + n * i.size)) (v := v) (by simpa using hv2)
                refine ⟨v', ?_, hv3⟩
                rw [show l.off + j - (l.off + o + n * i.size + 0) = j - (o + n * i.size) by omega]
                simpa using hv1
              · rw [if_neg (by rw [hxl']; omega)]
                rw [if_neg (by omega)] at hv
                exact q4 j v hv
          · rw [r7]; exact q5
      · -- it grows
        rename_i hroom
        simp only [Nat.ble_eq, Nat.not_le] at hroom
        split at he <;> try (cases he; done)
        rename_i old hold
        simp only [Option.some.injEq, Prod.mk.injEq] at he
        obtain ⟨rfl, rfl⟩ := he
        cases hs with
        | nilSlice => exact grow h none c old _ (Row.ofList_len _) (Row.ofList_get? _) rfl (by omega) hr rfl rfl hold
        | slice _ _ _ _ l hm hc => exact grow h _ c old _ (Row.ofList_len _) (Row.ofList_get? _) rfl (by omega) hr rfl rfl hold
        | oslice _ _ _ k l hm h1 h2 h3 => unfold OPEN at hcH; unfold HALF at *; omega
        | oslice0 _ _ k l a hm h1 h2 => unfold OPEN at hcH; unfold HALF at *; omega
    · rename_i hcH
      simp only [Nat.ble_eq, Nat.not_le] at hcH
      split at he <;> try (cases he; done)
      rename_i b o
      split at he <;> try (cases he; done)
      rename_i L t' hb
      split at he <;> try (cases he; done)
      rename_i hin
      simp only [Bool.and_eq_true, Nat.beq_eq] at hin
      obtain ⟨⟨rfl, ho⟩, hend⟩ := hin
      simp only [Option.some.injEq, Prod.mk.injEq] at he
      obtain ⟨rfl, rfl⟩ := he
      have hkill := hr.kill b
      have hold : rowOf h i.size n (.slice (some ⟨b, o, none⟩) n c) = some (L.part o (n * i.size)) := by
        simp only [rowOf, hb, rowIn]
        rw [show Nat.ble (o + n * i.size) L.len = true by simp; omega]
      have hRl : ((L.tail o).more xs).len = (L.part o (n * i.size) ++ xs).length := by
        simp only [Row.more, Row.tail_len, List.length_append, Row.part_length]; omega
      have hRg : ∀ j : Nat, ((L.tail o).more xs).get? j = (L.part o (n * i.size) ++ xs)[j]? := by
        intro j
        rw [Row.more_get?, Row.tail_len]
        by_cases c1 : j < n * i.size
        · rw [if_pos (by omega), List.getElem?_append_left (by rw [Row.part_length]; exact c1), Row.part_get? _ _ _ _ (by omega) c1, Row.tail_get?]
        · rw [if_neg (by omega), List.getElem?_append_right (by rw [Row.part_length]; omega), Row.part_length]
          congr 1; omega
      cases hs with
      | slice _ _ _ _ l hm hc => omega
      | oslice0 _ _ k0 l a hm h1 h2 =>
        exact grow (h.put b .dead) (some a) 0 _ _ hRl hRg rfl (by omega) hkill rfl rfl hold
      | oslice _ _ _ k0 l hm h1 h2 h3 =>
        have ek : OPEN - (OPEN - k0) = k0 := by unfold OPEN; unfold HALF at *; omega
        rw [ek] at ho
        by_cases hroom : n + k ≤ l.cap - k0
        · obtain ⟨l', hl', hp', hok⟩ := hr.obj b (by rw [hb]; intro h; cases h)
          obtain rfl : l = l' := by rw [hm] at hl'; exact Option.some.inj hl'
          rw [hb] at hok
          obtain ⟨C, fr, q1, q2, q3, q4, q5⟩ := hok
          obtain ⟨hcapC, halign⟩ := q5 i.size (by rw [hi]; rfl)
          have hxl' : xs'.toList.length = k * i.size := by have := hxr.1; simp at this ⊢; omega
          have hsum : (k0 + (n + k)) * i.size = k0 * i.size + (n * i.size + k * i.size) := by rw [Nat.add_mul, Nat.add_mul]
          have hle2 : (k0 + (n + k)) * i.size ≤ l.cap * i.size := Nat.mul_le_mul_right _ (by omega)
          obtain ⟨w2, r1, r2, r3, r4, r4s, r5, C', r6, r7, r8⟩ := run_storeCells (P := P) (k := l.blk) (t := t') (fr := fr) xs'.toList (l.off + o + n * i.size) 0 w C q1 (isCells_rel hxr hcells) (by rw [hxl']; omega) q2
          have hext : Ext h m (m.add h.next ⟨l.blk, l.off + o, l.cap - k0⟩) := Ext.add (hr.fresh _ (Nat.le_refl _) hwin).2 hwin
          have hle := hext.1
          refine ⟨_, w2, m.add h.next ⟨l.blk, l.off + o, l.cap - k0⟩, run_append_room' h0 ht hs0 hx0 hi hnot hlen hroom hrun (by dsimp only; rw [Addr_add_none]; exact r1), hext, ?_, ?_⟩
          · refine Rel.push (w := w) (l := ⟨l.blk, l.off + o, l.cap - k0⟩) hkill hwin r2 r3 r4 (fun k _ hk => r5 k hk) (protOf_none hp' (by rw [hb]; rfl)) ?_ ⟨C', fr, r6, ?_, ?_, ?_, ?_⟩
            · intro b2 l2 hb2 hl2 e
              rw [AHeap.get_put] at hb2
              by_cases e2 : b2 = b
              · rw [if_pos e2] at hb2; exact hb2 rfl
              · rw [if_neg e2] at hb2
                exact e2 (hr.sep b2 b l2 l hb2 (by rw [hb]; intro h; cases h) (by rw [hb]; rfl) hl2 hm e)
            · rw [r7]; exact q2
            · rw [r7, hRl]; simp [Row.part_length]; omega
            · intro j v hv
              rw [hRg] at hv
              rw [r8]
              by_cases c1 : j < n * i.size
              · rw [if_neg (by dsimp only; omega)]
                rw [List.getElem?_append_left (by rw [Row.part_length]; omega), Row.part_get? _ _ _ _ (by omega) c1] at hv
                obtain ⟨v', hv1, hv2⟩ := q4 _ v hv
                exact ⟨v', by dsimp only; rw [← hv1]; congr 1; omega, hv2.mono hle⟩
              · have hv2 : xs[j - n * i.size]? = some v := by
                  rw [List.getElem?_append_right (by rw [Row.part_length]; omega), Row.part_length] at hv
                  exact hv
                obtain ⟨v', hv1, hv3⟩ := hxr.get? (i := j - n * i.size) (v := v) (by simpa using hv2)
                have hj : j - n * i.size < k * i.size := by
                  rcases Nat.lt_or_ge (j - n * i.size) xs.length with x | x
                  · omega
                  · rw [List.getElem?_eq_none x] at hv2; cases hv2
                rw [if_pos (by dsimp only; rw [hxl']; omega)]
                refine ⟨v', ?_, hv3.mono hle⟩
                dsimp only
                rw [show l.off + o + j - (l.off + o + n * i.size + 0) = j - n * i.size by omega]
                simpa using hv1
            · intro s hs
              rw [hi] at hs
              obtain rfl := Option.some.inj hs
              rw [r7]
              dsimp only
              have : (l.cap - k0) * i.size + k0 * i.size = l.cap * i.size := by rw [← Nat.add_mul]; congr 1; omega
              refine ⟨by omega, ?_⟩
              rw [ho, Nat.add_mul_mod_self_right]
              exact halign
          · have := VRel.oslice (m := m.add h.next ⟨l.blk, l.off + o, l.cap - k0⟩) h.next 0 (n + k) 0 ⟨l.blk, l.off + o, l.cap - k0⟩ (Mu.add_self _ _ _) (Nat.zero_le _) (by unfold HALF; omega) (by simpa using hroom)
            simpa using this
        · exact grow (h.put b .dead) _ _ _ _ hRl hRg rfl (by omega) hkill rfl rfl hold
end
end Go.Ab
