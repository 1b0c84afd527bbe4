import Derived.Test.YthapjgecggdliaaGreatDoorAbI
namespace Go.Ab
open Go
section
variable {P : Program} {B : Base}

/-! ## Conversions -/
def takeBytes : List Value → ByteArray → Option ByteArray
  | [], acc => some acc
  | .int .u8 n :: rest, acc => takeBytes rest (acc.push (UInt8.ofNat n.toNat))
  | _ :: _, _ => none

theorem run_forIn_take {f : Value → ByteArray → Sem (ForInStep ByteArray)} {w : World}
    (hf : ∀ (n : Int) (r : ByteArray), (f (.int .u8 n) r).run P w = .ok (.yield (r.push (UInt8.ofNat n.toNat))) w) :
    ∀ (l l' : List Value) (acc s : ByteArray) (m : Mu), l.length = l'.length → (∀ i (h : i < l.length) (h' : i < l'.length), VRel m l[i] l'[i]) → takeBytes l acc = some s →
      (forIn l' acc f).run P w = .ok s w := by
  intro l
  induction l with
  | nil =>
    intro l' acc s m hl _ h
    cases l' with
    | nil => simp only [takeBytes, Option.some.injEq] at h; subst h; simp
    | cons x xs => simp at hl
  | cons v l ih =>
    intro l' acc s m hl hr h
    cases l' with
    | nil => simp at hl
    | cons v' l' =>
      have h0 : VRel m v v' := hr 0 (by simp) (by simp)
      cases v with
      | int k n =>
        cases k <;> simp only [takeBytes] at h <;> try (cases h; done)
        cases h0
        simp only [List.forIn_cons, Sem.run_bind, hf, Result.andThen_ok]
        exact ih l' _ s m (by simpa using hl) (fun i a b => by have := hr (i + 1) (by simpa using a) (by simpa using b); simpa using this) h
      | _ => simp [takeBytes] at h

def takeL : List Value → Option (List UInt8)
  | [] => some []
  | .int .u8 n :: rest => match takeL rest with | some l => some (UInt8.ofNat n.toNat :: l) | none => none
  | _ :: _ => none
theorem takeL_take : ∀ (xs : List Value) (l : List UInt8) (acc : ByteArray), takeL xs = some l → takeBytes xs acc = some ⟨acc.data ++ l.toArray⟩ := by
  intro xs
  induction xs with
  | nil => intro l acc h; simp only [takeL, Option.some.injEq] at h; subst h; simp [takeBytes]
  | cons v xs ih =>
    intro l acc h
    unfold takeL at h
    split at h
    · rename_i e; cases e
    · rename_i n rest e
      cases e
      split at h
      · rename_i l0 h0
        obtain rfl := Option.some.inj h
        simp only [takeBytes]
        rw [ih l0 _ h0]
        simp [ByteArray.push]
      · cases h
    · cases h
/-- 'string(bytes)': what is read. -/
def bytesA (h : AHeap) : Value → Option ByteArray
  | .slice none _ _ => some .empty
  | .slice (some a) n c => match rowOf h 1 n (.slice (some a) n c) with
    | some xs => match takeL xs with
      | some l => some ⟨⟨l⟩⟩
      | none => none
    | none => none
  | _ => none

theorem loadCells_zero (a : Addr) (w : World) : (Go.loadCells a 0).run P w = .ok #[] w := rfl

theorem bytesA_sound {m : Mu} {h : AHeap} {w : World} (hr : Rel P B m h w) {v v' : Value} {s : ByteArray} (hv : VRel m v v') (hx : bytesA h v = some s) :
    (Conv.bytesToString v').run P w = .ok (.string s) w := by
  have main : ∀ (a a' : Addr) (n c c' : Nat), VRel m (.slice (some a) n c) (.slice (some a') n c') → bytesA h (.slice (some a) n c) = some s → (Conv.bytesToString (.slice (some a') n c')).run P w = .ok (.string s) w := by
    intro a a' n c c' hv hx
    simp only [bytesA] at hx
    split at hx
    · rename_i xs hxs
      split at hx <;> try (cases hx; done)
      rename_i l hl
      obtain rfl := Option.some.inj hx
      have hx := takeL_take xs l .empty hl
      rw [show (⟨ByteArray.empty.data ++ l.toArray⟩ : ByteArray) = ⟨⟨l⟩⟩ by simp [ByteArray.empty, ByteArray.emptyWithCapacity]; rfl] at hx
      obtain ⟨xs', hrun, hrel⟩ := rowOf_sound hr hv hxs (fun a k e => by cases e; rfl)
      simp only [Builtin.firstCells, Nat.mul_one] at hrun
      unfold Conv.bytesToString
      simp only [Sem.run_bind, hrun, Result.andThen_ok]
      rw [← Array.forIn_toList]
      rw [run_forIn_take (P := P) (by intro n r; simp) xs xs'.toList .empty _ m (by have := hrel.1; simpa using this) (fun i a b => by have := hrel.2 i (by simpa using a) (by simpa using b); simpa using this) hx]
      simp
    · cases hx
  cases hv <;> try (simp [bytesA] at hx; done)
  · simp only [bytesA, Option.some.injEq] at hx
    subst hx; rfl
  · rename_i b o n c l hm hc
    exact main _ _ _ _ _ (.slice b o n c l hm hc) hx
  · rename_i b o n k l hm h1 h2 h3
    exact main _ _ _ _ _ (.oslice b o n k l hm h1 h2 h3) hx
  · rename_i b o k l a hm h1 h2
    exact main _ _ _ _ _ (.oslice0 b o k l a hm h1 h2) hx

/-- '[]byte(s)'. -/
theorem stringToBytes_sound {m : Mu} {h : AHeap} {w : World} (hr : Rel P B m h w) (hwin : h.next < h.lim) {e : TypeId} {i : TypeInfo} (hi : P.info? e = some i) (hs1 : i.size = 1) (s : ByteArray) (hlen : s.size < 2 ^ 40) :
    ∃ v' w' m', (Conv.stringToBytes e s).run P w = .ok v' w' ∧ Ext h m m' ∧ Rel P B m' (h.push (.cells (Row.ofList (bytesOf s)) e)) w' ∧ VRel m' (.slice (some ⟨h.next, 0, none⟩) s.size OPEN) v' := by
  let NC := Question.cut (.appendCap s.size 0 e) (w.tape w.drawn (.appendCap s.size 0 e))
  have hNC : s.size ≤ NC ∧ NC < 2 ^ 63 := by
    show s.size ≤ s.size + _ % (2 ^ 63 - s.size) ∧ s.size + _ % (2 ^ 63 - s.size) < 2 ^ 63
    have := Nat.mod_lt (w.tape w.drawn (.appendCap s.size 0 e)) (show 2 ^ 63 - s.size > 0 by omega)
    omega
  let w1 : World := { w with drawn := w.drawn + 1 }
  let elems : Array Value := s.data.map fun b => Value.int .u8 b.toNat
  let C : Array Value := elems ++ Array.replicate (NC - s.size) (.int .u8 0)
  have hsz : s.data.size = s.size := rfl
  have hCs : C.size = NC := by simp [C, elems, hsz]; omega
  have hrun : (Conv.stringToBytes e s).run P w = .ok (.slice (some ⟨w.heap.size, 0, none⟩) s.size NC) (({ w1 with heap := w.heap.push (.cells C e) } : World).freeze ⟨w.heap.size, C.size, none⟩ 1) := by
    have hch : (choose (.appendCap s.size 0 e)).run P w = .ok NC w1 := by
      simp [choose, Sem.run, Question.forced, NC, w1]
    unfold Conv.stringToBytes markStringish
    simp only [Sem.run_bind, hch, Result.andThen_ok, Go.newRow, run_newObj, Sem.run_pure, run_shape]
    have hsh : ({ w1 with heap := w1.heap.push (.cells C e) } : World).shape? w1.heap.size = some (e, C.size) := by
      simp [World.shape?]
    show ((match World.shape? ({ w1 with heap := w1.heap.push (.cells C e) } : World) w1.heap.size with | some (_, n) => Go.freeze ⟨w1.heap.size, n, none⟩ 1 | _ => pure ()).run P _).andThen _ = _
    rw [hsh]
    simp only [run_freeze, Result.andThen_ok]
    rfl
  have hfz : (({ w1 with heap := w.heap.push (.cells C e) } : World).freeze ⟨w.heap.size, C.size, none⟩ 1) = { w1 with heap := w.heap.push (.cells C e (C.size, C.size + 1)) } := by
    unfold World.freeze
    rw [if_neg (by omega)]
    congr 1
    apply Array.ext_getElem?
    intro j
    rw [Array.getElem?_modify, Array.getElem?_push, Array.getElem?_push]
    by_cases e1 : j = w.heap.size
    · subst e1; simp
    · rw [if_neg e1, if_neg e1, if_neg (by simpa using fun h => e1 h.symm)]
  rw [hfz] at hrun
  have hr1 := hr.drew
  refine ⟨_, _, _, hrun, Ext.add (hr1.fresh _ (Nat.le_refl _) hwin).2 hwin, hr1.alloc hwin NC (.cells (Row.ofList (bytesOf s)) e) (.cells C e (C.size, C.size + 1)) ⟨C, _, heap_push_self w1 _, ?_, ?_, ?_, ?_⟩, ?_⟩
  · intro j hj hf; omega
  · simp only [Row.ofList_len, bytesOf, Nat.zero_add, List.length_map, Array.length_toList]; rw [hCs, hsz]; exact hNC.1
  · intro j v hv
    simp only [Row.ofList_get?, bytesOf, List.getElem?_map] at hv
    have hj : j < s.data.size := by
      rcases Nat.lt_or_ge j s.data.size with x | x
      · exact x
      · rw [List.getElem?_eq_none (by simpa using x)] at hv; cases hv
    have e1 : C[0 + j]? = some v := by
      rw [Nat.zero_add, Array.getElem?_append_left (by simpa [elems] using hj)]
      simp only [elems, Array.getElem?_map]
      rw [← hv]
      simp
    refine ⟨v, e1, ?_⟩
    have : ∃ b : UInt8, v = .int .u8 b.toNat := by
      rw [List.getElem?_eq_getElem (by simpa using hj)] at hv
      simp only [Option.map_some, Option.some.injEq] at hv
      exact ⟨_, hv.symm⟩
    obtain ⟨b, rfl⟩ := this
    exact .int _ _
  · intro q hq
    rw [hi] at hq
    obtain rfl := Option.some.inj hq
    refine ⟨?_, Nat.zero_mod _⟩
    show 0 + NC * i.size ≤ C.size
    rw [hs1, hCs]; omega
  · have := VRel.oslice (m := m.add h.next ⟨w.heap.size, 0, NC⟩) h.next 0 s.size 0 ⟨w.heap.size, 0, NC⟩ (Mu.add_self _ _ _) (Nat.zero_le _) (by unfold HALF; omega) (by simpa using hNC.1)
    simpa using this

/-! ## Comparison with nil -/
def isNilV : Value → Bool
  | .pointer none | .slice none _ _ | .map none | .nilFunc | .nilIface => true
  | _ => false
def refKind (P : Program) (t : TypeId) (x y : Value) : Bool :=
  match P.underlying t, x, y with
  | some (.pointer _), .pointer _, .pointer _ => true
  | some (.slice _), .slice _ _ _, .slice _ _ _ => true
  | some (.map _ _), .map _, .map _ => true
  | some (.func _ _ _), .nilFunc, .nilFunc | some (.func _ _ _), .nilFunc, .func _ _ _ | some (.func _ _ _), .func _ _ _, .nilFunc => true
  | some (.interface _), .nilIface, .iface _ _ | some (.interface _), .iface _ _, .nilIface => true
  | _, _, _ => false
def nilEqA (P : Program) (op : BinOp) (t : TypeId) (x y : Value) : Option Value :=
  if refKind P t x y && (isNilV x || isNilV y) then
    match op with
    | .eql => some (.bool (isNilV x && isNilV y))
    | .neq => some (.bool !(isNilV x && isNilV y))
    | _ => none
  else none
theorem isNilV_rel {m : Mu} {v v' : Value} (h : VRel m v v') (hc : ∀ r, v ≠ .chan r) : isNilV v' = isNilV v := by cases h <;> first | rfl | exact absurd rfl (hc _)
theorem refKind_chan {t : TypeId} {x y : Value} (h : refKind P t x y = true) : (∀ r, x ≠ .chan r) ∧ (∀ r, y ≠ .chan r) := by
  unfold refKind at h
  split at h <;> first
    | (cases h; done)
    | exact ⟨(fun r e => (by cases e)), (fun r e => (by cases e))⟩
theorem refKind_rel {m : Mu} {t : TypeId} {x x' y y' : Value} (hx : VRel m x x') (hy : VRel m y y') (h : refKind P t x y = true) : refKind P t x' y' = true := by
  unfold refKind at h ⊢
  split at h <;> first
    | (cases h; done)
    | (rename_i e; rw [e]; cases hx <;> cases hy <;> rfl)
theorem run_equalIn_nil (d : Nat) {t : TypeId} {x y : Value} (h : refKind P t x y = true) (hn : (isNilV x || isNilV y) = true) (w : World) :
    (Op.equalIn (d + 1) t x y).run P w = .ok (isNilV x && isNilV y) w := by
  unfold refKind at h
  split at h <;> try (cases h; done)
  all_goals
    rename_i e
    simp only [Op.equalIn, Sem.run_bind, run_underlying e, Result.andThen_ok]
  · rename_i elem a b
    cases a <;> cases b <;> simp_all [isNilV]
  · rename_i elem a _ _ b _ _
    cases a <;> cases b <;> simp_all [isNilV]
  · rename_i k elem a b
    cases a <;> cases b <;> simp_all [isNilV]
  all_goals simp [isNilV]
theorem run_equal_nil {t : TypeId} {x y : Value} (h : refKind P t x y = true) (hn : (isNilV x || isNilV y) = true) (w : World) :
    (Op.equal t x y).run P w = .ok (isNilV x && isNilV y) w := run_equalIn_nil 9999 h hn w
end
end Go.Ab
