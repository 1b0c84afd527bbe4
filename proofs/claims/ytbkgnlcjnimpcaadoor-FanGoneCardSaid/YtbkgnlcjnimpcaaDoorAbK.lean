import Derived.Test.YtbkgnlcjnimpcaaDoorAbJ
namespace Go.Ab
open Go
section
variable {P : Program} {B : Base}

/-! ## One operation -/
inductive Out where
  | val (v : Value)
  | skip
  | call (f : FuncId) (args : Array Value)

def OutRel (m : Mu) : Out → Next → Prop
  | .val v, .value v' => VRel m v v'
  | .skip, .skip => True
  | .call f a, .enter f' a' => f = f' ∧ ARel m a a'
  | _, _ => False

def outV : Option (Value × AHeap) → Option (Out × AHeap)
  | some (v, h) => some (.val v, h)
  | none => none
def outU : Option (Unit × AHeap) → Option (Out × AHeap)
  | some (_, h) => some (.skip, h)
  | none => none
def outC : Option (Value × AHeap) → Option (Out × AHeap)
  | some (v, h) => if capOk v then some (.val v, h) else none
  | none => none
def flatV (v : Value) : Bool := vflat 8 v
def outP (s : Option Value) (h : AHeap) : Option (Out × AHeap) :=
  match s with
  | some v => if flatV v then some (.val v, h) else none
  | none => none

def optFlat (o : Option Value) : Bool := match o with | some v => flatV v | none => true

/-- The next character of a string that is ranged over. -/
def nextA (it : Value) (h : AHeap) : Option (Value × AHeap) :=
  match it with
  | .pointer (some ⟨r, 0, none⟩) =>
    match h.get r with
    | .iter s pos =>
      if Nat.blt pos s.size then
        match Utf8.decode s pos with
        | (c, width) => some (.tuple #[.bool true, goInt pos, .int .i32 c], h.put r (.iter s (pos + width)))
      else some (.tuple #[.bool false], h)
    | _ => none
  | _ => none

def opA (P : Program) (enters : FuncId → Bool) (ρ : Operand → Value) (o : Oper) (h : AHeap) : Option (Out × AHeap) :=
  match o.op with
  | .move x | .assign x => some (.val (ρ x), h)
  | .pick c a b => match ρ c with | .bool t => some (.val (if t then ρ a else ρ b), h) | _ => none
  | .alloc t => outV ((Instr.alloc t true (.tuple #[])).runA P h)
  | .box t x => outV ((Instr.box t (ρ x)).runA P h)
  | .build t ps => outV ((Instr.build t (ps.map fun (i, x) => (i, ρ x))).runA P h)
  | .buildSlice t n ps => outC ((Instr.buildSlice t n (ps.map fun (i, x) => (i, ρ x))).runA P h)
  | .load t a => outV ((Instr.loadAt t (ρ a)).runA P h)
  | .store t a x => outU ((Instr.storeAt t (ρ a) (ρ x)).runA P h)
  | .nilCheck x => match ρ x with | .pointer (some a) => some (.val (.pointer (some a)), h) | _ => none
  | .binOp op t x y _ =>
    if flatV (ρ x) && flatV (ρ y) then outP (Sem.runP P (do eqGuard op t x y (ρ x) (ρ y); binOp op t (ρ x) (ρ y))) h
    else match nilEqA P op t (ρ x) (ρ y) with | some v => some (.val v, h) | none => none
  | .unOp op _ x => if flatV (ρ x) then outP (Sem.runP P (Op.unary op (ρ x))) h else none
  | .convert src dst x =>
    match P.underlying src, P.underlying dst, ρ x with
    | some .string, some (.slice e), .string s =>
      match P.underlying e, P.info? e with
      | some (.int .u8), some i => if Nat.blt h.next h.lim && Nat.beq i.size 1 && Nat.blt s.size (2 ^ 40) then some (.val (.slice (some ⟨h.next, 0, none⟩) s.size OPEN), h.push (.cells (bytesOf s) e)) else none
      | _, _ => none
    | some (.slice e), some .string, .slice a n c =>
      match P.underlying e, bytesA h (.slice a n c) with
      | some (.int .u8), some s => some (.val (.string s), h)
      | _, _ => none
    | _, _, v => if flatV v then outP (Sem.runP P (convert src dst v)) h else none
  | .makeInterface t x => outV ((Instr.makeInterface t (ρ x)).runA P h)
  | .makeFunc fn a c => outV ((Instr.makeFunc fn (a.map ρ) (c.map ρ)).runA P h)
  | .makeMap t none => outV ((Instr.makeMap t none).runA P h)
  | .makeSlice t l c => outC ((Instr.makeSlice t (ρ l) (ρ c)).runA P h)
  | .slice t x lo hi mx =>
    if optFlat (lo.map ρ) && optFlat (hi.map ρ) && optFlat (mx.map ρ) then
    match ρ x with
    | .string s => outP (Sem.runP P (Instr.sliceAt t (.string s) (lo.map ρ) (hi.map ρ) (mx.map ρ))) h
    | v => match sliceA P t v (lo.map ρ) (hi.map ρ) (mx.map ρ) with | some r => some (.val r, h) | none => none
    else none
  | .fieldAddr s x f => outV ((Instr.fieldAt s (ρ x) f).runA P h)
  | .field s x f => outV ((Instr.field s (ρ x) f).runA P h)
  | .indexAddr t x i => outV ((Instr.indexAt t (ρ x) (ρ i)).runA P h)
  | .index t x i => outV ((Instr.index t (ρ x) (ρ i)).runA P h)
  | .extract x i => outV ((Instr.extract (ρ x) i).runA P h)
  | .range t x => match P.underlying t, ρ x with
    | some .string, .string s => if Nat.blt h.next h.lim then some (.val (.pointer (some ⟨h.next, 0, none⟩)), h.push (.iter s 0)) else none
    | _, _ => none
  | .next it true => outV (nextA (ρ it) h)
  | .call c =>
    match c.callee with
    | .builtin .len => outV ((Builtin.len_ c.argTypes o.type (c.args.map ρ)).runA P h)
    | .builtin .copy => outV ((Builtin.copy_ c.argTypes o.type (c.args.map ρ)).runA P h)
    | .builtin .append => outV (appendA P c.argTypes (c.args.map ρ) h)
    | .builtin .min => if (c.args.map ρ).toList.all flatV then outP (Sem.runP P (Builtin.min_ c.argTypes o.type (c.args.map ρ))) h else none
    | .builtin .max => if (c.args.map ρ).toList.all flatV then outP (Sem.runP P (Builtin.max_ c.argTypes o.type (c.args.map ρ))) h else none
    | .value f => match ρ f with
      | .func (.func g) first captured => if enters g then some (.call g (first ++ c.args.map ρ ++ captured), h) else none
      | _ => none
    | _ => none
  | _ => none

/-- What is known of the functions that may be entered. -/
def Enters (P : Program) (enters : FuncId → Bool) : Prop := ∀ f, enters f = true → ∀ args w, (callFunc f args).run P w = .ok (.enter f args) w

def Sound (P : Program) (B : Base) (h : AHeap) (m : Mu) (r : Option (Out × AHeap)) (s : Sem Next) (w : World) : Prop :=
  ∀ out h', r = some (out, h') → ∃ n w' m', s.run P w = .ok n w' ∧ Ext h m m' ∧ Rel P B m' h' w' ∧ OutRel m' out n

theorem Sound.ofV {m : Mu} {h : AHeap} {w : World} (hr : Rel P B m h w) {s s' : Sem Value} (hs : Sim P B m s s' (fun m' v v' => VRel m' v v')) :
    Sound P B h m (outV (s.runA P h)) (do pure (.value (← s'))) w := by
  intro out h' he
  cases h1 : s.runA P h with
  | none => rw [h1] at he; cases he
  | some r =>
    obtain ⟨v, h2⟩ := r
    rw [h1] at he
    simp only [outV, Option.some.injEq, Prod.mk.injEq] at he
    obtain ⟨rfl, rfl⟩ := he
    obtain ⟨b, w', m', e1, e2, e3, e4⟩ := hs h w hr v h2 h1
    exact ⟨.value b, w', m', by simp only [Sem.run_bind, e1, Result.andThen_ok, Sem.run_pure], e2, e3, e4⟩
theorem Sound.ofC {m : Mu} {h : AHeap} {w : World} (hr : Rel P B m h w) {s s' : Sem Value} (hs : Sim P B m s s' (fun m' v v' => capOk v = true → VRel m' v v')) :
    Sound P B h m (outC (s.runA P h)) (do pure (.value (← s'))) w := by
  intro out h' he
  cases h1 : s.runA P h with
  | none => rw [h1] at he; cases he
  | some r =>
    obtain ⟨v, h2⟩ := r
    rw [h1] at he
    simp only [outC] at he
    split at he
    · rename_i hc
      simp only [Option.some.injEq, Prod.mk.injEq] at he
      obtain ⟨rfl, rfl⟩ := he
      obtain ⟨b, w', m', e1, e2, e3, e4⟩ := hs h w hr v h2 h1
      exact ⟨.value b, w', m', by simp only [Sem.run_bind, e1, Result.andThen_ok, Sem.run_pure], e2, e3, e4 hc⟩
    · cases he
theorem Sound.ofU {m : Mu} {h : AHeap} {w : World} (hr : Rel P B m h w) {s s' : Sem Unit} (hs : Sim P B m s s' (fun _ _ _ => True)) :
    Sound P B h m (outU (s.runA P h)) (do s'; pure .skip) w := by
  intro out h' he
  cases h1 : s.runA P h with
  | none => rw [h1] at he; cases he
  | some r =>
    obtain ⟨v, h2⟩ := r
    rw [h1] at he
    simp only [outU, Option.some.injEq, Prod.mk.injEq] at he
    obtain ⟨rfl, rfl⟩ := he
    obtain ⟨b, w', m', e1, e2, e3, e4⟩ := hs h w hr v h2 h1
    exact ⟨.skip, w', m', by simp only [Sem.run_bind, e1, Result.andThen_ok, Sem.run_pure], e2, e3, trivial⟩
theorem Sound.ofP {m : Mu} {h : AHeap} {w : World} (hr : Rel P B m h w) {s : Sem Value} : Sound P B h m (outP (Sem.runP P s) h) (do pure (.value (← s))) w := by
  intro out h' he
  cases h1 : Sem.runP P s with
  | none => rw [h1] at he; cases he
  | some v =>
    rw [h1] at he
    simp only [outP] at he
    split at he
    · rename_i hf
      simp only [Option.some.injEq, Prod.mk.injEq] at he
      obtain ⟨rfl, rfl⟩ := he
      exact ⟨.value v, w, m, by simp only [Sem.run_bind, runP_run h1, Result.andThen_ok, Sem.run_pure], Ext.refl _ m, hr, vflat_rel m 8 v hf⟩
    · cases he
theorem Sound.val {m : Mu} {h : AHeap} {w : World} (hr : Rel P B m h w) {v v' : Value} (hv : VRel m v v') {s : Sem Next} (hs : s.run P w = .ok (.value v') w) : Sound P B h m (some (.val v, h)) s w := by
  intro out h' he
  simp only [Option.some.injEq, Prod.mk.injEq] at he
  obtain ⟨rfl, rfl⟩ := he
  exact ⟨_, w, m, hs, Ext.refl _ m, hr, hv⟩
theorem Sound.none {h : AHeap} {m : Mu} {s : Sem Next} {w : World} : Sound P B h m Option.none s w := by
  intro out h' he; cases he

theorem flat_eq {m : Mu} {v v' : Value} (h : VRel m v v') (hf : flatV v = true) : v' = v := h.of_flat 8 hf

theorem next_sound {m : Mu} {h : AHeap} {w : World} (hr : Rel P B m h w) {v v' : Value} (hv : VRel m v v') (t : TypeId) : Sound P B h m (outV (nextA v h)) (do pure (.value (← Instr.next v' true t))) w := by
  unfold nextA
  split
  · rename_i r
    split
    · rename_i s pos hb
      cases hv with
      | ptr _ _ l hm =>
        obtain ⟨l', hl', hp', hok⟩ := hr.obj r (by rw [hb]; intro h; cases h)
        obtain rfl : l = l' := by rw [hm] at hl'; exact Option.some.inj hl'
        rw [hb] at hok
        obtain ⟨q1, q2⟩ := hok
        have ea : l.off + 0 = 0 := by omega
        rw [ea]
        have hg : (Go.getObj l.blk).run P w = .ok (.stringIter s pos) w := by simp [Go.getObj, Sem.run, q1]
        split
        · rename_i hlt
          simp only [Nat.blt_eq] at hlt
          split
          rename_i c width hd
          intro out h' he
          simp only [outV, Option.some.injEq, Prod.mk.injEq] at he
          obtain ⟨rfl, rfl⟩ := he
          have hs : (Go.setObj l.blk (.stringIter s (pos + width))).run P w = .ok () { w with heap := w.heap.setIfInBounds l.blk (.stringIter s (pos + width)) } := by simp [Go.setObj, Sem.run, q1]
          refine ⟨.value (.tuple #[.bool true, goInt pos, .int .i32 c]), { w with heap := w.heap.setIfInBounds l.blk (.stringIter s (pos + width)) }, m, ?_, Ext.refl _ m, ?_, ?_⟩
          · unfold Instr.next
            simp only [Sem.run_bind, hg, Result.andThen_ok, if_pos hlt, hd, hs, Sem.run_pure]
          · refine Rel.update (w := w) (w' := { w with heap := w.heap.setIfInBounds l.blk (.stringIter s (pos + width)) }) hr (by rw [hb]; intro h; cases h) hm rfl rfl rfl (fun k hk => heap_set_other w _ _ _ hk) ?_
            exact ⟨heap_set_self w _ _ _ q1, q2⟩
          · exact .tuple _ _ rfl (fun i a b => by
              have : i = 0 ∨ i = 1 ∨ i = 2 := by simp at a; omega
              rcases this with rfl | rfl | rfl
              · exact .bool _
              · exact .int _ _
              · exact .int _ _)
        · rename_i hlt
          simp only [Nat.blt_eq] at hlt
          refine Sound.val (v' := .tuple #[.bool false]) hr (.tuple _ _ rfl (fun i a b => by
              have : i = 0 := by simp at a; omega
              subst this; exact .bool _)) ?_
          unfold Instr.next
          simp only [Sem.run_bind, hg, Result.andThen_ok, if_neg hlt, Sem.run_pure]
    · exact Sound.none
  · exact Sound.none

theorem opA_sound {enters : FuncId → Bool} (hE : Enters P enters) (hz : ZF P) {ρ ρ' : Operand → Value} {o : Oper} {m : Mu} {h : AHeap} {w : World} (hr : Rel P B m h w)
    (hρ : ∀ x ∈ o.op.operands.toList, VRel m (ρ x) (ρ' x)) : Sound P B h m (opA P enters ρ o h) (execOp ρ' o) w := by
  obtain ⟨dst, op, type, pos, after, guard⟩ := o
  have hparts : ∀ (ps : Array (Nat × Operand)), (∀ x ∈ (ps.toList.map (·.2)), VRel m (ρ x) (ρ' x)) →
      ∀ i (a : i < (ps.map fun (p : Nat × Operand) => (p.1, ρ p.2)).size) (b : i < (ps.map fun (p : Nat × Operand) => (p.1, ρ' p.2)).size), (ps.map fun (p : Nat × Operand) => (p.1, ρ p.2))[i].1 = (ps.map fun (p : Nat × Operand) => (p.1, ρ' p.2))[i].1 ∧ VRel m (ps.map fun (p : Nat × Operand) => (p.1, ρ p.2))[i].2 (ps.map fun (p : Nat × Operand) => (p.1, ρ' p.2))[i].2 := by
    intro ps hps i a b
    simp only [Array.getElem_map, true_and]
    refine hps _ (List.mem_map.2 ⟨ps[i]'(by simpa using a), by simp, rfl⟩)
  cases op <;> try exact Sound.none
  case move x => exact Sound.val hr (hρ x (by simp [Op.operands])) rfl
  case assign x => exact Sound.val hr (hρ x (by simp [Op.operands])) rfl
  case pick c a b =>
    have hc := hρ c (by simp [Op.operands]); have ha := hρ a (by simp [Op.operands]); have hb := hρ b (by simp [Op.operands])
    simp only [opA]
    split
    · rename_i t ht
      rw [ht] at hc
      have e : ρ' c = .bool t := by generalize ρ' c = z at hc; cases hc; rfl
      refine Sound.val (v' := if t then ρ' a else ρ' b) hr (by cases t <;> simp [ha, hb]) ?_
      simp only [execOp, e, Go.asBool, pure_bind, Sem.run_pure]
    · exact Sound.none
  case alloc t => exact Sound.ofV hr (Sim.alloc hz t)
  case box t x => exact Sound.ofV hr (Sim.box (hρ x (by simp [Op.operands])) t)
  case build t ps => exact Sound.ofV hr (Sim.build hz t (by simp) (hparts ps (by simpa only [Op.operands, List.toList_toArray] using hρ)))
  case buildSlice t n ps => exact Sound.ofC hr (Sim.buildSlice hz t n (by simp) (hparts ps (by simpa only [Op.operands, List.toList_toArray] using hρ)))
  case load t a => exact Sound.ofV hr (Sim.loadAt (hρ a (by simp [Op.operands])) t)
  case store t a x => exact Sound.ofU hr (Sim.storeAt (hρ a (by simp [Op.operands])) (hρ x (by simp [Op.operands])) t)
  case nilCheck x =>
    have hx := hρ x (by simp [Op.operands])
    simp only [opA]
    split
    · rename_i a ha
      rw [ha] at hx
      generalize e : ρ' x = z at hx
      cases hx
      exact Sound.val hr (.ptr _ _ _ (by assumption)) (by simp only [execOp, e]; rfl)
    · exact Sound.none
  case binOp op t x y yt =>
    have hx := hρ x (by simp [Op.operands]); have hy := hρ y (by simp [Op.operands])
    simp only [opA]
    split
    · rename_i hf
      simp only [Bool.and_eq_true] at hf
      have := Sound.ofP (P := P) hr (s := do eqGuard op t x y (ρ x) (ρ y); binOp op t (ρ x) (ρ y))
      simp only [execOp, flat_eq hx hf.1, flat_eq hy hf.2]
      exact this
    · split
      · rename_i v hv
        unfold nilEqA at hv
        split at hv
        · rename_i hc
          simp only [Bool.and_eq_true] at hc
          have hk := refKind_rel hx hy hc.1
          have hn : (isNilV (ρ' x) || isNilV (ρ' y)) = true := by rw [isNilV_rel hx (refKind_chan hc.1).1, isNilV_rel hy (refKind_chan hc.1).2]; exact hc.2
          have hq := run_equal_nil (P := P) hk hn w
          rw [isNilV_rel hx (refKind_chan hc.1).1, isNilV_rel hy (refKind_chan hc.1).2] at hq
          have hg : (eqGuard op t x y (ρ' x) (ρ' y)).run P w = .ok () w := by
            have hk2 := hk
            unfold refKind at hk2
            unfold eqGuard
            generalize ρ' x = a at hk2 ⊢
            generalize ρ' y = b at hk2 ⊢
            cases a <;> cases b <;> first | (split <;> rfl; done) | (exfalso; revert hk2; cases P.underlying t with | none => simp | some d => cases d <;> simp)
          have hb : ∀ r : Bool, (op = .eql ∧ r = (isNilV (ρ x) && isNilV (ρ y))) ∨ (op = .neq ∧ r = !(isNilV (ρ x) && isNilV (ρ y))) → (binOp op t (ρ' x) (ρ' y)).run P w = .ok (.bool r) w := by
            intro r hr2
            have hk2 := hk
            unfold refKind at hk2
            generalize ρ' x = a at hk2 hq ⊢
            generalize ρ' y = b at hk2 hq ⊢
            rcases hr2 with ⟨rfl, rfl⟩ | ⟨rfl, rfl⟩ <;> cases a <;> cases b <;> first
              | (exfalso; revert hk2; cases P.underlying t with | none => simp | some d => cases d <;> simp; done)
              | (simp only [binOp, Sem.run_bind, hq, Result.andThen_ok, Sem.run_pure]; done)
          split at hv
          · obtain rfl := Option.some.inj hv
            exact Sound.val hr (.bool _) (by simp only [execOp, Sem.run_bind, hg, hb _ (.inl ⟨rfl, rfl⟩), Result.andThen_ok, Sem.run_pure])
          · obtain rfl := Option.some.inj hv
            exact Sound.val hr (.bool _) (by simp only [execOp, Sem.run_bind, hg, hb _ (.inr ⟨rfl, rfl⟩), Result.andThen_ok, Sem.run_pure])
          · cases hv
        · cases hv
      · exact Sound.none
  case unOp op t x =>
    have hx := hρ x (by simp [Op.operands])
    simp only [opA]
    split
    · rename_i hf
      simp only [execOp, flat_eq hx hf]
      exact Sound.ofP hr
    · exact Sound.none
  case convert src dst x =>
    have hx := hρ x (by simp [Op.operands])
    simp only [opA]
    split
    · rename_i e s h1 h2 h3
      rw [h3] at hx
      have e' : ρ' x = .string s := by generalize ρ' x = z at hx; cases hx; rfl
      split
      · rename_i i h4 h5
        split
        · rename_i hc
          simp only [Bool.and_eq_true, Nat.beq_eq, Nat.blt_eq] at hc
          obtain ⟨v', w', m', q1, q2, q3, q4⟩ := stringToBytes_sound hr hc.1.1 h5 hc.1.2 s hc.2
          intro out h' he
          simp only [Option.some.injEq, Prod.mk.injEq] at he
          obtain ⟨rfl, rfl⟩ := he
          refine ⟨.value v', w', m', ?_, q2, q3, q4⟩
          simp only [execOp, e', convert, Sem.run_bind, run_underlying h1, run_underlying h2, run_underlying h4, Result.andThen_ok, q1, Sem.run_pure]
        · exact Sound.none
      · exact Sound.none
    · rename_i e a n c h1 h2 h3
      rw [h3] at hx
      split
      · rename_i s h4 h5
        have hs := bytesA_sound hr hx h5
        generalize e' : ρ' x = z at hx hs
        refine Sound.val (v' := .string s) hr (.string s) ?_
        cases hx <;> simp only [execOp, e', convert, Sem.run_bind, run_underlying h1, run_underlying h2, run_underlying h4, Result.andThen_ok, hs, Sem.run_pure]
      · exact Sound.none
    · split
      · rename_i hf
        simp only [execOp, flat_eq hx hf]
        exact Sound.ofP hr
      · exact Sound.none
  case makeInterface t x => exact Sound.ofV hr (Sim.makeInterface (hρ x (by simp [Op.operands])) t)
  case makeFunc fn a c =>
    refine Sound.ofV hr (Sim.makeFunc (ARel.map fun x hx => hρ x ?_) (ARel.map fun x hx => hρ x ?_)) <;> simp [Op.operands] <;> simp_all
  case makeMap t r =>
    cases r with
    | none => exact Sound.ofV hr (Sim.makeMap t)
    | some x => exact Sound.none
  case makeSlice t l c => exact Sound.ofC hr (Sim.makeSlice hz t (hρ l (by simp [Op.operands])) (hρ c (by simp [Op.operands])))
  case slice t x lo hi mx =>
    have hx := hρ x (by simp [Op.operands])
    have h1 : ∀ y ∈ lo, VRel m (ρ y) (ρ' y) := fun y hy => hρ y (by cases hy; simp [Op.operands])
    have h2 : ∀ y ∈ hi, VRel m (ρ y) (ρ' y) := fun y hy => hρ y (by cases hy; simp [Op.operands])
    have h3 : ∀ y ∈ mx, VRel m (ρ y) (ρ' y) := fun y hy => hρ y (by cases hy; simp [Op.operands])
    have hof : ∀ (y : Option Operand), (∀ z ∈ y, VRel m (ρ z) (ρ' z)) → optFlat (y.map ρ) = true → y.map ρ' = y.map ρ := by
      intro y hy hf
      cases y with
      | none => rfl
      | some z => simp only [Option.map_some]; rw [flat_eq (hy z rfl) hf]
    simp only [opA]
    split
    · rename_i hf
      simp only [Bool.and_eq_true] at hf
      have e1 := hof lo h1 hf.1.1
      have e2 := hof hi h2 hf.1.2
      have e3 := hof mx h3 hf.2
      split
      · rename_i s hs
        rw [hs] at hx
        have e' : ρ' x = .string s := by generalize ρ' x = z at hx; cases hx; rfl
        simp only [execOp, e', e1, e2, e3]
        exact Sound.ofP hr
      · split
        · rename_i r hv
          obtain ⟨r', q1, q2⟩ := sliceA_sound hx hv w
          refine Sound.val hr q2 ?_
          simp only [execOp, e1, e2, e3, Sem.run_bind, q1, Result.andThen_ok, Sem.run_pure]
        · exact Sound.none
    · exact Sound.none
  case fieldAddr s x f => exact Sound.ofV hr (Sim.fieldAt (hρ x (by simp [Op.operands])) s f)
  case field s x f => exact Sound.ofV hr (Sim.field (hρ x (by simp [Op.operands])) s f)
  case indexAddr t x i => exact Sound.ofV hr (Sim.indexAt (hρ x (by simp [Op.operands])) (hρ i (by simp [Op.operands])) t)
  case index t x i => exact Sound.ofV hr (Sim.index (hρ x (by simp [Op.operands])) (hρ i (by simp [Op.operands])) t)
  case extract x i => exact Sound.ofV hr (Sim.extract (hρ x (by simp [Op.operands])) i)
  case range t x =>
    have hx := hρ x (by simp [Op.operands])
    simp only [opA]
    split
    · rename_i s h1 h2
      rw [h2] at hx
      have e' : ρ' x = .string s := by generalize ρ' x = z at hx; cases hx; rfl
      intro out h' he
      split at he
      case isFalse => cases he
      rename_i hwin
      simp only [Nat.blt_eq] at hwin
      simp only [Option.some.injEq, Prod.mk.injEq] at he
      obtain ⟨rfl, rfl⟩ := he
      refine ⟨.value (.pointer (some ⟨w.heap.size, 0, Option.none⟩)), { w with heap := w.heap.push (.stringIter s 0) }, _, ?_, Ext.add (hr.fresh _ (Nat.le_refl _) hwin).2 hwin, hr.alloc hwin 0 _ _ ⟨heap_push_self w _, rfl⟩, ?_⟩
      · simp only [execOp, e', Instr.range, Sem.run_bind, run_underlying h1, Result.andThen_ok, Sem.run_pure, run_newObj]
      · exact .ptr _ 0 ⟨w.heap.size, 0, 0⟩ (Mu.add_self _ _ _)
    · exact Sound.none
  case next it b =>
    cases b with
    | true => exact next_sound hr (hρ it (by simp [Op.operands])) _
    | false => exact Sound.none
  case call c =>
    obtain ⟨callee, args, argTypes⟩ := c
    have hargs : ARel m (args.map ρ) (args.map ρ') := ARel.map fun x hx => hρ x (by cases callee <;> simp [Op.operands, Call.operands] <;> simp_all)
    have hflat : (args.map ρ).toList.all flatV = true → args.map ρ' = args.map ρ := by
      intro hf
      refine Array.ext hargs.1.symm fun i a b => ?_
      exact flat_eq (hargs.2 i b a) (List.all_eq_true.1 hf _ (Array.mem_toList_iff.2 (Array.getElem_mem b)))
    simp only [opA]
    split
    · exact Sound.ofV hr (Sim.len hargs)
    · exact Sound.ofV hr (Sim.copy hargs)
    · intro out h' he
      cases h1 : appendA P argTypes (args.map ρ) h with
      | none => rw [h1] at he; cases he
      | some r =>
        obtain ⟨v, h2⟩ := r
        rw [h1] at he
        simp only [outV, Option.some.injEq, Prod.mk.injEq] at he
        obtain ⟨rfl, rfl⟩ := he
        obtain ⟨v', w', m', q1, q2, q3, q4⟩ := appendA_sound (ty := type) hargs hr h1
        exact ⟨.value v', w', m', by simp only [execOp, resolve, pure_bind, invoke, builtin, Sem.run_bind, q1, Result.andThen_ok, Sem.run_pure], q2, q3, q4⟩
    · split
      · rename_i hf
        have := Sound.ofP (P := P) hr (s := Builtin.min_ argTypes type (args.map ρ))
        rw [← hflat hf] at this ⊢
        exact this
      · exact Sound.none
    · split
      · rename_i hf
        have := Sound.ofP (P := P) hr (s := Builtin.max_ argTypes type (args.map ρ))
        rw [← hflat hf] at this ⊢
        exact this
      · exact Sound.none
    · rename_i f
      have hf := hρ f (by simp [Op.operands, Call.operands])
      split
      · rename_i g first captured hg
        rw [hg] at hf
        split
        · rename_i hen
          intro out h' he
          simp only [Option.some.injEq, Prod.mk.injEq] at he
          obtain ⟨rfl, rfl⟩ := he
          generalize e' : ρ' f = z at hf
          cases hf with
          | func _ _ first' _ captured' a1 a2 a3 a4 =>
            refine ⟨.enter g (first' ++ args.map ρ' ++ captured'), w, m, ?_, Ext.refl _ m, hr, rfl, (ARel.append ⟨a1, a2⟩ hargs).append ⟨a3, a4⟩⟩
            simp only [execOp, resolve, e', Deferred.ofValue, pure_bind, invoke]
            exact hE g hen _ _
        · exact Sound.none
      · exact Sound.none
    · exact Sound.none
end
end Go.Ab
