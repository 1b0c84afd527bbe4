/- slices.Insert of one record ahead of one record: it is known, whatever room there is. -/
import Derived.Test.YtdkomnkcemmdoaaGreatDoorNodeI
namespace Go.Proofs.YtdkomnkcemmdoaaGreatDoor.node
open Go Go.Ab Go.RowKit
set_option maxRecDepth 100000
theorem slice_inv {m : Mu} {b o n c : Nat} {s' : Value} (h : VRel m (.slice (some ⟨b, o, none⟩) n c) s') :
    (∃ l, m b = some l ∧ c ≤ HALF ∧ s' = .slice (some ⟨l.blk, l.off + o, none⟩) n c) ∨
    (∃ l k, m b = some l ∧ c = OPEN - k ∧ k ≤ l.cap ∧ k < HALF ∧ n ≤ l.cap - k ∧ s' = .slice (some ⟨l.blk, l.off + o, none⟩) n (l.cap - k)) ∨ n = 0 := by
  cases h with
  | slice _ _ _ _ l hm hc => exact .inl ⟨l, hm, hc, rfl⟩
  | oslice _ _ _ k l hm h1 h2 h3 => exact .inr (.inl ⟨l, k, hm, rfl, h1, h2, h3, rfl⟩)
  | oslice0 => exact .inr (.inr rfl)
theorem open_inv {m : Mu} {b n : Nat} {s' : Value} (hn : 0 < n) (h : VRel m (.slice (some ⟨b, 0, none⟩) n OPEN) s') : ∃ l, m b = some l ∧ n ≤ l.cap ∧ s' = .slice (some ⟨l.blk, l.off, none⟩) n l.cap := by
  rcases slice_inv h with ⟨l, h1, h2, h3⟩ | ⟨l, k, h1, h2, h3, h4, h5, h6⟩ | h0
  · unfold OPEN HALF at h2; omega
  · have : k = 0 := by unfold OPEN at h2; unfold HALF at h4; omega
    subst this
    exact ⟨l, h1, by omega, h6⟩
  · omega
theorem known_inv {m : Mu} {b n c : Nat} {s' : Value} (hn : 0 < n) (hc : c ≤ HALF) (h : VRel m (.slice (some ⟨b, 0, none⟩) n c) s') : ∃ l, m b = some l ∧ s' = .slice (some ⟨l.blk, l.off, none⟩) n c := by
  rcases slice_inv h with ⟨l, h1, h2, h3⟩ | ⟨l, k, h1, h2, h3, h4, h5, h6⟩ | h0
  · exact ⟨l, h1, h3⟩
  · unfold OPEN at h2; unfold HALF at h4 hc; omega
  · omega
/-- The memory goes on, but for blocks that nothing is said of. -/
theorem moved {P : Program} {B : Base} {m : Mu} {h : AHeap} {w w' : World} (hr : Rel P B m h w) (S : Nat → Prop) (hos : w'.os = w.os) (htape : w'.tape = w.tape) (hout : w'.output = w.output)
    (hS : ∀ c, h.get c ≠ .dead → ∀ l, m c = some l → S l.blk → OKObj P m l w' (h.get c)) (hB : ∀ k, S k → B.prot k = none) (hw : ∀ k, ¬ S k → ∀ o, w.heap[k]? = some o → w'.heap[k]? = some o) : Rel P B m h w' := by
  refine ⟨hos.trans hr.os, htape.trans hr.tape, hout.trans hr.output, fun k o hk => ?_, fun b hb => ?_, hr.sep, hr.fresh⟩
  · have : ¬ S k := fun q => by rw [hB k q] at hk; cases hk
    exact hw k this o (hr.prot k o hk)
  · obtain ⟨l, h1, h2, h3⟩ := hr.obj b hb
    by_cases c : S l.blk
    · exact ⟨l, h1, h2, hS b hb l h1 c⟩
    · exact ⟨l, h1, h2, h3.of_block (fun x hx => hw _ c x hx)⟩
def isI : Option Value → Bool
  | some (.int .i64 _) => true
  | _ => false
def isS : Option Value → Bool
  | some (.string _) => true
  | _ => false
noncomputable def recOk (L : Row) : Bool := isI (rowGet L 0) && isI (rowGet L 1) && isI (rowGet L 2) && isI (rowGet L 3) && isI (rowGet L 4) && isS (rowGet L 5)
noncomputable def xs (L : Row) (i : Nat) : Int := match rowGet L i with
  | some (.int _ n) => n
  | _ => 0
noncomputable def st (L : Row) : ByteArray := match rowGet L 5 with
  | some (.string s) => s
  | _ => ⟨#[]⟩
def J0 (_ : Nat) : Value := undef
noncomputable def recF (L : Row) : Nat → Value := rec6 (xs L) (st L) J0
theorem isI_get {L : Row} {i : Nat} (h : isI (rowGet L i) = true) : L.get? i = some (i64 (xs L i)) := by
  unfold xs
  rw [← rowGet_eq]
  revert h
  cases rowGet L i with
  | none => intro h; cases h
  | some v => cases v <;> first | (intro h; cases h; done) | (rename_i k n; cases k <;> first | (intro h; cases h; done) | (intro _; rfl))
theorem recOk_get {L : Row} (h : recOk L = true) (J : Nat → Value) : ∀ i, i < 6 → L.get? i = some (rec6 (xs L) (st L) J i) := by
  unfold recOk at h
  simp only [Bool.and_eq_true] at h
  obtain ⟨⟨⟨⟨⟨h0, h1⟩, h2⟩, h3⟩, h4⟩, h5⟩ := h
  intro i hi
  match i, hi with
  | 0, _ => exact isI_get h0
  | 1, _ => exact isI_get h1
  | 2, _ => exact isI_get h2
  | 3, _ => exact isI_get h3
  | 4, _ => exact isI_get h4
  | 5, _ =>
    show L.get? 5 = some (.string (st L))
    unfold st
    rw [← rowGet_eq]
    revert h5
    cases rowGet L 5 with
    | none => intro h; cases h
    | some v => cases v <;> first | (intro h; cases h; done) | (intro _; rfl)
theorem rec6_flat (x : Nat → Int) (s : ByteArray) (J : Nat → Value) : ∀ i, i < 6 → vflat 8 (rec6 x s J i) = true := by
  intro i hi
  match i, hi with
  | 0, _ => rfl
  | 1, _ => rfl
  | 2, _ => rfl
  | 3, _ => rfl
  | 4, _ => rfl
  | 5, _ => rfl
theorem F12_flat (x y : Nat → Int) (s t : ByteArray) (J J2 : Nat → Value) : ∀ i, i < 12 → vflat 8 (F12 (rec6 x s J) (rec6 y t J2) i) = true := by
  intro i hi
  by_cases c : i < 6
  · have : F12 (rec6 x s J) (rec6 y t J2) i = rec6 y t J2 i := by unfold F12; rw [show Nat.blt i 6 = true by rw [Nat.blt_eq]; exact c]
    rw [this]; exact rec6_flat _ _ _ i c
  · have : F12 (rec6 x s J) (rec6 y t J2) i = rec6 x s J (i - 6) := by
      unfold F12
      rw [show Nat.blt i 6 = false by cases q : Nat.blt i 6 with | false => rfl | true => rw [Nat.blt_eq] at q; exact absurd q c]
    rw [this]; exact rec6_flat _ _ _ (i - 6) (by omega)
theorem rec6_J (x : Nat → Int) (s : ByteArray) (J J2 : Nat → Value) : ∀ i, i < 6 → rec6 x s J i = rec6 x s J2 i := by
  intro i hi
  match i, hi with
  | 0, _ => rfl
  | 1, _ => rfl
  | 2, _ => rfl
  | 3, _ => rfl
  | 4, _ => rfl
  | 5, _ => rfl
theorem F12_J (x y : Nat → Int) (s t : ByteArray) (J J2 J3 J4 : Nat → Value) : ∀ i, i < 12 → F12 (rec6 x s J) (rec6 y t J2) i = F12 (rec6 x s J3) (rec6 y t J4) i := by
  intro i hi
  unfold F12
  cases c : Nat.blt i 6 with
  | true => rw [Nat.blt_eq] at c; exact rec6_J _ _ _ _ i c
  | false => exact rec6_J _ _ _ _ (i - 6) (by omega)
theorem listF_get {t : Tree Value} {f : Nat → Value} : ∀ (k i : Nat), listF t k i = listG f k i → ∀ j, i ≤ j → j < i + k → t.get undef j = f j := by
  intro k
  induction k with
  | zero => intro i _ j h1 h2; omega
  | succ k ih =>
    intro i h j h1 h2
    simp only [listF, listG, List.cons.injEq] at h
    by_cases e : j = i
    · rw [e]; exact h.1
    · exact ih (i + 1) h.2 j (by omega) (by omega)
theorem rowL_some {o : AObj} {ty n : Nat} {l : List Value} (h : rowL o = some (ty, n, l)) : ∃ t, o = .cells ⟨n, t⟩ ty ∧ listF t n 0 = l := by
  cases o with
  | cells c te => obtain ⟨k, t⟩ := c; simp only [rowL, Option.some.injEq, Prod.mk.injEq] at h; obtain ⟨rfl, rfl, h3⟩ := h; exact ⟨t, rfl, h3⟩
  | _ => cases h
theorem okRec {P : Program} {m m1 : Mu} {l : Ab.Loc} {w : World} {o : AObj} {M : Row} {J : Nat → Value} (hM : recOk M = true) (h6 : M.len = 6) (hrow : rowL o = some (197, 6, listG (rec6 (xs M) (st M) J) 6 0)) (h : OKObj P m1 l w o) : OKObj P m l w (.cells M 197) := by
  obtain ⟨t, rfl, hlist⟩ := rowL_some hrow
  obtain ⟨C2, fr2, a1, a2, a3, a4, a5⟩ := h
  refine ⟨C2, fr2, a1, a2, by rw [h6]; exact a3, fun i u hu => ?_, a5⟩
  have hi : i < 6 := by rw [← h6]; exact Row.lt_of_get? hu
  have e := recOk_get hM J i hi
  rw [hu] at e
  obtain rfl := Option.some.inj e
  have hg : Row.get? ⟨6, t⟩ i = some (rec6 (xs M) (st M) J i) := by
    rw [Row.get?_eq]
    rw [if_pos (show i < 6 from hi)]
    rw [listF_get 6 0 hlist i (Nat.zero_le _) (by omega)]
  obtain ⟨u', b1, b2⟩ := a4 i _ hg
  have hf := rec6_flat (xs M) (st M) J i hi
  obtain rfl := b2.of_flat 8 hf
  exact ⟨_, b1, vflat_rel _ 8 _ hf⟩
noncomputable def insertG (args : Array Value) (h : AHeap) : Option (Value × AHeap) := match args with
  | ⟨[.slice (some ⟨b, 0, none⟩) 1 c, .int .i64 (.ofNat 0), .slice (some ⟨y, 0, none⟩) 1 1]⟩ => (match heapGet h b, heapGet h y with
    | .cells L t, .cells M t2 => (match Nat.beq t 197 && Nat.beq t2 197 && Nat.beq c OPEN && Nat.blt h.next h.lim && notB (Nat.beq b y) && recOk L && recOk M && Nat.beq M.len 6 with
      | true => some (.slice (some ⟨h.next, 0, none⟩) 2 OPEN, (h.put b .dead).push (.cells (rowFn (F12 (recF L) (recF M)) 12) 197))
      | false => none)
    | _, _ => none)
  | _ => none
noncomputable def insertK : Known := fun f => match Nat.beq f 215 with
  | true => some insertG
  | false => none
theorem hI_get (k : Nat) (f g : Nat → Value) (z : Nat) : (hI k f g).get z = if z = 16 then .cells (rowFn g 6) 197 else if z = 15 then .cells (rowFn f k) 197 else .dead := by
  unfold hI
  rw [AHeap.get_push, AHeap.get_push]
  have e : (⟨.leaf, 15, 1099511627776⟩ : AHeap).get z = .dead := by simp [AHeap.get, Tree.get_leaf]
  rw [e]
  rfl
theorem liveO {o : AObj} (h : isLive o = true) : o ≠ .dead := by rintro rfl; cases h
theorem TRel.turn {m : Mu} {n : Nat} {T : Tree Value} {tmps : Array Value} (hT : TRel m n T tmps) {t : Nat} {v : Value} (hv : VRel m v (tmps.getD t undef)) : TRel m n (T.set undef t v) tmps := by
  refine ⟨hT.size, fun i => ?_⟩
  show VRel m ((T.set undef t v).get undef i) _
  rw [Tree.get_set]
  by_cases e : i = t
  · rw [if_pos e, e]; exact hv
  · rw [if_neg e]; exact hT.rel i
theorem sound_of {P : Program} {G : Nat} {CB : CallB} (hs : CallSound P G (callOf CB)) {f : FuncId} {args : Array Value} {h : AHeap} {v : Value} {h' : AHeap} (e : (CB f).un args h = some (v, h')) {B : Base} {m : Mu} {args' : Array Value} {w : World} (ha : ARel m args args') (hr : Rel P B m h w) (hG : GRel G m) :
    Calls P f args' w (fun e w' => ∃ v' m', e = .returned v' ∧ Ext h m m' ∧ Rel P B m' h' w' ∧ VRel m' v v') := (hs f args h v h' e).2 B m args' w ha hr hG
theorem roadA_of {X : Option (Value × AHeap)} {v : Value} {l l6 : Option (TypeId × Nat × List Value)} (h : (fun r => (outA r, outA2 r)) X = (some (v, l), some (true, l6))) : ∃ hA, X = some (v, hA) ∧ rowL (hA.get 17) = l ∧ isLive (hA.get 15) = true ∧ rowL (hA.get 16) = l6 := by
  cases X with
  | none => cases h
  | some r =>
    obtain ⟨rv, hA⟩ := r
    simp only [outA, outA2, Prod.mk.injEq, Option.some.injEq] at h
    obtain ⟨⟨rfl, h1⟩, h2, h3⟩ := h
    exact ⟨hA, rfl, h1, h2, h3⟩
theorem roadB_of {X : Option OutC} {v : Value} {l l6 : Option (TypeId × Nat × List Value)} (h : (fun r => (outB r, outB2 r)) X = (some (v, l), some ([], l6))) : ∃ o, X = some o ∧ o.v = v ∧ rowL (o.h.get 15) = l ∧ o.lg = [] ∧ rowL (o.h.get 16) = l6 := by
  cases X with
  | none => cases h
  | some o =>
    simp only [outB, outB2, Prod.mk.injEq, Option.some.injEq] at h
    obtain ⟨⟨h1, h2⟩, h3, h4⟩ := h
    exact ⟨o, rfl, h1, h2, h3, h4⟩
theorem goNCE_wp {P : Program} {G n : Nat} {enters : FuncId → FKind} {CB : CallB} {CC : CallC} {DB : DrawB} {DC : DrawC} (hE : Enters P enters) (hz : ZF P) (hC : CallSound P G (callOf CB)) (hCC : CallEq CB CC) (hDC : DrawEq DB DC) (hD : DrawGood P G (fun ops T h => (DB ops).un T h)) {mk : Mk} {K : Nat} {B : Base} {Q : Exit → Act → World → Prop} : ∀ {k : Nat} {c : Code} {x y : SC} {m : Mu} {a : Act} {w : World},
    partsOk P G n k c = true → goNC P enters CB CC DC mk K k c x = y → y.ok = true → NotedOk y.lg → TRel m n x.s.1 a.tmps → Rel P B m x.s.2 w → GRel G m →
    (∀ m' a' w', Mu.le m m' → TRel m' n y.s.1 a'.tmps → a'.defers = a.defers → Rel P B m' y.s.2 w' → (dropN k c).wp P Q a' w') → c.wp P Q a w := by
  intro k
  induction k with
  | zero => intro c x y m a w _ hx _ _ hT hr hG hk; subst hx; exact hk m a w (Mu.le_refl m) hT rfl hr
  | succ k ih =>
    intro c x y m a w hp hx hok hl hT hr hG hk
    cases c with
    | seq c1 c2 =>
      simp only [partsOk, Bool.and_eq_true] at hp
      simp only [goNC] at hx
      have q := codeC_eq (P := P) (enters := enters) (DB := DB) hCC hDC mk K c1 x.s.1 x.s.2 x.tp x.lg
      revert hx q
      cases (codeC P enters CB CC DC mk K c1).un x.s.1 x.s.2 x.tp x.lg with
      | normal T h tp lg =>
        intro hx q
        have hlg := goNC_noted (P := P) (enters := enters) hCC hDC _ _ _ _ hx hok hl
        obtain ⟨_, q2⟩ := codeB_sound (n := n) hE hz hC hD K c1 hp.1.1 _ _ .normal _ _ (q hlg).2
        refine wp_seq (q2 B m a w _ hp.1.2 hT hr hG ?_)
        intro m' a' w' d1 d2 d3 d4
        exact ih hp.2 hx hok hl d2 d4 (hG.mono d1.1) fun m2 a2 w2 e1 e2 e3 e4 => hk m2 a2 w2 (Mu.le_trans d1.1 e1) e2 (e3.trans d3) e4
      | _ => intro hx q; subst hx; cases hok
    | _ => simp only [goNC] at hx; subst hx; cases hok
theorem lastR_wp {P : Program} {G n : Nat} {enters : FuncId → FKind} {CB : CallB} {CC : CallC} {DB : DrawB} {DC : DrawC} (hE : Enters P enters) (hz : ZF P) (hC : CallSound P G (callOf CB)) (hCC : CallEq CB CC) (hDC : DrawEq DB DC) (hD : DrawGood P G (fun ops T h => (DB ops).un T h)) {mk : Mk} {K : Nat} {r : Code} {s : Tree Value × AHeap} {tp : Ab.Tape} {fn : Func} {B : Base} {m : Mu} {a : Act} {w : World} {x : OutC} {Q : Ending → World → Prop}
    (hp : plansOk P r = true) (hok : codeOk G n r = true) (hx : lastC P enters CB CC DC mk K fn r s tp = some x) (hl : NotedOk x.lg) (hT : TRel m n s.1 a.tmps) (hr : Rel P B m s.2 w) (hG : GRel G m) (hd : a.defers = [])
    (hk : ∀ m' v' w', Ext s.2 m m' → Rel P B m' x.h w' → VRel m' x.v v' → Q (.returned v') w') :
    r.wp P (bodyPost P fn Q) a w := by
  have q := codeC_eq (P := P) (enters := enters) (DB := DB) hCC hDC mk K r s.1 s.2 tp []
  unfold lastC at hx
  revert q hx
  cases (codeC P enters CB CC DC mk K r).un s.1 s.2 tp [] with
  | ret T' h' tp' lg' =>
    intro hx q
    dsimp only at hx
    split at hx
    · rename_i vs hvs
      cases hx
      obtain ⟨_, q2⟩ := codeB_sound (n := n) hE hz hC hD K r hp _ _ .ret _ _ (q hl).2
      refine q2 B m a w _ hok hT hr hG ?_
      intro m' a' w' c1 c2 c3 c4
      obtain ⟨v', r1, r2⟩ := results_sound c4 c2 (resB_some hvs)
      exact ⟨c3.trans hd, v', r1, hk m' v' w' c1 c4 r2⟩
    · cases hx
  | _ => intro hx; cases hx
end Go.Proofs.YtdkomnkcemmdoaaGreatDoor.node
