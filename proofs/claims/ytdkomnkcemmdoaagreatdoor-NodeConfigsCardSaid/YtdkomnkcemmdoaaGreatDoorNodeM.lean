/- slices.Insert of one record ahead of one record: it is known. -/
import Derived.Test.YtdkomnkcemmdoaaGreatDoorNodeJ
namespace Go.Proofs.YtdkomnkcemmdoaaGreatDoor.node
open Go Go.Ab Go.RowKit
set_option maxRecDepth 100000
theorem notes_two {c : Nat} (h1 : 2 ≤ c) (h2 : c ≤ HALF) : NotedOk (notesB c) := by
  have hb : Nat.ble c HALF = true := by rw [Nat.ble_eq]; exact h2
  obtain ⟨i, hi, hs⟩ : ∃ i, Tryz.prog.info? 197 = some i ∧ i.size = 6 := by
    have := info197
    cases h : Tryz.prog.info? 197 with
    | none => rw [h] at this; cases this
    | some i => rw [h] at this; exact ⟨i, rfl, by simpa using this⟩
  have e0 : ∀ h, (if c = 0 then (some ⟨15, 0, none⟩ : Option Addr) else (some ⟨15, 0, none⟩ : Option Addr).map (·.add (0 * h))) = some ⟨15, 0, none⟩ := by
    intro h
    rw [if_neg (by omega)]
    simp [Addr.add]
  unfold notesB
  refine .cons ⟨rfl, (fun b q => by cases q), ?_⟩ (.cons ⟨197, _, _, _, und212, rfl, h2, rfl⟩ (.cons ?_ (.cons ⟨rfl, (fun b q => by cases q), ?_⟩ .nil)))
  · unfold sliceA
    rw [und212]
    dsimp only [sX, natOf, i64]
    rw [hi]
    dsimp only
    rw [hb]
    simp only [if_true, e0]
    rw [if_pos (by simp; omega)]
    simp
  · have : intLt (c : Int) 2 = false := by
      rw [intLt_eq]
      simp
      omega
    unfold pr
    rw [this]
    rfl
  · unfold sliceA
    rw [und212]
    dsimp only [sX, natOf, i64]
    rw [hi]
    dsimp only
    rw [hb]
    simp only [if_true, e0]
    rw [if_pos (by simp; omega)]
    simp
set_option maxHeartbeats 1000000 in
theorem insertG_sound {args : Array Value} {h h' : AHeap} {v : Value} (e : insertG args h = some (v, h')) : Nx h h' ∧
    ∀ (B : Base) m args' w, ARel m args args' → Rel Tryz.prog B m h w → GRel 7 m →
      Calls Tryz.prog 215 args' w (fun e w' => ∃ v' m', e = .returned v' ∧ Ext h m m' ∧ Rel Tryz.prog B m' h' w' ∧ VRel m' v v') := by
  unfold insertG at e
  split at e <;> try (cases e; done)
  rename_i b c y
  split at e <;> try (cases e; done)
  rename_i L t M t2 hb hy
  split at e <;> try (cases e; done)
  rename_i hchk
  simp only [Bool.and_eq_true, Nat.beq_eq, Nat.blt_eq] at hchk
  obtain ⟨⟨⟨⟨⟨⟨⟨rfl, rfl⟩, rfl⟩, hlim⟩, hby⟩, hL⟩, hM⟩, hM6⟩ := hchk
  rw [heapGet_eq] at hb hy
  simp only [Option.some.injEq, Prod.mk.injEq] at e
  obtain ⟨rfl, rfl⟩ := e
  have hne : b ≠ y := by
    rintro rfl
    rw [Nat.beq_refl] at hby
    cases hby
  have hlim2 : (h.put b .dead).next < (h.put b .dead).lim := hlim
  refine ⟨(Nx.kill h b).trans (Nx.push hlim2), ?_⟩
  intro B m args' w ha hr hG
  obtain ⟨al⟩ := args'
  have hal : al.length = 3 := ha.1.symm
  obtain ⟨s', i', v', rfl⟩ : ∃ p q r, al = [p, q, r] := by
    match al, hal with
    | [p, q, r], _ => exact ⟨p, q, r, rfl⟩
  have hs : VRel m (.slice (some ⟨b, 0, none⟩) 1 OPEN) s' := ha.2 0 (by simp) (by simp)
  have hi : VRel m (.int .i64 (.ofNat 0)) i' := ha.2 1 (by simp) (by simp)
  have hv : VRel m (.slice (some ⟨y, 0, none⟩) 1 1) v' := ha.2 2 (by simp) (by simp)
  obtain ⟨l, hl, hcap, rfl⟩ := open_inv (by decide) hs
  obtain ⟨ly, hly, rfl⟩ := known_inv (by decide) (by unfold HALF; decide) hv
  have hi' : i' = .int .i64 (.ofNat 0) := by cases hi; rfl
  subst hi'
  have liveB : h.get b ≠ .dead := by rw [hb]; intro q; cases q
  have liveY : h.get y ≠ .dead := by rw [hy]; intro q; cases q
  obtain ⟨x, e1, hpl, p⟩ := hr.obj b liveB
  rw [hl] at e1
  obtain rfl := Option.some.inj e1
  rw [hb] at p
  obtain ⟨C, fr, q1, q2, q3, q4, q5⟩ := p
  obtain ⟨x, e1, hpy, p⟩ := hr.obj y liveY
  rw [hly] at e1
  obtain rfl := Option.some.inj e1
  rw [hy] at p
  obtain ⟨D, fr', r1, r2, r3, r4, r5⟩ := p
  have hblk : l.blk ≠ ly.blk := fun q => hne (hr.sep b y l ly liveB liveY (by rw [hy]; rfl) hl hly q)
  have pb : B.prot l.blk = none := protOf_none hpl (by rw [hb]; rfl)
  have py : B.prot ly.blk = none := protOf_none hpy (by rw [hy]; rfl)
  obtain ⟨hcs, _, hcapH, _⟩ := q5 6 info197
  -- the small memory
  let B0 : Base := ⟨fun k => if k = l.blk ∨ k = ly.blk then none else w.heap[k]?, w.os, w.tape, w.output⟩
  let m0 : Mu := fun z => if z = 15 then some l else if z = 16 then some ly else if z < 7 then m z else none
  have hG0 : GRel 7 m0 := fun g hg => by
    obtain ⟨x, a, b⟩ := hG g hg
    refine ⟨x, ?_, b⟩
    show (if g = 15 then some l else if g = 16 then some ly else if g < 7 then m g else none) = _
    rw [if_neg (by omega), if_neg (by omega), if_pos hg]
    exact a
  have hm15 : m0 15 = some l := if_pos rfl
  have hm16 : m0 16 = some ly := by
    show (if 16 = 15 then some l else if 16 = 16 then some ly else _) = _
    rw [if_neg (by decide), if_pos rfl]
  have okY : OKObj Tryz.prog m0 ly w (.cells (rowFn (recF M) 6) 197) := by
    refine ⟨D, fr', r1, r2, ?_, fun i u hu => ?_, r5⟩
    · have : 5 < M.len := Row.lt_of_get? (recOk_get hM J0 5 (by decide))
      show ly.off + 6 ≤ _
      omega
    · obtain ⟨hi, rfl⟩ := rowFn_lt hu
      obtain ⟨u', a1, a2⟩ := r4 i _ (recOk_get hM J0 i hi)
      have hf := rec6_flat (xs M) (st M) J0 i hi
      obtain rfl := a2.of_flat 8 hf
      exact ⟨_, a1, vflat_rel _ 8 _ hf⟩
  have rel0 : ∀ (k : Nat) (f : Nat → Value), OKObj Tryz.prog m0 l w (.cells (rowFn f k) 197) → Rel Tryz.prog B0 m0 (hI k f (recF M)) w := by
    intro k f hok
    refine ⟨rfl, rfl, rfl, fun z o hz => ?_, fun z hz => ?_, fun z z' l1 l2 hz hz' _ e1 e2 he => ?_, fun z h1 h2 => ?_⟩
    · have hz' : (if z = l.blk ∨ z = ly.blk then none else w.heap[z]?) = some o := hz
      split at hz'
      · cases hz'
      · exact hz'
    · rw [hI_get] at hz ⊢
      by_cases c16 : z = 16
      · subst c16
        rw [if_pos rfl]
        exact ⟨ly, hm16, protOf_mk (fun q => by cases q) (fun _ => if_pos (.inr rfl)), okY⟩
      · rw [if_neg c16] at hz ⊢
        by_cases c15 : z = 15
        · subst c15
          rw [if_pos rfl]
          exact ⟨l, hm15, protOf_mk (fun q => by cases q) (fun _ => if_pos (.inl rfl)), hok⟩
        · rw [if_neg c15] at hz
          exact absurd rfl hz
    · have cs : ∀ z, (hI k f (recF M)).get z ≠ .dead → z = 15 ∨ z = 16 := by
        intro z hz
        rw [hI_get] at hz
        by_cases c16 : z = 16
        · exact .inr c16
        · rw [if_neg c16] at hz
          by_cases c15 : z = 15
          · exact .inl c15
          · rw [if_neg c15] at hz; exact absurd rfl hz
      rcases cs z hz with rfl | rfl <;> rcases cs z' hz' with rfl | rfl
      · rfl
      · rw [hm15] at e1; rw [hm16] at e2
        obtain rfl := Option.some.inj e1
        obtain rfl := Option.some.inj e2
        exact absurd he hblk
      · rw [hm16] at e1; rw [hm15] at e2
        obtain rfl := Option.some.inj e1
        obtain rfl := Option.some.inj e2
        exact absurd he.symm hblk
      · rfl
    · have h1' : 17 ≤ z := h1
      refine ⟨?_, ?_⟩
      · rw [hI_get, if_neg (by omega), if_neg (by omega)]
      · show (if z = 15 then some l else if z = 16 then some ly else if z < 7 then m z else none) = none
        rw [if_neg (by omega), if_neg (by omega), if_neg (by omega)]
  -- what is there behind it
  have fin : ∀ (m1 : Mu) (w' : World) (hA : AHeap) (zb : Nat) (l2 : Ab.Loc) (J J2 : Nat → Value), Rel Tryz.prog B0 m1 hA w' → rowL (hA.get zb) = some (197, 12, listG (F12 (rec6 (xs L) (st L) J) (rec6 (xs M) (st M) J2)) 12 0) → m1 zb = some l2 → m1 16 = some ly → rowL (hA.get 16) = some (197, 6, listG (rec6 (xs M) (st M) J2) 6 0) →
      (∀ c, h.get c ≠ .dead → c ≠ b → ∀ l1, m c = some l1 → l1.blk ≠ l2.blk) → B.prot l2.blk = none → 2 ≤ l2.cap →
      ∃ v' m', Ending.returned (.slice (some ⟨l2.blk, l2.off, none⟩) 2 l2.cap) = .returned v' ∧ Ext h m m' ∧ Rel Tryz.prog B m' ((h.put b .dead).push (.cells (rowFn (F12 (recF L) (recF M)) 12) 197)) w' ∧ VRel m' (.slice (some ⟨h.next, 0, none⟩) 2 OPEN) v' := by
    intro m1 w' hA zb l2 J J2 hr1 hrow hz hz16 hrow16 hsep hp2 hc2
    have live : ∀ c, (h.put b .dead).get c ≠ .dead → h.get c ≠ .dead ∧ c ≠ b := by
      intro c hc
      rw [AHeap.get_put] at hc
      by_cases cb : c = b
      · rw [if_pos cb] at hc; exact absurd rfl hc
      · rw [if_neg cb] at hc
        exact ⟨hc, cb⟩
    have okY2 : OKObj Tryz.prog m ly w' (.cells M 197) := by
      obtain ⟨t6, ht6, _⟩ := rowL_some hrow16
      obtain ⟨x, e1, _, p⟩ := hr1.obj 16 (by rw [ht6]; intro q; cases q)
      rw [hz16] at e1
      obtain rfl := Option.some.inj e1
      exact okRec hM hM6 hrow16 p
    have rk : Rel Tryz.prog B m (h.put b .dead) w' := by
      refine moved (hr.kill b) (fun z => z = l.blk ∨ z = ly.blk) hr1.os hr1.tape hr1.output (fun c hc l1 hl1 hS => ?_) (fun k hk => ?_) (fun k hk o ho => ?_)
      · obtain ⟨a1, a2⟩ := live c hc
        rcases hS with q | q
        · exact absurd (hr.sep c b l1 l a1 liveB (by rw [hb]; rfl) hl1 hl q) a2
        · have e := hr.sep c y l1 ly a1 liveY (by rw [hy]; rfl) hl1 hly q
          subst e
          rw [hly] at hl1
          obtain rfl := Option.some.inj hl1
          rw [AHeap.get_put, if_neg a2, hy]
          exact okY2
      · rcases hk with rfl | rfl
        · exact pb
        · exact py
      · exact hr1.prot k o ((if_neg hk : (if k = l.blk ∨ k = ly.blk then none else w.heap[k]?) = _).trans ho)
    obtain ⟨t, ht, hlist⟩ := rowL_some hrow
    obtain ⟨x, e1, _, p⟩ := hr1.obj zb (by rw [ht]; intro q; cases q)
    rw [hz] at e1
    obtain rfl := Option.some.inj e1
    rw [ht] at p
    obtain ⟨C2, fr2, a1, a2, a3, a4, a5⟩ := p
    have okN : OKObj Tryz.prog (m.add (h.put b .dead).next l2) l2 w' (.cells (rowFn (F12 (recF L) (recF M)) 12) 197) := by
      refine ⟨C2, fr2, a1, a2, a3, fun i u hu => ?_, a5⟩
      obtain ⟨hi, rfl⟩ := rowFn_lt hu
      have hg : Row.get? ⟨12, t⟩ i = some (F12 (recF L) (recF M) i) := by
        rw [Row.get?_eq]
        rw [if_pos (show i < 12 from hi)]
        rw [listF_get 12 0 hlist i (Nat.zero_le _) (by omega)]
        exact congrArg some (F12_J _ _ _ _ _ _ _ _ i hi)
      obtain ⟨u', b1, b2⟩ := a4 i _ hg
      have hf := F12_flat (xs L) (xs M) (st L) (st M) J0 J0 i hi
      obtain rfl := b2.of_flat 8 hf
      exact ⟨_, b1, vflat_rel _ 8 _ hf⟩
    have rp := Rel.push (w := w') (w' := w') rk hlim2 (l := l2) rfl rfl rfl (fun _ _ _ => rfl) hp2 (fun c l1 hc hl1 => by
      obtain ⟨d1, d2⟩ := live c hc
      exact hsep c d1 d2 l1 hl1) okN
    refine ⟨_, _, rfl, ?_, rp, ?_⟩
    · exact Ext.add (h := h) (hr.fresh _ (Nat.le_refl _) hlim).2 hlim
    · have := VRel.oslice (m := m.add h.next l2) h.next 0 2 0 l2 (Mu.add_self _ _ _) (Nat.zero_le _) (by unfold HALF; decide) (by simpa using hc2)
      show VRel (m.add h.next l2) (.slice (some ⟨h.next, 0, none⟩) 2 OPEN) _
      simpa using this
  by_cases hone : l.cap = 1
  · -- there is no room
    have okX : OKObj Tryz.prog m0 l w (.cells (rowFn (recF L) 6) 197) := by
      refine ⟨C, fr, q1, q2, ?_, fun i u hu => ?_, q5⟩
      · have : 5 < L.len := Row.lt_of_get? (recOk_get hL J0 5 (by decide))
        show l.off + 6 ≤ _
        omega
      · obtain ⟨hi, rfl⟩ := rowFn_lt hu
        obtain ⟨u', a1, a2⟩ := q4 i _ (recOk_get hL J0 i hi)
        have hf := rec6_flat (xs L) (st L) J0 i hi
        obtain rfl := a2.of_flat 8 hf
        exact ⟨_, a1, vflat_rel _ 8 _ hf⟩
    obtain ⟨hA, hc, hrow, hl15, hrow16⟩ := roadA_of (roadA (xs L) (xs M) (st L) (st M) J0 J0)
    have harel : ARel m0 #[sX 1 1, i64 0, sY] #[.slice (some ⟨l.blk, l.off, none⟩) 1 l.cap, .int .i64 (.ofNat 0), .slice (some ⟨ly.blk, ly.off, none⟩) 1 1] := by
      refine ⟨rfl, fun i a1 a2 => ?_⟩
      match i, a1, a2 with
      | 0, _, _ =>
        have := VRel.slice (m := m0) 15 0 1 1 l hm15 (by unfold HALF; decide)
        show VRel m0 (sX 1 1) (.slice (some ⟨l.blk, l.off, none⟩) 1 l.cap)
        rw [hone]
        exact this
      | 1, _, _ => exact .int _ _
      | 2, _, _ => exact VRel.slice (m := m0) 16 0 1 1 ly hm16 (by unfold HALF; decide)
    refine (sound_of CBiok hc harel (rel0 6 _ okX) hG0).mono ?_
    · rintro e w' ⟨u, m1, rfl, hext, hr1, hu⟩
      obtain ⟨l2, hl2, hc2, rfl⟩ := open_inv (by decide) hu
      have live17 : hA.get 17 ≠ .dead := by
        obtain ⟨t, ht, _⟩ := rowL_some hrow
        rw [ht]; intro q; cases q
      have ro17 : isRo (hA.get 17) = false := by
        obtain ⟨t, ht, _⟩ := rowL_some hrow
        rw [ht]; rfl
      obtain ⟨x, e1, hp17, _⟩ := hr1.obj 17 live17
      rw [hl2] at e1
      obtain rfl := Option.some.inj e1
      have hp := protOf_none hp17 ro17
      have n1 : l2.blk ≠ l.blk := fun q => by
        have := hr1.sep 15 17 l l2 (liveO hl15) live17 ro17 (hext.1 _ _ hm15) hl2 q.symm
        cases this
      have n2 : l2.blk ≠ ly.blk := fun q => by
        have := hr1.sep 16 17 ly l2 (by obtain ⟨t6, ht6, _⟩ := rowL_some hrow16; rw [ht6]; intro q; cases q) live17 ro17 (hext.1 _ _ hm16) hl2 q.symm
        cases this
      have hfree : w.heap[l2.blk]? = none := by
        have : (if l2.blk = l.blk ∨ l2.blk = ly.blk then none else w.heap[l2.blk]?) = none := hp
        rwa [if_neg (by rintro (q | q); exact n1 q; exact n2 q)] at this
      refine fin m1 w' hA 17 l2 J0 J0 hr1 hrow hl2 (hext.1 _ _ hm16) hrow16 (fun c hc1 _ l1 hl1 q => ?_) ?_ hc2
      · have := hr.lt_size hc1 hl1
        rw [q] at this
        rw [Array.getElem?_eq_getElem this] at hfree
        cases hfree
      · cases hb2 : B.prot l2.blk with
        | none => rfl
        | some o => rw [hr.prot _ _ hb2] at hfree; cases hfree
  · -- there is room
    have htwo : 2 ≤ l.cap := by omega
    let J : Nat → Value := fun i => (all_rel m0 (C.getD (l.off + i) undef)).choose
    have okX : OKObj Tryz.prog m0 l w (.cells (rowFn (rec6 (xs L) (st L) J) 12) 197) := by
      have h12 : l.off + 12 ≤ C.size := by
        have : 2 * 6 ≤ l.cap * 6 := Nat.mul_le_mul_right _ htwo
        omega
      refine ⟨C, fr, q1, q2, h12, fun i u hu => ?_, q5⟩
      obtain ⟨hi, rfl⟩ := rowFn_lt hu
      by_cases c6 : i < 6
      · obtain ⟨u', a1, a2⟩ := q4 i _ (recOk_get hL J i c6)
        have hf := rec6_flat (xs L) (st L) J i c6
        obtain rfl := a2.of_flat 8 hf
        exact ⟨_, a1, vflat_rel _ 8 _ hf⟩
      · have e6 : rec6 (xs L) (st L) J i = J i := by
          unfold rec6
          rw [show Nat.blt i 5 = false by cases q : Nat.blt i 5 with | false => rfl | true => rw [Nat.blt_eq] at q; omega, show Nat.blt i 6 = false by cases q : Nat.blt i 6 with | false => rfl | true => rw [Nat.blt_eq] at q; omega]
        have hlt : l.off + i < C.size := by omega
        refine ⟨C[l.off + i], Array.getElem?_eq_getElem hlt, ?_⟩
        rw [e6]
        have e7 : C.getD (l.off + i) undef = C[l.off + i] := by rw [Array.getD_eq_getD_getElem?, Array.getElem?_eq_getElem hlt]; rfl
        rw [← e7]
        exact (all_rel m0 (C.getD (l.off + i) undef)).choose_spec
    obtain ⟨f, hf⟩ : ∃ f, FT 215 = some f ∧ f = Tryz.f215 := ⟨_, by kernel_rfl, rfl⟩
    obtain ⟨hft, rfl⟩ := hf
    have hrunB := roadB l.cap (rec6 (xs L) (st L) J) (recF M)
    have hrunC := roadB2 l.cap (xs L) (xs M) (st L) (st M) J J0
    have harel : ARel m0 #[sX 1 l.cap, i64 0, sY] #[.slice (some ⟨l.blk, l.off, none⟩) 1 l.cap, .int .i64 (.ofNat 0), .slice (some ⟨ly.blk, ly.off, none⟩) 1 1] := by
      refine ⟨rfl, fun i a1 a2 => ?_⟩
      match i, a1, a2 with
      | 0, _, _ => exact VRel.slice (m := m0) 15 0 1 l.cap l hm15 hcapH
      | 1, _, _ => exact .int _ _
      | 2, _, _ => exact VRel.slice (m := m0) 16 0 1 1 ly hm16 (by unfold HALF; decide)
    refine calls_of_wp (table.has 215 _ hft) hasBodyI ?_
    have hbody : Tryz.f215.ntmps = 95 := by kernel_rfl
    generalize hy9 : yB l.cap (rec6 (xs L) (st L) J) (recF M) = Y at hrunB
    simp only [Prod.mk.injEq] at hrunB
    obtain ⟨g1, g2, g3⟩ := hrunB
    have hinit : TRel m0 95 (initT [sX 1 l.cap, i64 0, sY] 0 .leaf) ((#[.slice (some ⟨l.blk, l.off, none⟩) 1 l.cap, .int .i64 (.ofNat 0), .slice (some ⟨ly.blk, ly.off, none⟩) 1 1] : Array Value) ++ Array.replicate (95 - 3) undef) := initT_rel harel (show 3 ≤ 95 by decide)
    rw [hbody]
    refine goNCE_wp (DB := DBi) entersOk zerosOk CBiok CCiok DCiok DBiok (B := B0) (m := m0) kI hy9 g1 (by rw [g2]; exact revN_ok _ _ (notes_two htwo hcapH) NotedOk.nil) hinit (rel0 12 _ okX) hG0 ?_
    intro m1 a1 w1 hle1 hT1 hd1 hr1
    have h0 := hT1.rel 0
    rw [g3] at h0
    obtain ⟨l3, hl3, hs3⟩ := known_inv (by decide) hcapH h0
    have e3 := hle1 _ _ hm15
    rw [hl3] at e3
    obtain rfl := Option.some.inj e3
    have hopen : VRel m1 (sX 2 OPEN) (a1.tmps.getD 0 undef) := by
      rw [hs3]
      have := VRel.oslice (m := m1) 15 0 2 0 l3 hl3 (Nat.zero_le _) (by unfold HALF; decide) (by simpa using htwo)
      show VRel m1 (.slice (some ⟨15, 0, none⟩) 2 OPEN) _
      simpa using this
    revert hrunC
    unfold endI
    rw [show recF M = rec6 (xs M) (st M) J0 from rfl] at hy9
    rw [hy9]
    intro hrunC
    obtain ⟨o, hc, f1, f2, f3, f4⟩ := roadB_of hrunC
    · refine lastR_wp (DB := DBi) entersOk zerosOk CBiok CCiok DCiok DBiok (B := B0) (m := m1) plI okI hc (by rw [f3]; exact NotedOk.nil) (TRel.turn hT1 hopen) hr1 (hG0.mono hle1) hd1 ?_
      intro m2 v2 w2 hext2 hr2 hv2
      rw [f1] at hv2
      obtain ⟨l4, hl4, hc4, rfl⟩ := open_inv (by decide) hv2
      have e4 := hext2.1 _ _ hl3
      rw [hl4] at e4
      obtain rfl := Option.some.inj e4
      exact fin m2 w2 o.h 15 l4 J J0 hr2 f2 hl4 (hext2.1 _ _ (hle1 _ _ hm16)) f4 (fun c hc1 cb l1 hl1 q => cb (hr.sep c b l1 l4 hc1 liveB (by rw [hb]; rfl) hl1 hl q)) pb hc4
theorem insertK_sound : CallSound Tryz.prog 7 insertK.call := by
  intro f args h v h' e
  unfold Known.call insertK at e
  split at e
  · rename_i g hg
    split at hg
    · rename_i hb
      rw [Nat.beq_eq] at hb
      subst hb
      cases hg
      exact insertG_sound e
    · cases hg
  · cases e
end Go.Proofs.YtdkomnkcemmdoaaGreatDoor.node
