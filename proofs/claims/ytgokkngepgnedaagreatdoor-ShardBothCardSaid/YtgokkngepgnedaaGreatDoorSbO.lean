/- ShardBoth, walked. -/
import Derived.Test.YtgokkngepgnedaaGreatDoorSbJ
import Derived.Test.YtgokkngepgnedaaGreatDoorSbK
import Derived.Test.YtgokkngepgnedaaGreatDoorSbN
namespace Go.Proofs.YtgokkngepgnedaaGreatDoor.shardBoth
open Go Go.Ab Go.RowKit
set_option maxRecDepth 100000
theorem norm_of {r : RCC} {lg : Noted} (h : isN r = some lg) : ∃ tp, r = .normal (stOf r).1 (stOf r).2 tp lg := by
  cases r with
  | normal T h2 tp lg2 => cases h; exact ⟨tp, rfl⟩
  | _ => cases h
theorem exit_of {r : RCC} {id : Nat} {lg : Noted} (h : isX r = some (id, lg)) : ∃ tp, r = .exit id (stOf r).1 (stOf r).2 tp lg := by
  cases r with
  | exit id2 T h2 tp lg2 => cases h; exact ⟨tp, rfl⟩
  | _ => cases h
theorem normG {n : Nat} {d : List UInt8} {s : St} {tp : Ab.Tape} {lg : Noted} {B : Base} {m : Mu} {a : Act} {w : World} {Q : Exit → Act → World → Prop} {R : RCC} (hR : rnd n d s tp = R) (hx : isN R = some lg) (hl : NotedOk lg) (hT : TRel m 173 s.1 a.tmps) (hr : Rel Tryz.prog B m s.2 w) (hG : GRel 2 m)
    (hQ : ∀ m' a' w', GRel 2 m' → TRel m' 173 (stOf R).1 a'.tmps → a'.defers = a.defers → Rel Tryz.prog B m' (stOf R).2 w' → Q .normal a' w') : lp.wp Tryz.prog Q a w := by
  obtain ⟨tp', hx'⟩ := norm_of hx
  exact oneC_wp (n := 173) (mk := mk 3) (K := 1000) (e := .normal) (s := s) (s' := stOf R) entersOk zerosOk (CBok n d) (CCok n d mk) (DCok n d mk) (DBok n d) plL okL (hR.trans hx') hl hT hr hG hQ
theorem exitG {n : Nat} {d : List UInt8} {s : St} {tp : Ab.Tape} {lg : Noted} {B : Base} {m : Mu} {a : Act} {w : World} {Q : Exit → Act → World → Prop} {R : RCC} {id : Nat} (hR : rnd n d s tp = R) (hx : isX R = some (id, lg)) (hl : NotedOk lg) (hT : TRel m 173 s.1 a.tmps) (hr : Rel Tryz.prog B m s.2 w) (hG : GRel 2 m)
    (hQ : ∀ m' a' w', GRel 2 m' → TRel m' 173 (stOf R).1 a'.tmps → a'.defers = a.defers → Rel Tryz.prog B m' (stOf R).2 w' → Q (.exit id) a' w') : lp.wp Tryz.prog Q a w := by
  obtain ⟨tp', hx'⟩ := exit_of hx
  exact oneC_wp (n := 173) (mk := mk 3) (K := 1000) (e := .exit id) (s := s) (s' := stOf R) entersOk zerosOk (CBok n d) (CCok n d mk) (DCok n d mk) (DBok n d) plL okL (hR.trans hx') hl hT hr hG hQ
/-! ### The posts' row -/
/-- Behind so many and one posts. -/
structure Posts (m : Nat) (R : Row) : Prop where
  len : R.len = (m + 1) * 2
  get : ∀ i v, R.get? i = some v → v = pF i
  lt : ∀ i, i < (m + 1) * 2 → R.get? i = some (pF i)
theorem post_get {i : Nat} {v : Value} (m : Nat) (h : post1[i]? = some v) : v = pF ((m + 1) * 2 + i) ∧ i < 2 := by
  match i, h with
  | 0, h =>
    obtain rfl := Option.some.inj h
    refine ⟨?_, by omega⟩
    unfold pF
    rw [show ((m + 1) * 2 + 0) % 2 = 0 by omega]
  | 1, h =>
    obtain rfl := Option.some.inj h
    refine ⟨?_, by omega⟩
    unfold pF
    rw [show ((m + 1) * 2 + 1) % 2 = 1 by omega]
  | i + 2, h => cases h
theorem post_some {i : Nat} (h : i < 2) : ∃ v, post1[i]? = some v := by
  match i, h with
  | 0, _ => exact ⟨_, rfl⟩
  | 1, _ => exact ⟨_, rfl⟩
theorem posts0 : Posts 0 (Row.ofList post1) := by
  refine ⟨rfl, fun i v h => ?_, fun i h => ?_⟩
  · rw [Row.ofList_get?] at h
    match i, h with
    | 0, h => obtain rfl := Option.some.inj h; rfl
    | 1, h => obtain rfl := Option.some.inj h; rfl
    | i + 2, h => cases h
  · rw [Row.ofList_get?]
    match i, h with
    | 0, _ => rfl
    | 1, _ => rfl
    | i + 2, h => omega
theorem posts1 {m : Nat} {R : Row} (h : Posts m R) : Posts (m + 1) (R.more post1) := by
  have hl : R.len = (m + 1) * 2 := h.len
  refine ⟨?_, fun i v hi => ?_, fun i hi => ?_⟩
  · show R.len + 2 = _
    rw [hl]; omega
  · rw [Row.more_get?] at hi
    split at hi
    · exact h.get i v hi
    · rename_i hlt
      rw [hl] at hi hlt
      have := (post_get m hi).1
      rwa [show (m + 1) * 2 + (i - (m + 1) * 2) = i by omega] at this
  · rw [Row.more_get?]
    split
    · rename_i hlt
      exact h.lt i (by omega)
    · rename_i hlt
      rw [hl] at hlt ⊢
      obtain ⟨v, hv⟩ := post_some (i := i - (m + 1) * 2) (by omega)
      rw [hv]
      have := (post_get m hv).1
      rwa [show (m + 1) * 2 + (i - (m + 1) * 2) = i by omega, ← Option.some.injEq] at this
theorem posts_one {m : Nat} {R : Row} (h : Posts m R) (t : TypeId) : OneForm (.cells R t) := .inr ⟨_, _, .inr rfl, fun i v hv => by rw [h.get i v hv]; exact pF_flat i⟩
theorem posts_as {m : Nat} {R : Row} (h : Posts m R) {P : Program} {mu : Mu} {l : Ab.Loc} {w : World} (hok : OKObj P mu l w (.cells R 131)) : OKObj P mu l w (pO (m + 1)) := by
  obtain ⟨C, fr, h1, h2, h3, h4, h5⟩ := hok
  refine ⟨C, fr, h1, h2, by rw [h.len] at h3; exact h3, fun i v hv => ?_, h5⟩
  obtain ⟨hlt, rfl⟩ := rowFn_lt hv
  exact h4 i _ (h.lt i hlt)
theorem h142 (m : Nat) (R : Row) : (hP m R).get 142 = .cells R 131 := by
  unfold hP
  rw [heapPut_eq, AHeap.get_put, if_pos rfl]
theorem b142 : heapGet hB 142 = .dead := by kernel_rfl
/-! ### Rounds -/
structure At (W : World) (s : St) (m : Mu) (a : Act) (w : World) : Prop where
  g : GRel 2 m
  t : TRel m 173 s.1 a.tmps
  q : Rel Tryz.prog (baseOf W) m s.2 w
/-- Behind no post. -/
def In0 (W : World) (n : Nat) (to : Int) (ok : Bool) (a : Act) (w : World) : Prop := ∃ m jt, At W (P0 n to ok jt) m a w
/-- Behind so many and one posts. -/
def InS (W : World) (n : Nat) (to : Int) (ok : Bool) (k : Nat) (a : Act) (w : World) : Prop := ∃ R m jt, Posts k R ∧ At W (P1 n to ok k R jt) m a w
theorem canonP {W : World} {n : Nat} {to : Int} {ok : Bool} {k : Nat} {R : Row} (h : Posts k R) {s : St} {m : Mu} {a : Act} {w : World} (hc : ∀ jt jh, canonS (shP s) 2 s jt jh = some (P1 n to ok k R jt)) (hT : TRel m 173 s.1 a.tmps) (hr : Rel Tryz.prog (baseOf W) m s.2 w) (hG : GRel 2 m) : InS W n to ok k a w := by
  obtain ⟨m3, j3, _, g3, t3, q3, _⟩ := canonW (S := shP s) (S2 := fun jt _ => P1 n to ok k R jt) (fun _ => rfl) (fun jt _ y hy => by
    obtain rfl := Nat.eq_of_beq_eq_true (show Nat.beq y 142 = true from hy)
    show FixO Tryz.prog _ ((hP k R).get 142)
    rw [h142]
    exact FixO.of_one (posts_one h 131)) (fun _ _ _ h => by cases h) hc hT hr hG
  exact ⟨R, m3, j3, h, g3, t3, q3⟩
theorem turn0 {W : World} {n : Nat} {to : Int} {ok : Bool} {a : Act} {w : World} {Q : Exit → Act → World → Prop} (hn : 0 < n) (h31 : n ≤ 31) (hI : In0 W n to ok a w) (hk : ∀ a' w', a'.defers = a.defers → InS W n to ok 0 a' w' → Q .normal a' w') : lp.wp Tryz.prog Q a w := by
  obtain ⟨m, j0, hI⟩ := hI
  have hc := fun jt jh => t0 n (enc n) to ok j0 jt jh
  refine normG (R := R0 n (enc n) to ok j0) rfl (Prod.mk.inj (hc j0 (fun _ _ => undef))).1 (revN_ok _ _ (rd_ok hn h31 (by omega) ⟨rfl, rfl, rfl⟩) NotedOk.nil) hI.t hI.q hI.g ?_
  intro m1 a1 w1 g1 t1 d1 q1
  exact hk a1 w1 d1 (canonP posts0 (fun jt jh => (Prod.mk.inj (hc jt jh)).2) t1 q1 g1)
theorem turnS {W : World} {n k : Nat} {to : Int} {ok : Bool} {a : Act} {w : World} {Q : Exit → Act → World → Prop} (hn : k + 1 < n) (h31 : n ≤ 31) (hI : InS W n to ok k a w) (hk : ∀ a' w', a'.defers = a.defers → InS W n to ok (k + 1) a' w' → Q .normal a' w') : lp.wp Tryz.prog Q a w := by
  obtain ⟨R, m, j0, hR, hI⟩ := hI
  have hc := fun jt jh => t1 n (enc n) to ok k R j0 jt jh
  refine normG (R := R1 n (enc n) to ok k R j0) rfl (Prod.mk.inj (hc j0 (fun _ _ => undef))).1 (revN_ok _ _ (rd_ok hn h31 (by omega) (appN_ok (by omega) hR.len.symm)) NotedOk.nil) hI.t hI.q hI.g ?_
  intro m1 a1 w1 g1 t1 d1 q1
  exact hk a1 w1 d1 (canonP (posts1 hR) (fun jt jh => (Prod.mk.inj (hc jt jh)).2) t1 q1 g1)
theorem outX (m : Nat) (d : List UInt8) (to : Int) (ok : Bool) (j0 : Nat → Value) : isX (out (m + 1) d (P1 (m + 1) to ok m (rowFn pF ((m + 1) * 2)) j0)) = some (0, [ltP (.ofNat (m + 1)) (.ofNat (m + 1)) false]) := by kernel_rfl
abbrev Q0 (W : World) : Exit → Act → World → Prop := bodyPost Tryz.prog Tryz.f3 fun e w' => e = .returned Tr ∧ Below W.heap.size W w'
abbrev QL (W : World) : Exit → Act → World → Prop := Exit.inBlock 0 (Exit.then (rest.wp Tryz.prog (Q0 W)) (Q0 W))
theorem some_of {o : Option OutC} {lg : Noted} (h : saidOf o = some (Tr, lg)) : ∃ x, o = some x ∧ x.v = Tr ∧ x.lg = lg := by
  cases o with
  | none => cases h
  | some x =>
    simp only [saidOf, Option.some.injEq, Prod.mk.injEq] at h
    exact ⟨x, rfl, h⟩
theorem leaves {W : World} {m x : Nat} {to : Int} {ok : Bool} {a : Act} {w : World} {Rn : Act → World → Prop} (ht : bandF to 15 = .ofNat x) (hx : x < 16) (hm : m + 1 ≤ 31) (hI : InS W (m + 1) to ok m a w) (hd : a.defers = []) : lp.wp Tryz.prog (Exit.then Rn (QL W)) a w := by
  obtain ⟨R, mu, j0, hR, hI⟩ := hI
  have q2 : Rel Tryz.prog (baseOf W) mu (P1 (m + 1) to ok m (rowFn pF ((m + 1) * 2)) j0).2 w := by
    have hq : Rel Tryz.prog (baseOf W) mu (hP m R) w := hI.q
    have e : hP m (rowFn pF ((m + 1) * 2)) = (hP m R).put 142 (pO (m + 1)) := by
      unfold hP
      simp only [heapPut_eq]
      exact (AHeap.put_put _ _ _ _).symm
    show Rel Tryz.prog (baseOf W) mu (hP m (rowFn pF ((m + 1) * 2))) w
    rw [e]
    refine hq.reobj (by rw [h142]; exact fun q => by cases q) (by rw [h142]; rfl) fun l _ hok => ?_
    rw [h142] at hok
    exact posts_as hR hok
  refine exitG (R := out (m + 1) (enc (m + 1)) (P1 (m + 1) to ok m (rowFn pF ((m + 1) * 2)) j0)) rfl (outX m (enc (m + 1)) to ok j0) (one (lt_no (Int.le_refl _))) hI.t q2 hI.g ?_
  intro m1 a1 w1 g1 t1 d1 q1
  show rest.wp Tryz.prog (Q0 W) a1 w1
  have key : ∃ tp lg, NotedOk lg ∧ saidOf (fin m (enc (m + 1)) to ok j0 tp) = some (Tr, lg) := by
    cases ok with
    | false => exact ⟨_, _, revN_ok _ _ (no_ok ht hx hm) NotedOk.nil, no m (enc (m + 1)) to j0 hx⟩
    | true => exact ⟨_, _, revN_ok _ _ (ok_ok (pbX x) ht hx hm) NotedOk.nil, yes_ m (enc (m + 1)) to j0 hx⟩
  obtain ⟨tp, lg, hl, hs⟩ := key
  obtain ⟨o, ho, hv, rfl⟩ := some_of hs
  exact lastC_wp (n := 173) (mk := mk 3) (K := 1000) (fn := Tryz.f3) entersOk zerosOk (CBok (m + 1) (enc (m + 1))) (CCok (m + 1) (enc (m + 1)) mk) (DCok (m + 1) (enc (m + 1)) mk) (DBok (m + 1) (enc (m + 1))) plR okR rfl ho hv hl t1 q1 g1 (d1.trans hd)
theorem leavesZ {W : World} {x : Nat} {to : Int} {ok : Bool} {a : Act} {w : World} {Rn : Act → World → Prop} (ht : bandF to 15 = .ofNat x) (hx : x < 16) (hI : In0 W 0 to ok a w) (hd : a.defers = []) : lp.wp Tryz.prog (Exit.then Rn (QL W)) a w := by
  obtain ⟨mu, j0, hI⟩ := hI
  obtain ⟨tp', hx'⟩ := exit_of (leaves0 to ok j0)
  refine oneC_wp (n := 173) (mk := mkZ 3) (K := 1000) (e := .exit 0) (s := P0 0 to ok j0) (s' := stOf (outZ to ok j0)) entersOk zerosOk CBzok CCzok DCzok DBzok plL okL hx' NotedOk.nil hI.t hI.q hI.g ?_
  intro m1 a1 w1 g1 t1 d1 q1
  show rest.wp Tryz.prog (Q0 W) a1 w1
  obtain ⟨o, ho, hv, hlg⟩ := some_of (z_ to j0 hx ok)
  exact lastC_wp (n := 173) (mk := mkZ 3) (K := 1000) (fn := Tryz.f3) entersOk zerosOk CBzok CCzok DCzok DBzok plR okR rfl ho hv (by rw [hlg]; exact revN_ok _ _ (z_ok ht hx ok) NotedOk.nil) t1 q1 g1 (d1.trans hd)
theorem roundsS {W : World} {n x : Nat} {to : Int} {ok : Bool} (ht : bandF to 15 = .ofNat x) (hx : x < 16) (h31 : n ≤ 31) : ∀ (fuel k : Nat) (a : Act) (w : World), k < n → n - k ≤ fuel → InS W n to ok k a w → a.defers = [] → Code.rounds Tryz.prog lp (QL W) fuel a w := by
  intro fuel
  induction fuel with
  | zero => intro k a w h1 h2; omega
  | succ fuel ih =>
    intro k a w h1 h2 hI hd
    rw [rounds_succ]
    by_cases h : k + 1 = n
    · subst h
      exact leaves ht hx h31 hI hd
    · exact turnS (by omega) h31 hI fun a' w' hd' hI' => ih (k + 1) a' w' (by omega) (by omega) hI' (hd'.trans hd)
theorem rounds0 {W : World} {n x : Nat} {to : Int} {ok : Bool} (ht : bandF to 15 = .ofNat x) (hx : x < 16) (h31 : n ≤ 31) {a : Act} {w : World} (hI : In0 W n to ok a w) (hd : a.defers = []) : Code.rounds Tryz.prog lp (QL W) 33 a w := by
  rw [rounds_succ]
  rcases Nat.eq_zero_or_pos n with rfl | hn
  · exact leavesZ ht hx hI hd
  · exact turn0 hn h31 hI fun a' w' hd' hI' => roundsS ht hx h31 32 0 a' w' hn (by omega) hI' (hd'.trans hd)
/-- The function, walked. -/
theorem d6 : dropN 6 body = c6 := rfl
theorem walk (W : World) (po to : Int) (ok : Bool) : Calls Tryz.prog 3 #[i64 po, i64 to, .bool ok] W fun e w' => e = .returned Tr ∧ Below W.heap.size W w' := by
  obtain ⟨n, h31, hn⟩ := bandF_lt po (c := 31) (by decide)
  obtain ⟨x, h15, hx⟩ := bandF_lt to (c := 15) (by decide)
  refine calls_of_wp Tryz.func3 hasBody ?_
  have hT : TRel (muG 2) 173 (s0 po to ok).1 (#[i64 po, i64 to, .bool ok] ++ Array.replicate (Tryz.f3.ntmps - #[i64 po, i64 to, .bool ok].size) undef) :=
    initT_rel (args := #[i64 po, i64 to, .bool ok]) (args' := #[i64 po, i64 to, .bool ok]) (n := 173) ⟨rfl, fun i h1 h2 => (match i, h1, h2 with
      | 0, _, _ => .int _ _
      | 1, _, _ => .int _ _
      | 2, _, _ => .bool _)⟩ (show 3 ≤ 173 by decide)
  have hah := fun jt jh => begins n (enc n) po to ok jt jh
  obtain ⟨p1, p⟩ := Prod.mk.inj (hah (fun _ => undef) (fun _ _ => undef))
  obtain ⟨p2, p⟩ := Prod.mk.inj p
  obtain ⟨p3, p⟩ := Prod.mk.inj p
  obtain ⟨p4, _⟩ := Prod.mk.inj p
  have hs2 := fun jt jh => (Prod.mk.inj (Prod.mk.inj (Prod.mk.inj (Prod.mk.inj (hah jt jh)).2).2).2).2
  refine goNC_wp (n := 173) (mk := mkB 3) (K := 1000) (k := 6) (x := ⟨s0 po to ok, [e24 n], [], true⟩) (y := y1 n (enc n) po to ok) entersOk zerosOk (CBok n (enc n)) (CCok n (enc n) mkB) (DCok n (enc n) mkB) (DBok n (enc n)) k0 rfl p1 (by rw [p2]; exact begins_ok hn) hT (initRel 2 W) (muG_rel 2) ?_
  intro m1 a1 w1 g1 t1 dd1 q1
  rw [d6, e1]
  refine wp_seq (goNC_wp (n := 173) (mk := mkB 3) (K := 1000) (k := 1) (x := ⟨(y1 n (enc n) po to ok).s, [], [], true⟩) (y := y2 n (enc n) po to ok) entersOk zerosOk (CBok n (enc n)) (CCok n (enc n) mkB) (DCok n (enc n) mkB) (DBok n (enc n)) k1 rfl p3 (by rw [p4]; exact NotedOk.nil) t1 q1 g1 ?_)
  intro m2 a2 w2 g2 t2 dd2 q2
  rw [e2]
  obtain ⟨m3, j3, _, g3, t3, q3, _⟩ := canonW (S := sh0 (y2 n (enc n) po to ok).s) (S2 := fun jt _ => P0 n to ok jt) (fun _ => rfl) (fun jt _ y hy => by
    obtain rfl := Nat.eq_of_beq_eq_true (show Nat.beq y 142 = true from hy)
    show FixO Tryz.prog _ (hB.get 142)
    rw [← heapGet_eq, b142]
    exact FixO.dead) (fun _ _ _ h => by cases h) hs2 t2 q2 g2
  exact wp_block (wp_loop_rounds 33 (rounds0 hx (by omega) h31 ⟨m3, j3, g3, t3, q3⟩ (dd2.trans dd1)))
end Go.Proofs.YtgokkngepgnedaaGreatDoor.shardBoth
