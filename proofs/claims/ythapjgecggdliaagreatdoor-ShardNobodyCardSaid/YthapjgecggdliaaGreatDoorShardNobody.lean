/- ShardNobody is proved: a machine that nobody made answers nothing, for every command and numbers, and which groups there are; the package-level tables that the row lists are tied to the text by the card. -/
import Derived.Test.YthapjgecggdliaaGreatDoorAbV
import Derived.Test.YthapjgecggdliaaGreatDoorShardNobodyB
import Derived.Test.YthapjgecggdliaaGreatDoorShardNobodyC
import Derived.Test.YthapjgecggdliaaGreatDoorCards
import Derived.Test.YthapjgecggdliaaGreatDoorTie
import Derived.WalkKit
namespace Go.Proofs.YthapjgecggdliaaGreatDoor.shardNobody
open Go Go.Ab Go.ChangeShapes Go.WideShapes Go.ChangeAt Go.RowKit
set_option maxRecDepth 100000
def ks20 : List LK := [.i .i64, .i .i64, .i .i64, .i .i64, .s, .s, .s, .s, .s, .s, .i .i64, .i .i64, .i .i64, .i .i64, .i .i64, .i .i64, .i .i64, .b, .i .i64, .s]
theorem leaves40 : leavesK Tryz.prog 30 40 = some ks20 := by kernel_rfl
def nthI : List Int → Nat → Int
  | [], _ => 0
  | x :: _, 0 => x
  | _ :: l, k + 1 => nthI l k
def nthS : List ByteArray → Nat → ByteArray
  | [], _ => ⟨#[]⟩
  | x :: _, 0 => x
  | _ :: l, k + 1 => nthS l k
theorem allOk_i {k : IntKind} {ks : List LK} {l : List Value} (h : AllOk (.i k :: ks) l) : ∃ n vs, l = .int k n :: vs ∧ AllOk ks vs := by
  cases l with
  | nil => exact h.elim
  | cons v vs => obtain ⟨⟨n, rfl⟩, h⟩ := h; exact ⟨n, vs, rfl, h⟩
theorem allOk_s {ks : List LK} {l : List Value} (h : AllOk (.s :: ks) l) : ∃ n vs, l = .string n :: vs ∧ AllOk ks vs := by
  cases l with
  | nil => exact h.elim
  | cons v vs => obtain ⟨⟨n, rfl⟩, h⟩ := h; exact ⟨n, vs, rfl, h⟩
theorem allOk_b {ks : List LK} {l : List Value} (h : AllOk (.b :: ks) l) : ∃ n vs, l = .bool n :: vs ∧ AllOk ks vs := by
  cases l with
  | nil => exact h.elim
  | cons v vs => obtain ⟨⟨n, rfl⟩, h⟩ := h; exact ⟨n, vs, rfl, h⟩
theorem allOk_nil {l : List Value} (h : AllOk [] l) : l = [] := by
  cases l with
  | nil => rfl
  | cons v vs => exact h.elim
theorem cmd_of : ∀ l : List Value, AllOk ks20 l → ∃ i s b, l = cmdL i s b := by
  intro l h0
  unfold ks20 at h0
  obtain ⟨a0, l1, rfl, h1⟩ := allOk_i h0
  obtain ⟨a1, l2, rfl, h2⟩ := allOk_i h1
  obtain ⟨a2, l3, rfl, h3⟩ := allOk_i h2
  obtain ⟨a3, l4, rfl, h4⟩ := allOk_i h3
  obtain ⟨t0, l5, rfl, h5⟩ := allOk_s h4
  obtain ⟨t1, l6, rfl, h6⟩ := allOk_s h5
  obtain ⟨t2, l7, rfl, h7⟩ := allOk_s h6
  obtain ⟨t3, l8, rfl, h8⟩ := allOk_s h7
  obtain ⟨t4, l9, rfl, h9⟩ := allOk_s h8
  obtain ⟨t5, l10, rfl, h10⟩ := allOk_s h9
  obtain ⟨a4, l11, rfl, h11⟩ := allOk_i h10
  obtain ⟨a5, l12, rfl, h12⟩ := allOk_i h11
  obtain ⟨a6, l13, rfl, h13⟩ := allOk_i h12
  obtain ⟨a7, l14, rfl, h14⟩ := allOk_i h13
  obtain ⟨a8, l15, rfl, h15⟩ := allOk_i h14
  obtain ⟨a9, l16, rfl, h16⟩ := allOk_i h15
  obtain ⟨a10, l17, rfl, h17⟩ := allOk_i h16
  obtain ⟨b, l18, rfl, h18⟩ := allOk_b h17
  obtain ⟨a11, l19, rfl, h19⟩ := allOk_i h18
  obtain ⟨t6, l20, rfl, h20⟩ := allOk_s h19
  obtain rfl := allOk_nil h20
  exact ⟨nthI [a0, a1, a2, a3, a4, a5, a6, a7, a8, a9, a10, a11], nthS [t0, t1, t2, t3, t4, t5, t6], b, rfl⟩
theorem not_of {a b : Int} (h : b ≤ a) : Value.bool (notB (intLt a b)) = Tr := by
  rw [intLt_eq, decide_eq_false (by omega)]; rfl
theorem not_no {a b : Int} (h : a < b) : Value.bool (notB (intLt a b)) = F := by
  rw [intLt_eq, decide_eq_true h]; rfl
theorem lt_of {a b : Int} (h : a < b) : Value.bool (intLt a b) = Tr := by
  rw [intLt_eq, decide_eq_true h]; rfl
theorem lt_no {a b : Int} (h : b ≤ a) : Value.bool (intLt a b) = F := by
  rw [intLt_eq, decide_eq_false (by omega)]; rfl
/-- Numbers that are not good. -/
theorem bad_of (i : Nat → Int) (s : Nat → ByteArray) (b : Bool) (g n : Int) (h : ¬ ((1 ≤ g ∧ g ≤ 8) ∧ (1 ≤ n ∧ n ≤ 8))) : ∃ tp lg, NotedOk lg ∧ ∀ jt jh, p1L (cmdL i s b) g n tp jt jh = (true, revN lg [], some (S (cmdL i s b) jt)) := by
  rcases Int.lt_or_le n 1 with n1 | n1
  · rcases Int.lt_or_le g 1 with g1 | g1
    · exact ⟨_, _, NotedOk.cons (not_no n1) (NotedOk.cons (lt_of g1) NotedOk.nil), fun jt jh => (Prod.mk.inj (bads i s b g n jt jh)).1⟩
    · rcases Int.lt_or_le 8 g with g8 | g8
      · exact ⟨_, _, NotedOk.cons (not_no n1) (NotedOk.cons (lt_no g1) (NotedOk.cons (lt_of g8) NotedOk.nil)), fun jt jh => (Prod.mk.inj (Prod.mk.inj (bads i s b g n jt jh)).2).1⟩
      · exact ⟨_, _, NotedOk.cons (not_no n1) (NotedOk.cons (lt_no g1) (NotedOk.cons (lt_no g8) (NotedOk.cons (lt_of n1) NotedOk.nil))), fun jt jh => (Prod.mk.inj (Prod.mk.inj (Prod.mk.inj (bads i s b g n jt jh)).2).2).1⟩
  · rcases Int.lt_or_le 8 n with n8 | n8
    · rcases Int.lt_or_le g 1 with g1 | g1
      · exact ⟨_, _, NotedOk.cons (not_of n1) (NotedOk.cons (not_no n8) (NotedOk.cons (lt_of g1) NotedOk.nil)), fun jt jh => (Prod.mk.inj (Prod.mk.inj (Prod.mk.inj (Prod.mk.inj (bads i s b g n jt jh)).2).2).2).1⟩
      · rcases Int.lt_or_le 8 g with g8 | g8
        · exact ⟨_, _, NotedOk.cons (not_of n1) (NotedOk.cons (not_no n8) (NotedOk.cons (lt_no g1) (NotedOk.cons (lt_of g8) NotedOk.nil))), fun jt jh => (Prod.mk.inj (Prod.mk.inj (Prod.mk.inj (Prod.mk.inj (Prod.mk.inj (bads i s b g n jt jh)).2).2).2).2).1⟩
        · exact ⟨_, _, NotedOk.cons (not_of n1) (NotedOk.cons (not_no n8) (NotedOk.cons (lt_no g1) (NotedOk.cons (lt_no g8) (NotedOk.cons (lt_no n1) (NotedOk.cons (lt_of n8) NotedOk.nil))))), fun jt jh => (Prod.mk.inj (Prod.mk.inj (Prod.mk.inj (Prod.mk.inj (Prod.mk.inj (Prod.mk.inj (bads i s b g n jt jh)).2).2).2).2).2).1⟩
    · rcases Int.lt_or_le g 1 with g1 | g1
      · exact ⟨_, _, NotedOk.cons (not_of n1) (NotedOk.cons (not_of n8) (NotedOk.cons (lt_of g1) (NotedOk.cons (lt_of g1) NotedOk.nil))), fun jt jh => (Prod.mk.inj (Prod.mk.inj (Prod.mk.inj (Prod.mk.inj (Prod.mk.inj (Prod.mk.inj (Prod.mk.inj (bads i s b g n jt jh)).2).2).2).2).2).2).1⟩
      · have g8 : 8 < g := by omega
        exact ⟨_, _, NotedOk.cons (not_of n1) (NotedOk.cons (not_of n8) (NotedOk.cons (lt_no g1) (NotedOk.cons (not_of (show 9 ≤ g by omega)) (NotedOk.cons (lt_no g1) (NotedOk.cons (lt_of g8) NotedOk.nil))))), fun jt jh => (Prod.mk.inj (Prod.mk.inj (Prod.mk.inj (Prod.mk.inj (Prod.mk.inj (Prod.mk.inj (Prod.mk.inj (bads i s b g n jt jh)).2).2).2).2).2).2).2⟩
theorem good_of (i : Nat → Int) (s : Nat → ByteArray) (b : Bool) (g n : Nat) (g1 : 1 ≤ g) (g8 : g ≤ 8) (n1 : 1 ≤ n) (n8 : n ≤ 8) (jt : Nat → Value) (jh : Nat → Nat → Value) : p0L (cmdL i s b) (.ofNat g) (.ofNat n) jt jh = (true, [], some (S (cmdL i s b) jt)) := by
  match n, n1, n8 with
  | 1, _, _ => exact upTo_eq _ _ (good1 i s b jt jh) g g1 (by omega)
  | 2, _, _ => exact upTo_eq _ _ (good2 i s b jt jh) g g1 (by omega)
  | 3, _, _ => exact upTo_eq _ _ (good3 i s b jt jh) g g1 (by omega)
  | 4, _, _ => exact upTo_eq _ _ (good4 i s b jt jh) g g1 (by omega)
  | 5, _, _ => exact upTo_eq _ _ (good5 i s b jt jh) g g1 (by omega)
  | 6, _, _ => exact upTo_eq _ _ (good6 i s b jt jh) g g1 (by omega)
  | 7, _, _ => exact upTo_eq _ _ (good7 i s b jt jh) g g1 (by omega)
  | 8, _, _ => exact upTo_eq _ _ (good8 i s b jt jh) g g1 (by omega)
theorem vb : vflat 8 (.bool true) = true := rfl
theorem walk (W : World) (i : Nat → Int) (s : Nat → ByteArray) (b : Bool) (g n : Int) : Calls Tryz.prog 5 #[.agg ⟨cmdL i s b⟩, i64 g, i64 n] W fun e W' => e = .returned (.bool true) ∧ Below W.heap.size W W' := by
  refine calls_of_wp Tryz.func5 hasBody ?_
  have hT : TRel (muG 2) 123 (s0 (cmdL i s b) g n).1 (#[.agg ⟨cmdL i s b⟩, i64 g, i64 n] ++ Array.replicate (Tryz.f5.ntmps - #[.agg ⟨cmdL i s b⟩, i64 g, i64 n].size) undef) :=
    initT_rel (args := #[.agg ⟨cmdL i s b⟩, i64 g, i64 n]) (args' := #[.agg ⟨cmdL i s b⟩, i64 g, i64 n]) (n := 123) ⟨rfl, fun i h1 h2 => (match i, h1, h2 with
      | 0, _, _ => vflat_rel (muG 2) 8 _ rfl
      | 1, _, _ => .int _ _
      | 2, _, _ => .int _ _)⟩ (show 3 ≤ 123 by decide)
  have tail : ∀ (m2 : Mu) (a2 : Act) (w2 : World) (j2 : Nat → Value), GRel 2 m2 → TRel m2 123 (S (cmdL i s b) j2).1 a2.tmps → a2.defers = [] → Rel Tryz.prog (baseOf W) m2 (S (cmdL i s b) j2).2 w2 →
      rest.wp Tryz.prog (bodyPost Tryz.prog Tryz.f5 fun e W' => e = .returned (.bool true) ∧ Below W.heap.size W W') a2 w2 := by
    intro m2 a2 w2 j2 g2 t2 d2 q2
    have h2 := last i s b j2
    unfold saidOf at h2
    split at h2
    · rename_i o ho2
      simp only [Option.some.injEq, Prod.mk.injEq] at h2
      exact lastC_wp (n := 123) entersOk zerosOk CBok CC0ok DC0ok DBok plR okR vb ho2 h2.1 (by rw [h2.2]; exact NotedOk.nil) t2 q2 g2 d2
    · cases h2
  by_cases hgood : (1 ≤ g ∧ g ≤ 8) ∧ (1 ≤ n ∧ n ≤ 8)
  · obtain ⟨⟨g1, g8⟩, n1, n8⟩ := hgood
    obtain ⟨gg, rfl⟩ : ∃ k : Nat, g = .ofNat k := ⟨g.toNat, by show g = (g.toNat : Int); omega⟩
    obtain ⟨nn, rfl⟩ : ∃ k : Nat, n = .ofNat k := ⟨n.toNat, by show n = (n.toNat : Int); omega⟩
    have a1 : 1 ≤ gg := by have : (1 : Int) ≤ (gg : Int) := g1; omega
    have a2 : gg ≤ 8 := by have : (gg : Int) ≤ 8 := g8; omega
    have a3 : 1 ≤ nn := by have : (1 : Int) ≤ (nn : Int) := n1; omega
    have a4 : nn ≤ 8 := by have : (nn : Int) ≤ 8 := n8; omega
    have hah := good_of i s b gg nn a1 a2 a3 a4
    obtain ⟨p1e, pr1⟩ := Prod.mk.inj (hah (fun _ => undef) (fun _ _ => undef))
    obtain ⟨p2e, _⟩ := Prod.mk.inj pr1
    refine goNC_wp (n := 123) (mk := mk0 5) (K := 1000) (k := 4) (x := ⟨s0 (cmdL i s b) (.ofNat gg) (.ofNat nn), [], [], true⟩) (y := p0 (cmdL i s b) (.ofNat gg) (.ofNat nn)) entersOk zerosOk CBok CC0ok DC0ok DBok k0 rfl p1e (by rw [p2e]; exact NotedOk.nil) hT (initRel 2 W) (muG_rel 2) ?_
    intro m1 a1 w1 g1 t1 d1 q1
    show rest.wp Tryz.prog _ a1 w1
    obtain ⟨m2, j2, _, g2, t2, q2⟩ := canon (S := shS (p0 (cmdL i s b) (.ofNat gg) (.ofNat nn)).s) (S2 := fun jt _ => S (cmdL i s b) jt) (fun _ => rfl) (fun jt jh => (Prod.mk.inj (Prod.mk.inj (hah jt jh)).2).2) t1 q1 g1
    exact tail m2 a1 w1 j2 g2 t2 d1 q2
  · obtain ⟨tp, lg, hlg, hah⟩ := bad_of i s b g n hgood
    obtain ⟨p1e, pr1⟩ := Prod.mk.inj (hah (fun _ => undef) (fun _ _ => undef))
    obtain ⟨p2e, _⟩ := Prod.mk.inj pr1
    refine goNC_wp (n := 123) (mk := mkN 5) (K := 1000) (k := 4) (x := ⟨s0 (cmdL i s b) g n, tp, [], true⟩) (y := p1 (cmdL i s b) g n tp) entersOk zerosOk CBok CCok DCok DBok k0 rfl p1e (by rw [p2e]; exact revN_ok _ _ hlg NotedOk.nil) hT (initRel 2 W) (muG_rel 2) ?_
    intro m1 a1 w1 g1 t1 d1 q1
    show rest.wp Tryz.prog _ a1 w1
    obtain ⟨m2, j2, _, g2, t2, q2⟩ := canon (S := shS (p1 (cmdL i s b) g n tp).s) (S2 := fun jt _ => S (cmdL i s b) jt) (fun _ => rfl) (fun jt jh => (Prod.mk.inj (Prod.mk.inj (hah jt jh)).2).2) t1 q1 g1
    exact tail m2 a1 w1 j2 g2 t2 d1 q2
theorem own : ownKnob Tryz.prog.godebug = none := by kernel_rfl
theorem laidOut : laidOutB Tryz.prog = true := by kernel_rfl
theorem rd5 : Tryz.f5.params.toList.all (fun t => Tryz.prog.readableRec t && Nat.blt t Tryz.prog.types.size) = true := by kernel_rfl
theorem int_of_ok {P : Program} {W : World} {r : Reach} {base : Nat} {t : TypeId} {k : IntKind} {v : Value} (ht : P.underlying t = some (.int k)) (h : Value.okWide P W r base t v) : ∃ n, v = .int k n := by
  unfold Value.okWide at h
  rw [ht] at h
  unfold Cell.okWide Cell.ok at h
  rw [ht] at h
  cases v <;> first | (obtain ⟨rfl, _⟩ := h; exact ⟨_, rfl⟩) | exact h.elim
theorem agg_of_ok {P : Program} {W : World} {r : Reach} {base : Nat} {t : TypeId} {fs : Array Field} {v : Value} (ht : P.underlying t = some (.struct fs)) (h : Value.okWide P W r base t v) : ∃ cs, v = .agg cs := by
  unfold Value.okWide at h
  rw [ht] at h
  obtain ⟨cs, rfl, _⟩ := h
  exact ⟨cs, rfl⟩
theorem contract (H : Type) (enc : TypeId × Value → H) (W : World) (base : Nat) (args : Array Value) (ds gs : List (DataW H)) (before : List MemPlace)
    (hval : ∀ (j : Nat) t v, Tryz.f5.params[j]? = some t → args[j]? = some v → Value.okWide Tryz.prog W .any base t v)
    (hW : DataW.Whole enc Tryz.prog Tryz.f5.params.toList Rows.shardNobodySpec.vars false W args.toList ds gs before) :
    Calls Tryz.prog 5 args W fun e W' => ∃ v, e = .returned v ∧ Rows.shardNobodySpec.post enc Tryz.prog Tryz.f5 false true false false W args v W' := by
  have hW' := hW
  obtain ⟨p, q, hA0, hV, rfl, hfz, hnd⟩ := hW
  have hA : DataW.TrodAll enc Tryz.prog W 0 (fun _ => true) true Tryz.f5.params.toList args.toList ds p := hA0
  rw [Tryz.params5] at hA hval
  obtain ⟨v0, vs0, d0, ds0, p0, q0, hargs, rfl, rfl, h0, r0⟩ := trodAll_cons hA
  obtain ⟨v1, vs1, d1, ds1, p1, q1, rfl, rfl, rfl, h1, r1⟩ := trodAll_cons r0
  obtain ⟨v2, vs2, d2, ds2, p2, q2, rfl, rfl, rfl, h2, r2⟩ := trodAll_cons r1
  obtain ⟨rfl, rfl, rfl⟩ := trodAll_nil r2
  obtain rfl : args = #[v0, v1, v2] := by cases args; simp_all
  obtain ⟨rfl, rfl⟩ := trodVars_none hV
  obtain ⟨calls, rfl⟩ := int_of_ok Tryz.underlying3 (hval 1 3 v1 (by simp) (by simp))
  obtain ⟨x, rfl⟩ := int_of_ok Tryz.underlying3 (hval 2 3 v2 (by simp) (by simp))
  obtain ⟨cs, rfl⟩ := agg_of_ok Tryz.underlying40 (hval 0 40 v0 (by simp) (by simp))
  obtain ⟨fuel, hf⟩ := h0
  obtain ⟨i, s, b, hcs⟩ := cmd_of _ (trod_leaves 30 40 ks20 leaves40 _ _ _ hf)
  obtain rfl : cs = ⟨cmdL i s b⟩ := by
    cases cs
    exact congrArg Array.mk hcs
  refine (walk W i s b calls x).mono fun e W' ⟨he, hb⟩ => ?_
  subst he
  exact ⟨_, rfl, post_true laidOut rd5 hW' rfl rfl rfl rfl (by kernel_rfl) Tryz.underlying4 hb⟩

def dcells : Nat → DataW Unit → List Value
  | _, .lit (.int k n) => [.int k n]
  | f + 1, .agg l => l.flatMap (dcells f)
  | _, _ => []
/-- A WORLD FOR THE WITNESS. -/
noncomputable def laidWorld (os : Os) : World :=
  let w0 := World.holding Tryz.prog os ⟨#[], #[], []⟩
  let put (h : Array Obj) (g : Nat) (cs : List Value) : Array Obj := h.modify g fun
    | .cells _ t frozen => .cells cs.toArray t frozen
    | o => o
  { w0 with heap := put (put w0.heap 0 (dcells 3 Rows.laid_unicode_utf8_first)) 1 (dcells 3 Rows.laid_unicode_utf8_acceptRanges) }
noncomputable def wargs : Array Value := #[.agg ⟨cmdL (fun _ => 0) (fun _ => ⟨#[]⟩) false⟩, .int .i64 0, .int .i64 0]
theorem laid_met (os : Os) : laidMet Tryz.prog Rows.shardNobodyRow.laid ((laidWorld os).forCall (fun _ _ => 0) ⟨#[], wargs, []⟩).memory :=
  laidMet_of_run3 8 (by kernel_rfl) (by kernel_rfl) (by kernel_rfl)
theorem reads (os : Os) {H : Type} (enc : TypeId × Value → H) : ∃ places, DataW.whole enc Tryz.prog ((laidWorld os).forCall (fun _ _ => 0) ⟨#[], wargs, []⟩).memory Tryz.f5.params.toList Rows.shardNobodySpec.vars false wargs.toList 8 =
    some ([.agg [.lit (.int .i64 0), .agg [.lit (.int .i64 0), .lit (.int .i64 0)], .agg [.lit (.int .i64 0), .lit (.string []), .lit (.string []), .lit (.string []), .lit (.string []), .lit (.string []), .lit (.string []), .lit (.int .i64 0), .lit (.int .i64 0)], .lit (.int .i64 0), .lit (.int .i64 0), .lit (.int .i64 0), .lit (.int .i64 0), .lit (.int .i64 0), .lit (.bool false), .lit (.int .i64 0), .lit (.string [])], .lit (.int .i64 0), .lit (.int .i64 0)], [], places) :=
  ⟨[], by kernel_rfl⟩
set_option maxRecDepth 100000 in
theorem lifted (os : Os) (started : os.Started) (H : Type) (enc : TypeId × Value → H) (F : Stop.Interp) :
    ReturnsInHanded {} Tryz.checked os 5 .any ((OpenSpec.ofChange Rows.shardNobodySpec).preRow enc Tryz.prog Tryz.f5 Rows.shardNobodyRow.domain false Rows.shardNobodyRow.laid) (((OpenSpec.ofChange Rows.shardNobodySpec).at F).post enc Tryz.prog Tryz.f5 false true false false) := by
  obtain ⟨places, hx⟩ := reads os enc
  refine returnsInHanded_of_row (C := Tryz.checked) (s := OpenSpec.ofChange Rows.shardNobodySpec) own started (by kernel_rfl) Tryz.func5
    (witness_row_at (enc := enc) (C := Tryz.checked) false (laidWorld os) wargs rfl (by kernel_rfl) (by kernel_rfl) (by kernel_rfl)
      (OpenSpec.preRow_of_cond 8 hx (by kernel_rfl) (fun k hk => by cases hk) (by kernel_rfl) (laid_met os))) ?_
  intro W base args ds gs before hval hW _ _ _ _ _ _
  exact contract H enc W base args ds gs before hval hW
theorem said : Rows.ShardNobodySaid :=
  OpenClaim.holds_of_cond 5 Tryz.f5 rfl rfl rfl rfl rfl rfl rfl ⟨rfl, rfl, rfl, rfl, rfl⟩ rfl rfl rfl rfl rfl (by kernel_rfl) Tryz.func5 (by kernel_rfl)
    (of_decide_eq_true (by kernel_rfl)) (by unfold Func.isWrapper; first | (rw [if_pos (by decide +kernel)]; kernel_rfl) | (rw [if_neg (by decide +kernel)]; exact ⟨rfl, rfl⟩))
    (fun os started H enc _ F => by rw [OpenClaim.pre_eq_preRow]; exact lifted os started H enc F)
/-- No parameter wants a stand-in; the program's own looks are on: what both cards ask. -/
theorem plain (f : FuncId) (fn : Func) (hf : Tryz.pinned.checked.prog.funcNamed "rookery/rookerylaw13.ShardNobody" = some f) (hfn : Tryz.pinned.checked.prog.funcs[f]? = some fn) :
    true = Tryz.pinned.checked.prog.looks [] ∧ ∀ (j : Nat) t, fn.params[j]? = some t → Tryz.pinned.checked.prog.wantsStandIn t = false := by
  obtain rfl : f = 5 := Option.some.inj ((show Tryz.prog.funcNamed "rookery/rookerylaw13.ShardNobody" = some 5 by kernel_rfl).symm.trans hf) |>.symm
  obtain rfl : fn = Tryz.f5 := (Option.some.inj (Tryz.func5.symm.trans hfn)).symm
  refine ⟨by kernel_rfl, fun j t ht => ?_⟩
  rw [Tryz.params5] at ht
  have h2 : t = 40 ∨ t = 3 := by simpa using Array.mem_of_getElem? ht
  rcases h2 with rfl | rfl
  · exact (show Tryz.prog.wantsStandIn 40 = false by kernel_rfl)
  · exact (show Tryz.prog.wantsStandIn 3 = false by kernel_rfl)
/-- ████ THE CARD ████ -/
theorem card : Rows.ShardNobodyCardSaid :=
  Claim7.holds_tied_plain_at .later [] _ _ _ _ said (fun _ h => by cases h) (by kernel_rfl) (fun _ h => by cases h) shardNobody_row_tie rfl ⟨rfl, rfl⟩ (by kernel_rfl) rfl plain (by kernel_rfl)
end Go.Proofs.YthapjgecggdliaaGreatDoor.shardNobody
