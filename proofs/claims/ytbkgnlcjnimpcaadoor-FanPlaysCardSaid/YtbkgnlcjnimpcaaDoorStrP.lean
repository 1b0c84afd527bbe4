/- Texts: all that is known of them. -/
import Derived.Test.YtbkgnlcjnimpcaaDoorStrO
namespace Go.Proofs.YtbkgnlcjnimpcaaDoor.strs
open Go Go.Ab Go.RowKit
open Go.Proofs.YtbkgnlcjnimpcaaDoor.strs.dig (tblO MT memoT' memoT_of)
open Go.Proofs.YtbkgnlcjnimpcaaDoor.strs.ita (DecOk format_ok)
open Go.Proofs.YtbkgnlcjnimpcaaDoor.strs.uin (okE)
open Go.Proofs.YtbkgnlcjnimpcaaDoor.strs.num (tupV)
set_option maxRecDepth 100000
abbrev BIG : Nat := 140737488355328
/-! ### Itoa -/
noncomputable def itoa (n : Nat) : List UInt8 := open Classical in if h : n < 4294967296 then Classical.choose (format_ok h) else []
theorem lt32 {n : Nat} (h : n ≤ 1073741824) : n < 4294967296 := by omega
theorem itoa_spec {n : Nat} (h : n < 4294967296) : DecOk n (itoa n) ∧ MT ⟨55, [e24 n, e24 10], str (itoa n)⟩ := by
  have : itoa n = Classical.choose (format_ok h) := by unfold itoa; rw [dif_pos h]
  rw [this]
  exact Classical.choose_spec (format_ok h)
open Classical in
noncomputable def g55 (l : List Value) : Option Value := match l with
  | [.int .i64 (.ofNat n), .int .i64 (.ofNat k)] => if n < 4294967296 ∧ k = 10 then some (str (itoa n)) else none
  | _ => none
noncomputable def kn55 : Known := pureT 55 5 tblO g55
theorem kn55ok : Kok kn55 := pureT_sound (show 5 < 8 by decide) dig.tbl_plain fun l v h => by
  unfold g55 at h
  split at h
  · split at h
    · rename_i hn
      obtain ⟨hn, rfl⟩ := hn
      cases h
      exact (itoa_spec hn).2
    · cases h
  · cases h
def mk35 : Marks := with10 [(47, [4])] 5 (marksIn [])
open Classical in
/-- What is known of a call, where the row is laid. -/
theorem knT {kn : Known} {f : Nat} {g : List Value → Option Value} {l : List Value} {v : Value} (hk : kn f = pureT f 5 tblO g f) (hg : g l = some v) : ∀ h' : AHeap, heapGet h' 5 = tblO → (CBk kn f).un ⟨l⟩ h' = some (v, h') := fun h' hh => by
  have e : kn f = some (fun args h => if heapGet h 5 = tblO then (match g (listOf args) with | some v => some (v, h) | none => none) else none) := by
    rw [hk]
    unfold pureT
    rw [Nat.beq_refl]
    rfl
  rw [CBk_known e]
  rw [if_pos hh, listOf_eq]
  show (match g l with | some v => some (v, h') | none => none) = _
  rw [hg]
theorem knM {kn : Known} {f : Nat} {g : List Value → Option Value} {l : List Value} {v : Value} (hk : kn f = pureK f g f) (hg : g l = some v) : ∀ h' : AHeap, (CBk kn f).un ⟨l⟩ h' = some (v, h') := fun h' => by
  have e : kn f = some (fun args h => match g (listOf args) with | some v => some (v, h) | none => none) := by
    rw [hk]
    unfold pureK
    rw [Nat.beq_refl]
    rfl
  rw [CBk_known e]
  rw [listOf_eq]
  show (match g l with | some v => some (v, h') | none => none) = _
  rw [hg]
noncomputable def is55 (n : Nat) (v : Value) : Prop := ∀ h' : AHeap, heapGet h' 5 = tblO → (CBk kn55 55).un ⟨[e24 n, e24 10]⟩ h' = some (v, h')
theorem run35 (n : Nat) (t : List UInt8) : saidOf ((CCk kn55 mk35 35).un [e24 n].toArray dig.hp [str t] []) = some (str t, [is55 n (str t)]) := by kernel_rfl
theorem itoa_ok {n : Nat} (h : n < 4294967296) : MT ⟨35, [e24 n], str (itoa n)⟩ := by
  refine memoT' (kn := kn55) (mk := mk35) kn55ok rfl rfl (run35 n (itoa n)) (NotedOk.cons (knT (g := g55) rfl ?_) NotedOk.nil)
  show (if n < 4294967296 ∧ 10 = 10 then some (str (itoa n)) else none) = _
  rw [if_pos ⟨h, rfl⟩]
/-! ### The number in a text -/
open Classical in
noncomputable def atoiV (l : List UInt8) : Value := if h : l.length < BIG then (if (1 ≤ l.length ∧ l.length < 19) ∧ ∃ x, l[0]? = some x ∧ Nat.beq (u8n x) 45 = false ∧ Nat.beq (u8n x) 43 = false then (match l with | x :: _ => num.outV (u8n x) (num.fastL l 0) | [] => undef)
  else tupV (Classical.choose (num.atoi_some h)) (Classical.choose (Classical.choose_spec (num.atoi_some h)))) else undef
theorem atoi_plain {l : List UInt8} {x : UInt8} (hx : l[0]? = some x) (hl : l.length < 19) (h1 : Nat.beq (u8n x) 45 = false) (h2 : Nat.beq (u8n x) 43 = false) : atoiV l = num.outV (u8n x) (num.fastL l 0) := by
  have hp : 1 ≤ l.length := by
    rcases Nat.lt_or_ge 0 l.length with h | h
    · exact h
    · rw [List.getElem?_eq_none h] at hx; cases hx
  unfold atoiV
  rw [dif_pos (show l.length < BIG by unfold BIG; omega), if_pos ⟨⟨hp, hl⟩, x, hx, h1, h2⟩]
  cases l with
  | nil => cases hx
  | cons y r => cases hx; rfl
theorem atoi_ok {l : List UInt8} (hl : l.length < BIG) : (∃ n e, okE e ∧ atoiV l = tupV n e) ∧ MemoOk Tryd.prog ⟨49, [str l], atoiV l⟩ := by
  by_cases hc : (1 ≤ l.length ∧ l.length < 19) ∧ ∃ x, l[0]? = some x ∧ Nat.beq (u8n x) 45 = false ∧ Nat.beq (u8n x) 43 = false
  · obtain ⟨⟨_, h19⟩, x, hx, h1, h2⟩ := hc
    rw [atoi_plain hx h19 h1 h2]
    exact ⟨num.outV_form _ _, num.fast_ok hx h19 h1 h2⟩
  · have e : atoiV l = tupV (Classical.choose (num.atoi_some hl)) (Classical.choose (Classical.choose_spec (num.atoi_some hl))) := by
      unfold atoiV
      rw [dif_pos hl, if_neg hc]
    obtain ⟨h1, h2⟩ := Classical.choose_spec (Classical.choose_spec (num.atoi_some hl))
    rw [e]
    exact ⟨⟨_, _, h1, rfl⟩, h2⟩
/-! ### What is known -/
open Classical in
noncomputable def g36 (l : List Value) : Option Value := match l with
  | [.string ⟨⟨l⟩⟩, .string ⟨⟨[c]⟩⟩] => if c ∈ [(47 : UInt8), 64] ∧ l.length < BIG then some (cut.cutV c l) else none
  | _ => none
open Classical in
noncomputable def g38 (l : List Value) : Option Value := match l with
  | [.string ⟨⟨l⟩⟩] => if l.length < BIG then some (.bool (lab l)) else none
  | _ => none
open Classical in
noncomputable def g49 (l : List Value) : Option Value := match l with
  | [.string ⟨⟨l⟩⟩] => if l.length < BIG then some (atoiV l) else none
  | _ => none
open Classical in
noncomputable def g74 (l : List Value) : Option Value := match l with
  | [.string ⟨⟨l⟩⟩] => if l.length < BIG then some (str l) else none
  | _ => none
open Classical in
noncomputable def g32 (l : List Value) : Option Value := if h : ∃ x : List UInt8 × List UInt8, l = [opMake x.1 x.2] ∧ x.1.length < BIG ∧ x.2.length < BIG then some (errV (lab (Classical.choose h).1 && lab (Classical.choose h).2)) else none
theorem str_inj {a b : List UInt8} (h : str a = str b) : a = b := by
  unfold str at h
  cases h
  rfl
theorem opMake_inj {a b c d : List UInt8} (h : [opMake a b] = [opMake c d]) : a = c ∧ b = d := by
  unfold opMake at h
  simp only [List.cons.injEq, Value.agg.injEq, Array.mk.injEq, and_true, true_and] at h
  exact ⟨str_inj h.1, str_inj h.2⟩
theorem g32_at {sp ch : List UInt8} (h1 : sp.length < BIG) (h2 : ch.length < BIG) : g32 [opMake sp ch] = some (errV (lab sp && lab ch)) := by
  have h : ∃ x : List UInt8 × List UInt8, [opMake sp ch] = [opMake x.1 x.2] ∧ x.1.length < BIG ∧ x.2.length < BIG := ⟨(sp, ch), rfl, h1, h2⟩
  unfold g32
  rw [dif_pos h]
  obtain ⟨e1, e2⟩ := opMake_inj (Classical.choose_spec h).1
  rw [← e1, ← e2]
theorem g32_ok (l : List Value) (v : Value) (h : g32 l = some v) : MemoOk Tryd.prog ⟨32, l, v⟩ := by
  unfold g32 at h
  split at h
  · rename_i hx
    have hs := Classical.choose_spec hx
    generalize Classical.choose hx = x at hs h
    obtain ⟨rfl, h1, h2⟩ := hs
    cases h
    exact check_ok x.1 x.2
  · cases h
open Classical in
noncomputable def g35 (l : List Value) : Option Value := match l with
  | [.int .i64 (.ofNat n)] => if n < 4294967296 then some (str (itoa n)) else none
  | _ => none
noncomputable def kr : Known := orK (pureK 36 g36) (orK (pureK 38 g38) (orK (pureK 49 g49) (orK (pureK 74 g74) (orK (pureK 32 g32) (pureT 35 5 tblO g35)))))
theorem krok : Kok kr := by
  refine orK_sound (pureK_sound fun l v h => ?_) (orK_sound (pureK_sound fun l v h => ?_) (orK_sound (pureK_sound fun l v h => ?_) (orK_sound (pureK_sound fun l v h => ?_) (orK_sound (pureK_sound g32_ok) (pureT_sound (show 5 < 8 by decide) dig.tbl_plain fun l v h => ?_)))))
  · unfold g36 at h
    split at h
    · split at h
      · rename_i hc
        cases h
        exact cut.cut_ok _ hc.1 _ (by have := hc.2; unfold BIG at this; omega)
      · cases h
    · cases h
  · unfold g38 at h
    split at h
    · split at h
      · rename_i hc
        cases h
        exact label_ok _ (by unfold BIG at hc; omega)
      · cases h
    · cases h
  · unfold g49 at h
    split at h
    · split at h
      · rename_i hc
        cases h
        exact (atoi_ok hc).2
      · cases h
    · cases h
  · unfold g74 at h
    split at h
    · split at h
      · rename_i hc
        cases h
        exact clone_ok (by unfold BIG at hc; omega)
      · cases h
    · cases h
  · unfold g35 at h
    split at h
    · split at h
      · rename_i hc
        cases h
        exact itoa_ok hc
      · cases h
    · cases h
noncomputable def isK (f : Nat) (l : List Value) (v : Value) : Prop := ∀ h' : AHeap, (CBk kr f).un ⟨l⟩ h' = some (v, h')
noncomputable def isT (f : Nat) (l : List Value) (v : Value) : Prop := ∀ h' : AHeap, heapGet h' 5 = tblO → (CBk kr f).un ⟨l⟩ h' = some (v, h')
theorem is36 {l : List UInt8} {c : UInt8} (hc : c ∈ [(47 : UInt8), 64]) (hl : l.length < BIG) : isK 36 [str l, str [c]] (cut.cutV c l) := knM (g := g36) rfl (by
  show (if c ∈ [(47 : UInt8), 64] ∧ l.length < BIG then some (cut.cutV c l) else none) = _
  rw [if_pos ⟨hc, hl⟩])
theorem is38 {l : List UInt8} (hl : l.length < BIG) : isK 38 [str l] (.bool (lab l)) := knM (g := g38) rfl (by
  show (if l.length < BIG then some (Value.bool (lab l)) else none) = _
  rw [if_pos hl])
theorem is49 {l : List UInt8} (hl : l.length < BIG) : isK 49 [str l] (atoiV l) := knM (g := g49) rfl (by
  show (if l.length < BIG then some (atoiV l) else none) = _
  rw [if_pos hl])
theorem is74 {l : List UInt8} (hl : l.length < BIG) : isK 74 [str l] (str l) := knM (g := g74) rfl (by
  show (if l.length < BIG then some (str l) else none) = _
  rw [if_pos hl])
theorem is32 {a b : List UInt8} (h1 : a.length < BIG) (h2 : b.length < BIG) : isK 32 [opMake a b] (errV (lab a && lab b)) := knM (g := g32) rfl (g32_at h1 h2)
theorem is35 {n : Nat} (h : n < 4294967296) : isT 35 [e24 n] (str (itoa n)) := knT (g := g35) rfl (by
  show (if n < 4294967296 then some (str (itoa n)) else none) = _
  rw [if_pos h])
end Go.Proofs.YtbkgnlcjnimpcaaDoor.strs
