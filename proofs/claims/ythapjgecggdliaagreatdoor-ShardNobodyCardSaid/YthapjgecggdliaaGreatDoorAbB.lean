import Derived.Test.YthapjgecggdliaaGreatDoorAbA
namespace Go.Ab
open Go

/-! ## Abstract memory -/
inductive AObj where
  | dead
  | cells (c : Row) (elem : TypeId)
  | map (es : Array MapEntry) (clock : Nat)
  | iter (s : ByteArray) (pos : Nat)
  | miter (x : Option Nat) (since : Nat) (seen : Array Nat) (last : Nat)
  | ro (c : Row) (elem : TypeId)

def isRo : AObj → Bool
  | .ro _ _ => true
  | _ => false
/-- What is kept lies in the base; all else does not. -/
def protOf (o : AObj) (x : Option Obj) : Prop := match o with
  | .ro _ _ => x ≠ none
  | _ => x = none
theorem protOf_none {o : AObj} {x : Option Obj} (h : protOf o x) (hn : isRo o = false) : x = none := by
  cases o <;> first | exact h | cases hn
theorem protOf_some {o : AObj} {x : Option Obj} (h : protOf o x) (hn : isRo o = true) : x ≠ none := by
  cases o <;> first | exact h | cases hn
theorem protOf_mk {o : AObj} {x : Option Obj} (h1 : isRo o = true → x ≠ none) (h2 : isRo o = false → x = none) : protOf o x := by
  cases o <;> first | exact h1 rfl | exact h2 rfl

structure AHeap where
  t : Tree AObj
  next : Nat
  lim : Nat

def AHeap.get (h : AHeap) (b : Nat) : AObj := h.t.get .dead b
def AHeap.put (h : AHeap) (b : Nat) (o : AObj) : AHeap := match h with | ⟨t, n, l⟩ => ⟨t.set .dead b o, n, l⟩
def AHeap.push (h : AHeap) (o : AObj) : AHeap := match h with | ⟨t, n, l⟩ => ⟨t.set .dead n o, n + 1, l⟩

theorem AHeap.get_put (h : AHeap) (b k : Nat) (o : AObj) : (h.put b o).get k = if k = b then o else h.get k := by
  unfold AHeap.get AHeap.put
  simp only [Tree.get_set]
theorem AHeap.get_push (h : AHeap) (k : Nat) (o : AObj) : (h.push o).get k = if k = h.next then o else h.get k := by
  unfold AHeap.get AHeap.push
  simp only [Tree.get_set]

/-- Where an abstract block lies: the block, the offset of its first cell, its room in elements from there. -/
structure Loc where
  blk : Nat
  off : Nat
  cap : Nat

abbrev Mu := Nat → Option Loc
def Mu.le (m m' : Mu) : Prop := ∀ b l, m b = some l → m' b = some l
theorem Mu.le_refl (m : Mu) : m.le m := fun _ _ h => h
theorem Mu.le_trans {a b c : Mu} (h : a.le b) (k : b.le c) : a.le c := fun _ _ x => k _ _ (h _ _ x)

def OPEN : Nat := 2 ^ 64
def HALF : Nat := 2 ^ 63

/-- A value and what it stands for. -/
inductive VRel (m : Mu) : Value → Value → Prop where
  | bool (b : Bool) : VRel m (.bool b) (.bool b)
  | int (k : IntKind) (n : Int) : VRel m (.int k n) (.int k n)
  | float (k : FloatKind) (n : Nat) : VRel m (.float k n) (.float k n)
  | complex (k : FloatKind) (a b : Nat) : VRel m (.complex k a b) (.complex k a b)
  | string (s : ByteArray) : VRel m (.string s) (.string s)
  | nilPtr : VRel m (.pointer none) (.pointer none)
  | ptr (b o : Nat) (l : Loc) : m b = some l → VRel m (.pointer (some ⟨b, o, none⟩)) (.pointer (some ⟨l.blk, l.off + o, none⟩))
  | nilSlice (n c : Nat) : VRel m (.slice none n c) (.slice none n c)
  | slice (b o n c : Nat) (l : Loc) : m b = some l → c ≤ HALF → VRel m (.slice (some ⟨b, o, none⟩) n c) (.slice (some ⟨l.blk, l.off + o, none⟩) n c)
  | oslice (b o n k : Nat) (l : Loc) : m b = some l → k ≤ l.cap → k < HALF → n ≤ l.cap - k → VRel m (.slice (some ⟨b, o, none⟩) n (OPEN - k)) (.slice (some ⟨l.blk, l.off + o, none⟩) n (l.cap - k))
  | oslice0 (b o k : Nat) (l : Loc) (a : Addr) : m b = some l → k = l.cap → k < HALF → VRel m (.slice (some ⟨b, o, none⟩) 0 (OPEN - k)) (.slice (some a) 0 0)
  | nilMap : VRel m (.map none) (.map none)
  | nilChan : VRel m (.chan none) (.chan none)
  | any (r : Nat) (v' : Value) : (∀ b, v' ≠ .bool b) → (∀ c, v' ≠ .agg c) → (∀ c, v' ≠ .tuple c) → VRel m (.chan (some r)) v'
  | map (b : Nat) (l : Loc) : m b = some l → VRel m (.map (some b)) (.map (some l.blk))
  | nilFunc : VRel m .nilFunc .nilFunc
  | func (f : Fn) (a a' c c' : Array Value) : a.size = a'.size → (∀ i (h : i < a.size) (h' : i < a'.size), VRel m a[i] a'[i]) →
      c.size = c'.size → (∀ i (h : i < c.size) (h' : i < c'.size), VRel m c[i] c'[i]) → VRel m (.func f a c) (.func f a' c')
  | nilIface : VRel m .nilIface .nilIface
  | iface (t : TypeId) (v v' : Value) : VRel m v v' → VRel m (.iface t v) (.iface t v')
  | agg (c c' : Array Value) : c.size = c'.size → (∀ i (h : i < c.size) (h' : i < c'.size), VRel m c[i] c'[i]) → VRel m (.agg c) (.agg c')
  | tuple (c c' : Array Value) : c.size = c'.size → (∀ i (h : i < c.size) (h' : i < c'.size), VRel m c[i] c'[i]) → VRel m (.tuple c) (.tuple c')

/-- Rows of values. -/
def ARel (m : Mu) (c c' : Array Value) : Prop := c.size = c'.size ∧ ∀ i (h : i < c.size) (h' : i < c'.size), VRel m c[i] c'[i]

theorem VRel.mono {m m' : Mu} (hm : m.le m') {v v' : Value} (h : VRel m v v') : VRel m' v v' := by
  induction h with
  | bool b => exact .bool b
  | int k n => exact .int k n
  | float k n => exact .float k n
  | complex k a b => exact .complex k a b
  | string s => exact .string s
  | nilPtr => exact .nilPtr
  | ptr b o l h => exact .ptr b o l (hm _ _ h)
  | nilSlice n c => exact .nilSlice n c
  | slice b o n c l h hc => exact .slice b o n c l (hm _ _ h) hc
  | oslice b o n k l h h1 h2 h3 => exact .oslice b o n k l (hm _ _ h) h1 h2 h3
  | oslice0 b o k l a h h1 h2 => exact .oslice0 b o k l a (hm _ _ h) h1 h2
  | nilMap => exact .nilMap
  | nilChan => exact .nilChan
  | any r v' g h k => exact .any r v' g h k
  | map b l h => exact .map b l (hm _ _ h)
  | nilFunc => exact .nilFunc
  | func f a a' c c' h1 _ h3 _ i1 i2 => exact .func f a a' c c' h1 i1 h3 i2
  | nilIface => exact .nilIface
  | iface t v v' _ ih => exact .iface t v v' ih
  | agg c c' h1 _ ih => exact .agg c c' h1 ih
  | tuple c c' h1 _ ih => exact .tuple c c' h1 ih

theorem ARel.mono {m m' : Mu} (hm : m.le m') {c c' : Array Value} (h : ARel m c c') : ARel m' c c' :=
  ⟨h.1, fun i a b => (h.2 i a b).mono hm⟩

/-- A value that holds no address. -/
def vflat : Nat → Value → Bool
  | _, .bool _ | _, .int _ _ | _, .float _ _ | _, .complex _ _ _ | _, .string _ | _, .pointer none | _, .slice none _ _ | _, .map none | _, .chan none | _, .nilFunc | _, .nilIface => true
  | n + 1, .iface _ v => vflat n v
  | n + 1, .agg c => c.toList.all (vflat n)
  | n + 1, .tuple c => c.toList.all (vflat n)
  | n + 1, .func _ a c => a.toList.all (vflat n) && c.toList.all (vflat n)
  | _, _ => false

theorem vflat_rel (m : Mu) : ∀ (n : Nat) (v : Value), vflat n v = true → VRel m v v := by
  intro n
  induction n with
  | zero =>
    intro v h
    cases v with
    | bool => exact .bool _
    | int => exact .int _ _
    | float => exact .float _ _
    | complex => exact .complex _ _ _
    | string => exact .string _
    | pointer a => cases a with | none => exact .nilPtr | some a => simp [vflat] at h
    | slice a => cases a with | none => exact .nilSlice _ _ | some a => simp [vflat] at h
    | map r => cases r with | none => exact .nilMap | some a => simp [vflat] at h
    | chan r => cases r with | none => exact .nilChan | some a => simp [vflat] at h
    | nilFunc => exact .nilFunc
    | nilIface => exact .nilIface
    | _ => simp [vflat] at h
  | succ n ih =>
    intro v h
    have rows : ∀ c : Array Value, c.toList.all (vflat n) = true → ∀ i (h : i < c.size) (_ : i < c.size), VRel m c[i] c[i] := by
      intro c hc i hi _
      exact ih _ (List.all_eq_true.1 hc _ (by simp))
    cases v with
    | bool => exact .bool _
    | int => exact .int _ _
    | float => exact .float _ _
    | complex => exact .complex _ _ _
    | string => exact .string _
    | pointer a => cases a with | none => exact .nilPtr | some a => simp [vflat] at h
    | slice a => cases a with | none => exact .nilSlice _ _ | some a => simp [vflat] at h
    | map r => cases r with | none => exact .nilMap | some a => simp [vflat] at h
    | chan r => cases r with | none => exact .nilChan | some a => simp [vflat] at h
    | nilFunc => exact .nilFunc
    | nilIface => exact .nilIface
    | iface t v => exact .iface t _ _ (ih v (by simpa [vflat] using h))
    | agg c => exact .agg _ _ rfl (rows c (by simpa [vflat] using h))
    | tuple c => exact .tuple _ _ rfl (rows c (by simpa [vflat] using h))
    | func f a c =>
      simp only [vflat, Bool.and_eq_true] at h
      exact .func _ _ _ _ _ rfl (rows a h.1) rfl (rows c h.2)

theorem VRel.of_flat {m : Mu} {v v' : Value} (h : VRel m v v') : ∀ n, vflat n v = true → v' = v := by
  induction h with
  | ptr b o l h => intro n hn; cases n <;> simp [vflat] at hn
  | slice b o n c l h hc => intro n hn; cases n <;> simp [vflat] at hn
  | oslice b o n k l h h1 h2 h3 => intro n hn; cases n <;> simp [vflat] at hn
  | oslice0 b o k l a h h1 h2 => intro n hn; cases n <;> simp [vflat] at hn
  | map b l h => intro n hn; cases n <;> simp [vflat] at hn
  | any r v' g h k => intro n hn; cases n <;> simp [vflat] at hn
  | func f a a' c c' h1 _ h3 _ i1 i2 =>
    intro n hn
    cases n with
    | zero => simp [vflat] at hn
    | succ n =>
      simp only [vflat, Bool.and_eq_true] at hn
      have e1 : a' = a := Array.ext h1.symm (fun i hi hi' => i1 i hi' hi n (List.all_eq_true.1 hn.1 _ (by simp)))
      have e2 : c' = c := Array.ext h3.symm (fun i hi hi' => i2 i hi' hi n (List.all_eq_true.1 hn.2 _ (by simp)))
      rw [e1, e2]
  | iface t v v' _ ih =>
    intro n hn
    cases n with
    | zero => simp [vflat] at hn
    | succ n => rw [ih n (by simpa [vflat] using hn)]
  | agg c c' h1 _ ih =>
    intro n hn
    cases n with
    | zero => simp [vflat] at hn
    | succ n =>
      simp only [vflat] at hn
      have e1 : c' = c := Array.ext h1.symm (fun i hi hi' => ih i hi' hi n (List.all_eq_true.1 hn _ (by simp)))
      rw [e1]
  | tuple c c' h1 _ ih =>
    intro n hn
    cases n with
    | zero => simp [vflat] at hn
    | succ n =>
      simp only [vflat] at hn
      have e1 : c' = c := Array.ext h1.symm (fun i hi hi' => ih i hi' hi n (List.all_eq_true.1 hn _ (by simp)))
      rw [e1]
  | _ => intro n _; rfl

/-! ## The relation of memories -/
structure Base where
  prot : Nat → Option Obj
  os : Os
  tape : Nat → Question → Nat
  output : Array (Nat × ByteArray)

def ERel (m : Mu) (e e' : MapEntry) : Prop := VRel m e.key e'.key ∧ VRel m e.val e'.val ∧ e.born = e'.born

/-- A map's number, and what it stands for. -/
def MRel (m : Mu) : Option Nat → Option Nat → Prop
  | none, none => True
  | some b, some r => ∃ l, m b = some l ∧ l.blk = r
  | _, _ => False
theorem MRel.mono {m m' : Mu} (hm : Mu.le m m') {x x' : Option Nat} (h : MRel m x x') : MRel m' x x' := by
  cases x <;> cases x' <;> first | exact h.elim | exact trivial | (obtain ⟨l, h1, h2⟩ := h; exact ⟨l, hm _ _ h1, h2⟩)

/-- What lies there. -/
def OKObj (P : Program) (m : Mu) (l : Loc) (w : World) : AObj → Prop
  | .dead => True
  | .cells c t => ∃ C fr, w.heap[l.blk]? = some (.cells C t fr) ∧ (∀ i, i < C.size → ¬ (fr.1 ≤ i ∧ i < fr.2)) ∧ l.off + c.len ≤ C.size ∧
      (∀ i v, c.get? i = some v → ∃ v', C[l.off + i]? = some v' ∧ VRel m v v') ∧
      (∀ s, (P.info? t).map (·.size) = some s → l.off + l.cap * s ≤ C.size ∧ l.off % s = 0)
  | .map es k => ∃ es', w.heap[l.blk]? = some (.map es' k) ∧ l.off = 0 ∧ es.size = es'.size ∧ ∀ i (h : i < es.size) (h' : i < es'.size), ERel m es[i] es'[i]
  | .iter s p => w.heap[l.blk]? = some (.stringIter s p) ∧ l.off = 0
  | .ro c _ => ∃ C t fr, w.heap[l.blk]? = some (.cells C t fr) ∧ l.off + c.len ≤ C.size ∧ ∀ i v, c.get? i = some v → ∃ v', C[l.off + i]? = some v' ∧ VRel m v v'
  | .miter x since seen last => (∃ x', w.heap[l.blk]? = some (.mapIter x' since seen last) ∧ MRel m x x') ∧ l.off = 0

def rowIn : AObj → Option Row
  | .cells c _ => some c
  | .ro c _ => some c
  | _ => none
theorem okRow {P : Program} {m : Mu} {l : Loc} {w : World} {o : AObj} {c : Row} (h : OKObj P m l w o) (hc : rowIn o = some c) :
    o ≠ .dead ∧ ∃ C t fr, w.heap[l.blk]? = some (.cells C t fr) ∧ l.off + c.len ≤ C.size ∧ ∀ i v, c.get? i = some v → ∃ v', C[l.off + i]? = some v' ∧ VRel m v v' := by
  cases o with
  | cells c' t => cases hc; obtain ⟨C, fr, h1, _, h3, h4, _⟩ := h; exact ⟨(fun q => by cases q), C, t, fr, h1, h3, h4⟩
  | ro c' t => cases hc; obtain ⟨C, te, fr, h1, h3, h4⟩ := h; exact ⟨(fun q => by cases q), C, te, fr, h1, h3, h4⟩
  | _ => cases hc
theorem rowIn_live {o : AObj} {c : Row} (hc : rowIn o = some c) : o ≠ .dead := by cases o <;> first | cases hc; done | (intro q; cases q)

structure Rel (P : Program) (B : Base) (m : Mu) (h : AHeap) (w : World) : Prop where
  os : w.os = B.os
  tape : w.tape = B.tape
  output : w.output = B.output
  prot : ∀ k o, B.prot k = some o → w.heap[k]? = some o
  obj : ∀ b, h.get b ≠ .dead → ∃ l, m b = some l ∧ protOf (h.get b) (B.prot l.blk) ∧ OKObj P m l w (h.get b)
  sep : ∀ b b' l l', h.get b ≠ .dead → h.get b' ≠ .dead → isRo (h.get b') = false → m b = some l → m b' = some l' → l.blk = l'.blk → b = b'
  fresh : ∀ b, h.next ≤ b → b < h.lim → h.get b = .dead ∧ m b = none

/-! ## Running over abstract memory -/
def AHeap.cell? (h : AHeap) (a : Addr) : Option Value :=
  match a.spot with
  | some _ => none
  | none => match h.get a.block with
    | .cells c _ => c.get? a.off
    | .ro c _ => c.get? a.off
    | _ => none

theorem AHeap.cell?_row {h : AHeap} {b o : Nat} {c : Row} (hb : rowIn (h.get b) = some c) : h.cell? ⟨b, o, none⟩ = c.get? o := by
  unfold AHeap.cell?
  dsimp only
  cases hg : h.get b <;> rw [hg] at hb <;> cases hb <;> rfl

def AHeap.setCell (h : AHeap) (a : Addr) (v : Value) : Option AHeap :=
  match a.spot with
  | some _ => none
  | none => match h.get a.block with
    | .cells c t => match Nat.blt a.off c.len with | true => some (h.put a.block (.cells (c.set a.off v) t)) | false => none
    | _ => none

def _root_.Go.Sem.runA {α : Type} (P : Program) : Sem α → AHeap → Option (α × AHeap)
  | .pure a, h => some (a, h)
  | .load _ a k, h => match h.cell? a with
    | some v => (k v).runA P h
    | none => none
  | .store _ _ (.agg _) _, _ => none
  | .store _ _ (.tuple _) _, _ => none
  | .store _ a v k, h => match h.setCell a v with
    | some h' => k.runA P h'
    | none => none
  | .new (.cells c e (0, 0)) k, h => match Nat.blt h.next h.lim with
    | true => (k h.next).runA P (h.push (.cells (Row.ofList c.toList) e))
    | false => none
  | .new (.map es c) k, h => match Nat.blt h.next h.lim with
    | true => (k h.next).runA P (h.push (.map es c))
    | false => none
  | .new (.stringIter s p) k, h => match Nat.blt h.next h.lim with
    | true => (k h.next).runA P (h.push (.iter s p))
    | false => none
  | .getObj r k, h => match h.get r with
    | .map es c => (k (.map es c)).runA P h
    | .iter s p => (k (.stringIter s p)).runA P h
    | _ => none
  | .setObj r (.map es c) k, h => match h.get r with
    | .map _ _ => k.runA P (h.put r (.map es c))
    | _ => none
  | .setObj r (.stringIter s p) k, h => match h.get r with
    | .iter _ _ => k.runA P (h.put r (.iter s p))
    | _ => none
  | .program k, h => (k P).runA P h
  | .mark _ k, h => k.runA P h
  | _, _ => none

theorem runA_bind {α β : Type} (P : Program) (s : Sem α) (f : α → Sem β) : ∀ h, (s.bind f).runA P h = match s.runA P h with
    | some (a, h') => (f a).runA P h'
    | none => none := by
  induction s with
  | pure a => intro h; rfl
  | load md a k ih => intro h; simp only [Sem.bind, Sem.runA]; split <;> simp_all
  | store md a v k ih => intro h; cases v <;> simp only [Sem.bind, Sem.runA] <;> (try rfl) <;> split <;> simp_all
  | new o k ih =>
    intro h
    cases o with
    | cells c e fr => obtain ⟨x, y⟩ := fr; cases x <;> cases y <;> simp only [Sem.bind, Sem.runA] <;> split <;> simp_all
    | map => simp only [Sem.bind, Sem.runA]; split <;> simp_all
    | stringIter => simp only [Sem.bind, Sem.runA]; split <;> simp_all
    | _ => simp [Sem.bind, Sem.runA]
  | shape r k ih => intro h; rfl
  | freeze a n k ih => intro h; rfl
  | frozen a k ih => intro h; rfl
  | getObj r k ih => intro h; simp only [Sem.bind, Sem.runA]; split <;> simp_all
  | setObj r o k ih =>
    intro h
    cases o with
    | map => simp only [Sem.bind, Sem.runA]; split <;> simp_all
    | stringIter => simp only [Sem.bind, Sem.runA]; split <;> simp_all
    | _ => simp [Sem.bind, Sem.runA]
  | choose q k ih => intro h; rfl
  | sys c k ih => intro h; rfl
  | program k ih => intro h; simp only [Sem.bind, Sem.runA]; exact ih _ _
  | mark md k ih => intro h; simp only [Sem.bind, Sem.runA]; exact ih _
  | halt x => intro h; rfl

/-- What grows: outside the window nothing is turned. -/
def Ext (h : AHeap) (m m' : Mu) : Prop := Mu.le m m' ∧ ∀ b, b < h.next ∨ h.lim ≤ b → m' b = m b
theorem Ext.refl (h : AHeap) (m : Mu) : Ext h m m := ⟨Mu.le_refl m, fun _ _ => rfl⟩
theorem Ext.trans {h h2 : AHeap} {a b c : Mu} (k : Ext h a b) (k2 : Ext h2 b c) (hn : h.next ≤ h2.next) (hl : h2.lim = h.lim) : Ext h a c :=
  ⟨Mu.le_trans k.1 k2.1, fun x hx => by
    rw [k2.2 x (by rw [hl]; omega), k.2 x hx]⟩

/-- The window moves on alone; what is dead outside it stays dead. -/
def Nx (h h' : AHeap) : Prop := h.next ≤ h'.next ∧ h'.lim = h.lim ∧ (∀ b, (b < h.next ∨ h.lim ≤ b) → h.get b = .dead → h'.get b = .dead) ∧ ∀ b, isRo (h'.get b) = true → h'.get b = h.get b
theorem Nx.refl (h : AHeap) : Nx h h := ⟨Nat.le_refl _, rfl, fun _ _ e => e, fun _ _ => rfl⟩
theorem Nx.trans {a b c : AHeap} (h : Nx a b) (k : Nx b c) : Nx a c :=
  ⟨Nat.le_trans h.1 k.1, k.2.1.trans h.2.1, fun x hx e => k.2.2.1 x (by have := h.1; have := h.2.1; omega) (h.2.2.1 x hx e), fun x hx => by
    have e := k.2.2.2 x hx
    rw [e] at hx ⊢
    exact h.2.2.2 x hx⟩
theorem Nx.put {h : AHeap} {b : Nat} {o : AObj} (hb : h.get b ≠ .dead) (hno : isRo o = false := by rfl) : Nx h (h.put b o) :=
  ⟨Nat.le_refl _, rfl, fun x _ e => by
    rw [AHeap.get_put, if_neg]
    · exact e
    · rintro rfl; exact hb e, fun x hx => by
    rw [AHeap.get_put] at hx ⊢
    split
    · rename_i e; rw [if_pos e, hno] at hx; cases hx
    · rfl⟩
theorem Nx.kill (h : AHeap) (b : Nat) : Nx h (h.put b .dead) :=
  ⟨Nat.le_refl _, rfl, fun x _ e => by
    rw [AHeap.get_put]
    split
    · rfl
    · exact e, fun x hx => by
    rw [AHeap.get_put] at hx ⊢
    split
    · rename_i e; rw [if_pos e] at hx; cases hx
    · rfl⟩
theorem Nx.push {h : AHeap} {o : AObj} (hl : h.next < h.lim) (hno : isRo o = false := by rfl) : Nx h (h.push o) :=
  ⟨Nat.le_succ _, rfl, fun x hx e => by
    rw [AHeap.get_push, if_neg (by omega)]
    exact e, fun x hx => by
    rw [AHeap.get_push] at hx ⊢
    split
    · rename_i e; rw [if_pos e, hno] at hx; cases hx
    · rfl⟩

theorem AHeap.setCell_next {h h' : AHeap} {a : Addr} {v : Value} (e : h.setCell a v = some h') : Nx h h' := by
  unfold AHeap.setCell at e
  split at e
  · cases e
  · split at e
    · rename_i hb
      split at e
      · obtain rfl := Option.some.inj e; exact Nx.put (by rw [hb]; intro h; cases h)
      · cases e
    · cases e

theorem runA_nx {α : Type} (P : Program) (s : Sem α) : ∀ (h : AHeap) (a : α) (h' : AHeap), s.runA P h = some (a, h') → Nx h h' := by
  induction s with
  | pure a => intro h b h' e; simp only [Sem.runA, Option.some.injEq, Prod.mk.injEq] at e; obtain ⟨_, rfl⟩ := e; exact Nx.refl _
  | load md a k ih => intro h b h' e; simp only [Sem.runA] at e; split at e; (exact ih _ _ _ _ e); (cases e)
  | store md a v k ih =>
    intro h b h' e
    cases v <;> simp only [Sem.runA] at e <;> first
      | (cases e; done)
      | (split at e
         · rename_i h2 hs
           exact (AHeap.setCell_next hs).trans (ih _ _ _ e)
         · cases e)
  | new o k ih =>
    intro h b h' e
    cases o with
    | cells c t fr => obtain ⟨x, y⟩ := fr; cases x <;> cases y <;> simp only [Sem.runA] at e <;> first | (cases e; done) | (split at e; (rename_i hb; exact (Nx.push (by simpa using hb)).trans (ih _ _ _ _ e)); (cases e))
    | map => simp only [Sem.runA] at e; split at e; (rename_i hb; exact (Nx.push (by simpa using hb)).trans (ih _ _ _ _ e)); (cases e)
    | stringIter => simp only [Sem.runA] at e; split at e; (rename_i hb; exact (Nx.push (by simpa using hb)).trans (ih _ _ _ _ e)); (cases e)
    | _ => simp [Sem.runA] at e
  | shape r k ih => intro h b h' e; simp [Sem.runA] at e
  | freeze a n k ih => intro h b h' e; simp [Sem.runA] at e
  | frozen a k ih => intro h b h' e; simp [Sem.runA] at e
  | getObj r k ih => intro h b h' e; simp only [Sem.runA] at e; split at e <;> first | (exact ih _ _ _ _ e) | (cases e)
  | setObj r o k ih =>
    intro h b h' e
    cases o with
    | map => simp only [Sem.runA] at e; split at e; (rename_i hb; exact (Nx.put (by rw [hb]; intro h; cases h)).trans (ih _ _ _ e)); (cases e)
    | stringIter => simp only [Sem.runA] at e; split at e; (rename_i hb; exact (Nx.put (by rw [hb]; intro h; cases h)).trans (ih _ _ _ e)); (cases e)
    | _ => simp [Sem.runA] at e
  | choose q k ih => intro h b h' e; simp [Sem.runA] at e
  | sys c k ih => intro h b h' e; simp [Sem.runA] at e
  | program k ih => intro h b h' e; simp only [Sem.runA] at e; exact ih _ _ _ _ e
  | mark md k ih => intro h b h' e; simp only [Sem.runA] at e; exact ih _ _ _ e
  | halt x => intro h b h' e; simp [Sem.runA] at e
theorem runA_next {α : Type} (P : Program) (s : Sem α) (h : AHeap) (a : α) (h' : AHeap) (e : s.runA P h = some (a, h')) : h.next ≤ h'.next ∧ h'.lim = h.lim :=
  ⟨(runA_nx P s h a h' e).1, (runA_nx P s h a h' e).2.1⟩

end Go.Ab
