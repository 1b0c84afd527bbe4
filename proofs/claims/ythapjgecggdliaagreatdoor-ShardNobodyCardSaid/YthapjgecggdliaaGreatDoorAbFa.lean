import Derived.Test.YthapjgecggdliaaGreatDoorAbW
namespace Go.Ab
open Go

/-! # The quick engine: what stands in the code alone is reckoned once -/
structure Box (α : Type) where
  un : α

/-! ## Slots -/
noncomputable def getB {α : Type} (d : α) (p : Path) : Box (Tree α → α) :=
  Path.rec (motive := fun _ => Box (Tree α → α)) ⟨fun t => Tree.rec (motive := fun _ => α) d (fun v _ _ _ _ _ _ _ _ => v) t⟩
    (fun _ ih => ⟨fun t => Tree.rec (motive := fun _ => α) d (fun _ t0 _ _ _ _ _ _ _ => ih.un t0) t⟩)
    (fun _ ih => ⟨fun t => Tree.rec (motive := fun _ => α) d (fun _ _ t1 _ _ _ _ _ _ => ih.un t1) t⟩)
    (fun _ ih => ⟨fun t => Tree.rec (motive := fun _ => α) d (fun _ _ _ t2 _ _ _ _ _ => ih.un t2) t⟩)
    (fun _ ih => ⟨fun t => Tree.rec (motive := fun _ => α) d (fun _ _ _ _ t3 _ _ _ _ => ih.un t3) t⟩) p
theorem getB_eq {α : Type} (d : α) : ∀ (p : Path) (t : Tree α), (getB d p).un t = Tree.getP d p t := by
  intro p
  induction p with
  | z => intro t; cases t <;> rfl
  | a p ih => intro t; cases t with | leaf => rfl | node v t0 t1 t2 t3 => exact ih t0
  | b p ih => intro t; cases t with | leaf => rfl | node v t0 t1 t2 t3 => exact ih t1
  | c p ih => intro t; cases t with | leaf => rfl | node v t0 t1 t2 t3 => exact ih t2
  | d p ih => intro t; cases t with | leaf => rfl | node v t0 t1 t2 t3 => exact ih t3
noncomputable def setB {α : Type} (d : α) (p : Path) : Box (Tree α → α → Tree α) :=
  Path.rec (motive := fun _ => Box (Tree α → α → Tree α)) ⟨fun t x => Tree.rec (motive := fun _ => Tree α) (.node x .leaf .leaf .leaf .leaf) (fun _ t0 t1 t2 t3 _ _ _ _ => .node x t0 t1 t2 t3) t⟩
    (fun _ ih => ⟨fun t x => Tree.rec (motive := fun _ => Tree α) (.node d (ih.un .leaf x) .leaf .leaf .leaf) (fun v t0 t1 t2 t3 _ _ _ _ => .node v (ih.un t0 x) t1 t2 t3) t⟩)
    (fun _ ih => ⟨fun t x => Tree.rec (motive := fun _ => Tree α) (.node d .leaf (ih.un .leaf x) .leaf .leaf) (fun v t0 t1 t2 t3 _ _ _ _ => .node v t0 (ih.un t1 x) t2 t3) t⟩)
    (fun _ ih => ⟨fun t x => Tree.rec (motive := fun _ => Tree α) (.node d .leaf .leaf (ih.un .leaf x) .leaf) (fun v t0 t1 t2 t3 _ _ _ _ => .node v t0 t1 (ih.un t2 x) t3) t⟩)
    (fun _ ih => ⟨fun t x => Tree.rec (motive := fun _ => Tree α) (.node d .leaf .leaf .leaf (ih.un .leaf x)) (fun v t0 t1 t2 t3 _ _ _ _ => .node v t0 t1 t2 (ih.un t3 x)) t⟩) p
theorem setB_eq {α : Type} (d : α) : ∀ (p : Path) (t : Tree α) (x : α), (setB d p).un t x = Tree.setP d p t x := by
  intro p
  induction p with
  | z => intro t x; cases t <;> rfl
  | a p ih => intro t x; cases t with
    | leaf => exact congrArg (fun y => Tree.node d y .leaf .leaf .leaf) (ih .leaf x)
    | node v t0 t1 t2 t3 => exact congrArg (fun y => Tree.node v y t1 t2 t3) (ih t0 x)
  | b p ih => intro t x; cases t with
    | leaf => exact congrArg (fun y => Tree.node d .leaf y .leaf .leaf) (ih .leaf x)
    | node v t0 t1 t2 t3 => exact congrArg (fun y => Tree.node v t0 y t2 t3) (ih t1 x)
  | c p ih => intro t x; cases t with
    | leaf => exact congrArg (fun y => Tree.node d .leaf .leaf y .leaf) (ih .leaf x)
    | node v t0 t1 t2 t3 => exact congrArg (fun y => Tree.node v t0 t1 y t3) (ih t2 x)
  | d p ih => intro t x; cases t with
    | leaf => exact congrArg (fun y => Tree.node d .leaf .leaf .leaf y) (ih .leaf x)
    | node v t0 t1 t2 t3 => exact congrArg (fun y => Tree.node v t0 t1 t2 y) (ih t3 x)

noncomputable def rdB : Operand → Box (Tree Value → Value)
  | .tmp t => getB undef (Path.of t)
  | .const v => ⟨fun _ => v⟩
  | .global g => ⟨fun _ => .pointer (some ⟨g, 0, none⟩)⟩
  | .func f => ⟨fun _ => .func (.func f) #[] #[]⟩
theorem rdB_eq (x : Operand) (T : Tree Value) : (rdB x).un T = rhoA T x := by
  cases x with
  | tmp t => exact getB_eq undef _ T
  | _ => rfl
noncomputable def rhoB (T : Tree Value) : Operand → Value := fun x => (rdB x).un T
theorem rhoB_eq (T : Tree Value) : rhoB T = rhoA T := funext fun x => rdB_eq x T
noncomputable def putB : Option Tmp → Box (Tree Value → Value → Tree Value)
  | none => ⟨fun T _ => T⟩
  | some d => setB undef (Path.of d)
theorem putB_eq (dst : Option Tmp) (T : Tree Value) (v : Value) : (putB dst).un T v = Tput T dst v := by
  cases dst with
  | none => rfl
  | some d => exact setB_eq undef _ T v

/-! ## Memory -/
noncomputable def heapGet (h : AHeap) (b : Nat) : AObj := match h with | ⟨t, _, _⟩ => (getB AObj.dead (Path.of b)).un t
theorem heapGet_eq (h : AHeap) (b : Nat) : heapGet h b = h.get b := getB_eq _ _ _
noncomputable def heapPut (h : AHeap) (b : Nat) (o : AObj) : AHeap := match h with | ⟨t, n, l⟩ => ⟨(setB AObj.dead (Path.of b)).un t o, n, l⟩
theorem heapPut_eq (h : AHeap) (b : Nat) (o : AObj) : heapPut h b o = h.put b o := by
  unfold heapPut AHeap.put Tree.set
  simp only [setB_eq]
noncomputable def heapPush (h : AHeap) (o : AObj) : AHeap := match h with | ⟨t, n, l⟩ => ⟨(setB AObj.dead (Path.of n)).un t o, Nat.succ n, l⟩
theorem heapPush_eq (h : AHeap) (o : AObj) : heapPush h o = h.push o := by
  unfold heapPush AHeap.push Tree.set
  simp only [setB_eq]
noncomputable def rowGet (r : Row) (i : Nat) : Option Value := match r with | ⟨n, t⟩ => match Nat.blt i n with | true => some ((getB undef (Path.of i)).un t) | false => none
theorem rowGet_eq (r : Row) (i : Nat) : rowGet r i = r.get? i := by
  unfold rowGet Row.get? Tree.get
  simp only [getB_eq]
  cases h : Nat.blt i r.len <;> simp
noncomputable def rowSet (r : Row) (i : Nat) (v : Value) : Row := match r with | ⟨n, t⟩ => ⟨n, (setB undef (Path.of i)).un t v⟩
theorem rowSet_eq (r : Row) (i : Nat) (v : Value) : rowSet r i v = r.set i v := by
  unfold rowSet Row.set Tree.set
  simp only [setB_eq]
noncomputable def treeOfB : List Value → Nat → Tree Value → Tree Value
  | [], _, t => t
  | v :: rest, i, t => treeOfB rest (i + 1) ((setB undef (Path.of i)).un t v)
theorem treeOfB_eq : ∀ (l : List Value) (i : Nat) (t : Tree Value), treeOfB l i t = treeOf l i t := by
  intro l
  induction l with
  | nil => intro i t; rfl
  | cons v l ih => intro i t; simp only [treeOfB, treeOf]; rw [ih, setB_eq]; rfl

/-! ## Looks at values: the ways are closed -/
def vInt {β : Type} (v : Value) : (IntKind → Int → β) → β → β := match v with | .int k n => fun f _ => f k n | _ => fun _ d => d
def vBool {β : Type} (v : Value) : (Bool → β) → β → β := match v with | .bool b => fun f _ => f b | _ => fun _ d => d
def vStr {β : Type} (v : Value) : (ByteArray → β) → β → β := match v with | .string b => fun f _ => f b | _ => fun _ d => d
def vPtr {β : Type} (v : Value) : (Nat → Nat → β) → β → β := match v with | .pointer (some ⟨b, o, none⟩) => fun f _ => f b o | _ => fun _ d => d
def vSlice {β : Type} (v : Value) : (Nat → Nat → Nat → Nat → β) → β → β := match v with | .slice (some ⟨b, o, none⟩) n c => fun f _ => f b o n c | _ => fun _ d => d
def vAgg {β : Type} (v : Value) : (Array Value → β) → β → β := match v with | .agg c => fun f _ => f c | _ => fun _ d => d
def vTuple {β : Type} (v : Value) : (Array Value → β) → β → β := match v with | .tuple c => fun f _ => f c | _ => fun _ d => d
theorem vInt_some {β : Type} {v : Value} {f : IntKind → Int → Option β} {r : β} (h : vInt v f none = some r) : ∃ k n, v = .int k n ∧ f k n = some r := by
  cases v <;> first | exact ⟨_, _, rfl, h⟩ | cases h
theorem vBool_some {β : Type} {v : Value} {f : Bool → Option β} {r : β} (h : vBool v f none = some r) : ∃ b, v = .bool b ∧ f b = some r := by
  cases v <;> first | exact ⟨_, rfl, h⟩ | cases h
theorem vStr_some {β : Type} {v : Value} {f : ByteArray → Option β} {r : β} (h : vStr v f none = some r) : ∃ b, v = .string b ∧ f b = some r := by
  cases v <;> first | exact ⟨_, rfl, h⟩ | cases h
theorem vAgg_some {β : Type} {v : Value} {f : Array Value → Option β} {r : β} (h : vAgg v f none = some r) : ∃ b, v = .agg b ∧ f b = some r := by
  cases v <;> first | exact ⟨_, rfl, h⟩ | cases h
theorem vTuple_some {β : Type} {v : Value} {f : Array Value → Option β} {r : β} (h : vTuple v f none = some r) : ∃ b, v = .tuple b ∧ f b = some r := by
  cases v <;> first | exact ⟨_, rfl, h⟩ | cases h
theorem vPtr_some {β : Type} {v : Value} {f : Nat → Nat → Option β} {r : β} (h : vPtr v f none = some r) : ∃ b o, v = .pointer (some ⟨b, o, none⟩) ∧ f b o = some r := by
  unfold vPtr at h
  split at h
  · exact ⟨_, _, rfl, h⟩
  · cases h
theorem vSlice_some {β : Type} {v : Value} {f : Nat → Nat → Nat → Nat → Option β} {r : β} (h : vSlice v f none = some r) : ∃ b o n c, v = .slice (some ⟨b, o, none⟩) n c ∧ f b o n c = some r := by
  unfold vSlice at h
  split at h
  · exact ⟨_, _, _, _, rfl, h⟩
  · cases h
end Go.Ab
