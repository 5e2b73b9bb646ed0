/- Abstract values and rules for them, proved sound over the model. -/
import GoSem.Core.Value
set_option linter.all false
set_option linter.unusedSimpArgs false
set_option linter.unusedVariables false
set_option linter.unnecessarySimpa false
section
/- Abstract values for the hand proofs: trees in which a slice is the list of its elements. -/
namespace Go.Ab

/-- What a tree bears beside the abstract value: where it lies (block and offset), capacity, cells of an element; and a raw value. -/
structure D where
  a : Option (Nat × Nat) := none
  cap : Nat := 0
  es : Nat := 0
  raw : Value := .tuple #[]
  wa : Option Addr := none
  deriving Inhabited

/-- Where a slice's head points to ('wa': an empty one's, out of anywhere). -/
def slA (d : D) : Option Addr :=
  match d.a with
  | some p => some ⟨p.1, p.2, none⟩
  | none => d.wa

/-- Values. 'ptr (some (i, o))': the cell o of the boxed object i. 'rd cs': the address of cells that never change again, which hold cs.
'win (i, o) n': a slice of n elements that stand in the boxed object i from its cell o on.
'sl xs own': a slice with the elements xs; own = none: its cells never change again; own = some k: it is the only one that may append to, or write into, its array, whose first k elements never change again. -/
inductive V (δ : Type) : Type where
  | bool (b : Bool)
  | int (k : IntKind) (n : Int)
  | str (s : ByteArray)
  | ptr (p : Option (Nat × Nat))
  | rd (cells : List (V δ)) (d : δ)
  | sl (xs : List (V δ)) (own : Option Nat) (d : δ)
  | mp (p : Option Nat)
  | win (p : Nat × Nat) (n : Nat) (d : δ)
  | fn (f : Fn) (first captured : List (V δ))
  | nilFn
  | iface (t : TypeId) (v : V δ)
  | nilIface
  | agg (cs : List (V δ))
  | tup (vs : List (V δ))
  | undef (d : δ)

namespace V
variable {δ : Type}

/-- The cells of a value. -/
def cells : V δ → List (V δ)
  | .agg cs => cs
  | v => [v]

def flat (xs : List (V δ)) : List (V δ) := xs.flatMap cells

/-- A value of one cell. -/
def one : V δ → Bool
  | .agg _ | .tup _ => false
  | _ => true

/-- One cell, and known. -/
def _root_.Go.Ab.solid : V δ → Bool
  | .agg _ | .tup _ | .undef _ => false
  | _ => true

mutual
/-- A copy that may neither append nor write. -/
def strip : V δ → V δ
  | .sl xs _ d => .sl (stripL xs) none d
  | .rd cs d => .rd (stripL cs) d
  | .fn f a b => .fn f (stripL a) (stripL b)
  | .iface t v => .iface t (strip v)
  | .agg cs => .agg (stripL cs)
  | .tup vs => .tup (stripL vs)
  | .bool b => .bool b | .int k n => .int k n | .str s => .str s | .ptr p => .ptr p | .mp p => .mp p | .win p n d => .win p n d | .nilFn => .nilFn | .nilIface => .nilIface | .undef d => .undef d
def stripL : List (V δ) → List (V δ)
  | [] => []
  | v :: vs => strip v :: stripL vs
end

mutual
/-- What is left of a value of which a copy was handed out. -/
def share : V δ → V δ
  | .sl xs none d => .sl xs none d
  | .sl xs (some _) d => .sl (shareL xs) (some xs.length) d
  | .rd cs d => .rd cs d
  | .fn f a b => .fn f (shareL a) (shareL b)
  | .iface t v => .iface t (share v)
  | .agg cs => .agg (shareL cs)
  | .tup vs => .tup (shareL vs)
  | .bool b => .bool b | .int k n => .int k n | .str s => .str s | .ptr p => .ptr p | .mp p => .mp p | .win p n d => .win p n d | .nilFn => .nilFn | .nilIface => .nilIface | .undef d => .undef d
def shareL : List (V δ) → List (V δ)
  | [] => []
  | v :: vs => share v :: shareL vs
end

mutual
/-- The objects that a value names lie below n. -/
def low (n : Nat) : V δ → Bool
  | .ptr (some p) => decide (p.1 < n)
  | .mp (some p) => decide (p < n)
  | .win p _ _ => decide (p.1 < n)
  | .sl xs _ _ => lowL n xs
  | .rd cs _ => lowL n cs
  | .fn _ a b => lowL n a && lowL n b
  | .iface _ v => low n v
  | .agg cs => lowL n cs
  | .tup vs => lowL n vs
  | .bool _ | .int _ _ | .str _ | .ptr none | .mp none | .nilFn | .nilIface | .undef _ => true
def lowL (n : Nat) : List (V δ) → Bool
  | [] => true
  | v :: vs => low n v && lowL n vs
end

mutual
/-- No part of the value may append or write. -/
def flagless : V δ → Bool
  | .sl xs own _ => own.isNone && flaglessL xs
  | .rd cs _ => flaglessL cs
  | .fn _ a b => flaglessL a && flaglessL b
  | .iface _ v => flagless v
  | .agg cs => flaglessL cs
  | .tup vs => flaglessL vs
  | .ptr _ | .mp _ | .win _ _ _ | .bool _ | .int _ _ | .str _ | .nilFn | .nilIface | .undef _ => true
def flaglessL : List (V δ) → Bool
  | [] => true
  | v :: vs => flagless v && flaglessL vs
end

/-- What is left of a value that was taken away: nothing of a part that bore a right. -/
def leave1 (u : V δ → δ) (v : V δ) : V δ := if v.flagless then v else .undef (u v)
def leave (u : V δ → δ) : V δ → V δ
  | .agg cs => .agg (cs.map (leave1 u))
  | v => leave1 u v

mutual
/-- The abstract value. -/
def er : V δ → V Unit
  | .sl xs own _ => .sl (erL xs) own ()
  | .rd cs _ => .rd (erL cs) ()
  | .fn f a b => .fn f (erL a) (erL b)
  | .iface t v => .iface t (er v)
  | .agg cs => .agg (erL cs)
  | .tup vs => .tup (erL vs)
  | .bool b => .bool b | .int k n => .int k n | .str s => .str s | .ptr p => .ptr p | .mp p => .mp p | .win p n _ => .win p n () | .nilFn => .nilFn | .nilIface => .nilIface | .undef _ => .undef ()
def erL : List (V δ) → List (V Unit)
  | [] => []
  | v :: vs => er v :: erL vs
end

mutual
/-- The value as the model has it: 'f' tells where the objects lie. -/
def conc (f : Nat → Nat) : V D → Value
  | .sl xs _ d => .slice (slA d) xs.length d.cap
  | .rd _ d => .pointer (d.a.map fun p => ⟨p.1, p.2, none⟩)
  | .fn g a b => .func g (concL f a).toArray (concL f b).toArray
  | .iface t v => .iface t (conc f v)
  | .agg cs => .agg (concL f cs).toArray
  | .tup vs => .tuple (concL f vs).toArray
  | .ptr p => .pointer (p.map fun q => ⟨f q.1, q.2, none⟩)
  | .mp p => .map (p.map f)
  | .win p n d => .slice (some ⟨f p.1, p.2, none⟩) n d.cap
  | .bool b => .bool b | .int k n => .int k n | .str s => .string s | .nilFn => .nilFunc | .nilIface => .nilIface | .undef d => d.raw
def concL (f : Nat → Nat) : List (V D) → List Value
  | [] => []
  | v :: vs => conc f v :: concL f vs
end

mutual
/-- The arrays that the value has the right to append to, or to write into. -/
def fl : V D → List Nat
  | .sl xs own d => (if own.isSome then (d.a.map (·.1)).toList else []) ++ flL xs
  | .rd cs _ => flL cs
  | .fn _ a b => flL a ++ flL b
  | .iface _ v => fl v
  | .agg cs => flL cs
  | .tup vs => flL vs
  | .ptr _ | .mp _ | .win _ _ _ | .bool _ | .int _ _ | .str _ | .nilFn | .nilIface | .undef _ => []
def flL : List (V D) → List Nat
  | [] => []
  | v :: vs => fl v ++ flL vs
end

section lists
variable {δ : Type}
theorem stripL_map (l : List (V δ)) : stripL l = l.map strip := by induction l <;> simp_all [stripL]
theorem shareL_map (l : List (V δ)) : shareL l = l.map share := by induction l <;> simp_all [shareL]
theorem erL_map (l : List (V δ)) : erL l = l.map er := by induction l <;> simp_all [erL]
theorem concL_map (f : Nat → Nat) (l : List (V D)) : concL f l = l.map (conc f) := by induction l <;> simp_all [concL]
theorem lowL_all (n : Nat) (l : List (V δ)) : lowL n l = l.all (low n) := by induction l <;> simp_all [lowL]
theorem flaglessL_all (l : List (V δ)) : flaglessL l = l.all flagless := by induction l <;> simp_all [flaglessL]
theorem flL_flatMap (l : List (V D)) : flL l = l.flatMap fl := by induction l <;> simp_all [flL]
end lists

/-- An induction over trees. -/
theorem ind {δ : Type} {p : V δ → Prop}
    (hsl : ∀ xs own d, (∀ x ∈ xs, p x) → p (.sl xs own d)) (hrd : ∀ cs d, (∀ x ∈ cs, p x) → p (.rd cs d))
    (hfn : ∀ f a b, (∀ x ∈ a, p x) → (∀ x ∈ b, p x) → p (.fn f a b)) (hif : ∀ t v, p v → p (.iface t v))
    (hagg : ∀ cs, (∀ x ∈ cs, p x) → p (.agg cs)) (htup : ∀ cs, (∀ x ∈ cs, p x) → p (.tup cs))
    (hb : ∀ b, p (.bool b)) (hi : ∀ k n, p (.int k n)) (hs : ∀ s, p (.str s)) (hp : ∀ q, p (.ptr q)) (hm : ∀ q, p (.mp q)) (hw : ∀ q n d, p (.win q n d))
    (hnf : p .nilFn) (hni : p .nilIface) (hu : ∀ d, p (.undef d)) : ∀ v, p v := by
  intro v
  induction v using V.rec (motive_2 := fun l => ∀ x ∈ l, p x) with
  | nil => rename_i x h; cases h
  | cons v vs h1 h2 =>
    rename_i x h
    rcases List.mem_cons.1 h with rfl | h
    · exact h1
    · exact h2 x h
  | sl xs own d h => exact hsl xs own d h
  | rd cs d h => exact hrd cs d h
  | fn f a b ha hb => exact hfn f a b ha hb
  | iface t v h => exact hif t v h
  | agg cs h => exact hagg cs h
  | tup cs h => exact htup cs h
  | bool b => exact hb b
  | int k n => exact hi k n
  | str s => exact hs s
  | ptr q => exact hp q
  | mp q => exact hm q
  | win q n d => exact hw q n d
  | nilFn => exact hnf
  | nilIface => exact hni
  | undef d => exact hu d

end V
end Go.Ab
end
