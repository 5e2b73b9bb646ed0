/- Abstract values and rules for them, proved sound over the model. -/
import Derived.Test.YtbdhocfaebchfaaOpLAbV
import Derived.Calls
set_option linter.all false
set_option linter.unusedSimpArgs false
set_option linter.unusedVariables false
set_option linter.unnecessarySimpa false
section
/- What it means that a tree lies in memory, and how that is kept. -/
namespace Go.Ab
open V

structure Ghost where
  φ : Nat → Nat
  F : Nat → Nat

def Uni {δ : Type} (es : Nat) (xs : List (V δ)) : Bool := xs.all fun x => x.cells.length == es

def CellsAt (f : Nat → Nat) (w : World) (b o : Nat) (cs : List (V D)) : Prop :=
  ∀ j c, cs[j]? = some c → solid c = true ∧ w.cell? ⟨b, o + j, none⟩ = some (conc f c)

/-- The same, but for the cells alone. -/
def CellsW (f : Nat → Nat) (w : World) (b o : Nat) (cs : List (V D)) : Prop :=
  ∀ j c, cs[j]? = some c → w.cell? ⟨b, o + j, none⟩ = some (conc f c)
theorem CellsAt.w {f : Nat → Nat} {w : World} {b o : Nat} {cs : List (V D)} (h : CellsAt f w b o cs) : CellsW f w b o cs := fun j c hj => (h j c hj).2
theorem solid_one {δ : Type} {v : V δ} (h : solid v = true) : v.one = true := by cases v <;> simp_all [solid, V.one]

/-- What is frozen of a row lies behind it. -/
def FzOk (c : Array Value) (fz : Nat × Nat) : Prop := fz.2 ≤ fz.1 ∨ c.size ≤ fz.1

def SlOk (g : Ghost) (w : World) (xs : List (V D)) (own : Option Nat) (d : D) : Prop :=
  Uni d.es xs = true ∧ 0 < d.es ∧ xs.length ≤ d.cap ∧
  match d.a with
  | none => xs = [] ∧ d.cap = 0
  | some (b, o) => CellsAt g.φ w b o (flat xs) ∧
    match own with
    | none => flaglessL xs = true ∧ (xs = [] ∨ o + xs.length * d.es ≤ g.F b)
    | some k => k ≤ xs.length ∧ o = 0 ∧ g.F b = o + k * d.es ∧ (xs = [] → d.cap = 0) ∧ ∃ c ty fz, w.heap[b]? = some (.cells c ty fz) ∧ FzOk c fz ∧ o + d.cap * d.es ≤ c.size

def RdOk (g : Ghost) (w : World) (cs : List (V D)) (d : D) : Prop :=
  flaglessL cs = true ∧ ∃ b o, d.a = some (b, o) ∧ CellsAt g.φ w b o cs ∧ o + cs.length ≤ g.F b

namespace V
mutual
def Mem (g : Ghost) (w : World) : V D → Prop
  | .sl xs own d => MemL g w xs ∧ SlOk g w xs own d
  | .rd cs d => MemL g w cs ∧ RdOk g w cs d
  | .fn _ a b => MemL g w a ∧ MemL g w b
  | .iface _ v => Mem g w v
  | .agg cs => MemL g w cs
  | .tup vs => MemL g w vs
  | .undef d => ∀ b, d.raw ≠ .bool b
  | .win _ n d => n ≤ d.cap
  | .ptr _ | .mp _ | .bool _ | .int _ _ | .str _ | .nilFn | .nilIface => True
def MemL (g : Ghost) (w : World) : List (V D) → Prop
  | [] => True
  | v :: vs => Mem g w v ∧ MemL g w vs
end
theorem MemL_all {g : Ghost} {w : World} (l : List (V D)) : MemL g w l ↔ ∀ v ∈ l, Mem g w v := by induction l <;> simp_all [MemL]

/-! lists -/
theorem cells_ne {δ : Type} {v : V δ} (h : v.one = true) : v.cells = [v] := by cases v <;> simp_all [cells, one]
theorem flat_nil {δ : Type} : flat ([] : List (V δ)) = [] := rfl
theorem flat_cons {δ : Type} (x : V δ) (xs : List (V δ)) : flat (x :: xs) = x.cells ++ flat xs := rfl
theorem flat_append {δ : Type} (xs ys : List (V δ)) : flat (xs ++ ys) = flat xs ++ flat ys := by simp [flat]
theorem flat_length {δ : Type} {es : Nat} {xs : List (V δ)} (h : Uni es xs = true) : (flat xs).length = xs.length * es := by
  induction xs with
  | nil => simp [flat]
  | cons x xs ih =>
    simp only [Uni, List.all_cons, Bool.and_eq_true, beq_iff_eq] at h
    simp only [flat_cons, List.length_append, List.length_cons, h.1, ih h.2, Nat.succ_mul]
    omega
theorem Uni_append {δ : Type} {es : Nat} {xs ys : List (V δ)} : Uni es (xs ++ ys) = (Uni es xs && Uni es ys) := by simp [Uni]
theorem flat_get {δ : Type} {es : Nat} {xs : List (V δ)} (h : Uni es xs = true) {i : Nat} {x : V δ} (hi : xs[i]? = some x) {j : Nat} (hj : j < es) :
    (flat xs)[i * es + j]? = x.cells[j]? := by
  induction xs generalizing i with
  | nil => simp at hi
  | cons y ys ih =>
    simp only [Uni, List.all_cons, Bool.and_eq_true, beq_iff_eq] at h
    cases i with
    | zero =>
      simp only [List.getElem?_cons_zero, Option.some.injEq] at hi
      subst hi
      rw [flat_cons, List.getElem?_append_left (by omega)]
      simp
    | succ i =>
      simp only [List.getElem?_cons_succ] at hi
      have := ih h.2 hi
      rw [flat_cons, List.getElem?_append_right (by rw [h.1, Nat.succ_mul]; omega), h.1, show (i + 1) * es + j - es = i * es + j by rw [Nat.succ_mul]; omega]
      exact this

/-! 'er' and the rest -/
variable {δ : Type}
theorem er_one (v : V δ) : v.er.one = v.one := by cases v <;> rfl
theorem er_cells (v : V δ) : v.er.cells = v.cells.map er := by cases v <;> simp [er, cells, erL_map]
theorem er_flat (xs : List (V δ)) : flat (xs.map er) = (flat xs).map er := by
  induction xs <;> simp_all [flat, er_cells]
theorem er_Uni (es : Nat) (xs : List (V δ)) : Uni es (xs.map er) = Uni es xs := by
  simp [Uni, List.all_map, Function.comp_def, er_cells]
theorem er_low (n : Nat) (v : V δ) : v.er.low n = v.low n := by
  induction v using ind <;> (try simp_all [er, low, erL_map, lowL_all, List.all_map, Function.comp_def])
  all_goals
    first | (rename_i q; cases q <;> simp [er, low]; done) | (rw [Bool.eq_iff_iff]; simp only [List.all_eq_true, Bool.and_eq_true]; constructor <;> intro h <;> (try constructor) <;> intros <;> simp_all)
theorem er_flagless (v : V δ) : v.er.flagless = v.flagless := by
  induction v using ind <;> simp_all [er, flagless, erL_map, flaglessL_all, List.all_map, Function.comp_def]
  all_goals
    try (rw [Bool.eq_iff_iff]; simp only [List.all_eq_true, Bool.and_eq_true]; constructor <;> intro h <;> (try constructor) <;> intros <;> simp_all)
theorem er_strip (v : V δ) : v.strip.er = v.er.strip := by
  induction v using ind <;> simp_all [er, strip, erL_map, stripL_map]
theorem er_share (v : V δ) : v.share.er = v.er.share := by
  induction v using ind with
  | hsl xs own d h => cases own <;> simp_all [er, share, erL_map, shareL_map]
  | _ => simp_all [er, share, erL_map, shareL_map]
theorem strip_flagless (v : V δ) : v.strip.flagless = true := by
  induction v using ind <;> simp_all [strip, flagless, stripL_map, flaglessL_all]
theorem fl_nil {v : V D} (h : v.flagless = true) : v.fl = [] := by
  induction v using ind with
  | hsl xs own d ih => cases own <;> simp_all [flagless, flaglessL_all, fl, flL_flatMap]
  | _ => simp_all [flagless, flaglessL_all, fl, flL_flatMap]
theorem flL_nil {l : List (V D)} (h : flaglessL l = true) : flL l = [] := by
  rw [flL_flatMap]; rw [flaglessL_all] at h; simp only [List.flatMap_eq_nil_iff]; intro v hv; exact fl_nil (by simp_all)
end V
end Go.Ab
end
