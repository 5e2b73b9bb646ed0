/- Abstract values and rules for them, proved sound over the model. -/
import Derived.Test.YtbdhocfaebchfaaOpLAbEval
import Derived.RangeFuncRecord
import Derived.OrdersIn
import Derived.TacticsIn
set_option linter.all false
set_option linter.unusedSimpArgs false
set_option linter.unusedVariables false
set_option linter.unnecessarySimpa false
section
/- Operations that touch the heap or use values up; a list of operations; calls. -/
namespace Go.Ab
open V
variable [Glob]

def mapRange {α : Type} (f : α → α) (cs : List α) (o n : Nat) : List α := cs.take o ++ ((cs.drop o).take n).map f ++ cs.drop (o + n)
def putRange {α : Type} (cs : List α) (o : Nat) (vs : List α) : List α := cs.take o ++ vs ++ cs.drop (o + vs.length)

def lv1 (v : A) : A := leave1 (fun _ => ()) v

def loadA (E : Env) (m : Mode) (t : TypeId) (x : Operand) (st : St) : Option (A × St) :=
  match E.T t with
  | none => none
  | some u =>
    match ev st x with
    | .rd cs () => (partA u cs 0).map fun v => (v, st)
    | .ptr (some p) =>
      (match st.H[p.1]? with
       | some (.cells cs) =>
         (match partA u cs p.2 with
          | some v => if v.flagless then some (v, st) else
              (match m with
               | .copy => some (v.strip, { st with H := st.H.set p.1 (.cells (mapRange share cs p.2 u.size)) })
               | .take => some (v, { st with H := st.H.set p.1 (.cells (mapRange lv1 cs p.2 u.size)) }))
          | none => none)
       | _ => none)
    | _ => none

def storeA (E : Env) (t : TypeId) (x v : Operand) (st : St) : Option St :=
  match E.T t with
  | none => none
  | some u =>
    match ev st x, use v st with
    | .ptr (some p), (a, st1) =>
      (match st1.H[p.1]? with
       | some (.cells cs) =>
         if a.cells.length = u.size ∧ p.2 + u.size ≤ cs.length ∧ a.low p.1 = true ∧ a.cells.all solid = true then
           some { st1 with H := st1.H.set p.1 (.cells (putRange cs p.2 a.cells)) } else none
       | _ => none)
    | _, _ => none

def boxA (E : Env) (t : TypeId) (v : Operand) (st : St) : Option (A × St) :=
  match E.T t, use v st with
  | some u, (a, st1) => if a.cells.length = u.size ∧ a.cells.all solid = true then some (.ptr (some (st1.H.length, 0)), { st1 with H := st1.H ++ [.cells a.cells] }) else none
  | none, _ => none

def allocA (E : Env) (t : TypeId) (st : St) : Option (A × St) :=
  match E.T t with
  | some u => if u.zero.cells.all solid = true then some (.ptr (some (st.H.length, 0)), { st with H := st.H ++ [.cells u.zero.cells] }) else none
  | none => none

/-- Parts are laid into cells. -/
def fillA (place : Nat → Option (Nat × Nat)) : List A → List (Nat × Operand) → St → Option (List A × St)
  | cs, [], st => some (cs, st)
  | cs, (i, x) :: rest, st =>
    match place i, use x st with
    | some (o, n), (v, st1) => if v.cells.length = n ∧ o + n ≤ cs.length ∧ v.cells.all solid = true then fillA place (putRange cs o v.cells) rest st1 else none
    | none, _ => none

def placeA (T : TypeId → Option Ty) (d : TyD) (i : Nat) : Option (Nat × Nat) :=
  match d with
  | .st fs => (match fs[i]? with | some p => (T p.2).map fun u => (p.1, u.size) | none => none)
  | .arr _ e => (T e).map fun u => (i * u.size, u.size)
  | _ => none

/-- Are the types of the parts known? -/
def partsOk (T : TypeId → Option Ty) : TyD → Bool
  | .st fs => fs.all fun f => (T f.2).isSome
  | .arr _ e => (T e).isSome
  | _ => false

def buildA (E : Env) (t : TypeId) (parts : List (Nat × Operand)) (st : St) : Option (A × St) :=
  match E.T t with
  | some u => if u.d.agg = true ∧ u.zero.cells.all solid = true ∧ partsOk E.T u.d = true then (fillA (placeA E.T u.d) u.zero.cells parts st).map fun r => (.agg r.1, r.2) else none
  | none => none

/-- The elements of a slice that is built. -/
def elemsA (size : Nat) : List A → List (Nat × Operand) → St → Option (List A × St)
  | xs, [], st => some (xs, st)
  | xs, (i, x) :: rest, st =>
    match use x st with
    | (v, st1) => if v.cells.length = size ∧ i < xs.length ∧ v.cells.all solid = true then elemsA size (xs.set i v) rest st1 else none

def buildSliceA (E : Env) (t : TypeId) (len : Nat) (parts : List (Nat × Operand)) (st : St) : Option (A × St) :=
  match dOf E.T t with
  | .sl e => (match E.T e with
    | some u => if 0 < u.size ∧ len * u.size ≤ 16777216 ∧ u.zero.cells.length = u.size ∧ u.zero.cells.all solid = true then
        (elemsA u.size (List.replicate len u.zero) parts st).map fun r => (.sl r.1 (some 0) (), r.2) else none
    | none => none)
  | _ => none


def appOk (u : Ty) (n : Nat) : Bool :=
  decide (0 < u.size) && decide (n * u.bytes ≤ 140737488355328) && decide (0 < u.bytes) && decide (u.zero.cells.length = u.size) && u.zero.cells.all solid

def isSrc : TyD → Bool
  | .sl _ | .str => true
  | _ => false

def isU8 : TyD → Bool
  | .int .u8 => true
  | _ => false

def appendA (E : Env) (t tx : TypeId) (s x : Operand) (st : St) : Option (A × St) :=
  match dOf E.T t with
  | .sl e => (match E.T e with
    | some u =>
      (match use s st with
       | (.sl xs (some k) (), st1) =>
         (match use x st1 with
          | (.sl ys _ (), st2) => if isSrc (dOf E.T tx) = true ∧ k ≤ xs.length ∧ Uni u.size xs = true ∧ Uni u.size ys = true ∧ appOk u (xs.length + ys.length) = true then
              some (.sl (xs ++ ys) (some k) (), st2) else none
          | (.str b, st2) => if isSrc (dOf E.T tx) = true ∧ k ≤ xs.length ∧ Uni u.size xs = true ∧ u.size = 1 ∧ isU8 u.d = true ∧ appOk u (xs.length + b.size) = true then
              some (.sl (xs ++ b.data.toList.map byteA) (some k) (), st2) else none
          | _ => none)
       | _ => none)
    | none => none)
  | _ => none

def extractA (x : Operand) (i : Nat) (st : St) : Option (A × St) :=
  match x with
  | .tmp t => (match st.σ t with
    | .tup vs => (match vs[i]? with
      | some v => if v.flagless then some (v, st) else some (v, { st with σ := upd st.σ t (.tup (vs.set i (lv v))) })
      | none => none)
    | _ => none)
  | _ => none

def makeSliceA (E : Env) (t : TypeId) (l c : Operand) (st : St) : Option (A × St) :=
  match dOf E.T t, ev st l, ev st c with
  | .sl e, .int .i64 a, .int .i64 b => (match E.T e with
    | some u => if 0 ≤ a ∧ a = b ∧ b * u.bytes ≤ 140737488355328 ∧ b < 9223372036854775808 ∧ 0 < u.size ∧ u.zero.cells.length = u.size ∧ u.zero.cells.all solid = true then
        some (.sl (List.replicate a.toNat u.zero) (some 0) (), st) else none
    | none => none)
  | _, _, _ => none

/-- What is copied: how many elements, and their cells. -/
def srcA (H : Heap) (size : Nat) (v : A) : Option (Nat × List A) :=
  match v with
  | .sl ys _ () => if Uni size ys = true then some (ys.length, flat ys) else none
  | .str b => if size = 1 then some (b.size, b.data.toList.map byteA) else none
  | .win p n () => (match H[p.1]? with | some (.cells cs) => if p.2 + n * size ≤ cs.length then some (n, (cs.drop p.2).take (n * size)) else none | _ => none)
  | _ => none
def copyA (E : Env) (t : TypeId) (x y : Operand) (st : St) : Option (A × St) :=
  match dOf E.T t, ev st x with
  | .sl e, .win p n () => (match E.T e with
    | some u => (match srcA st.H u.size (ev st y), st.H[p.1]? with
      | some (m, ds), some (.cells cs) =>
        if (ds.take (min m n * u.size)).all flagless = true ∧ (ds.take (min m n * u.size)).all solid = true ∧ (ds.take (min m n * u.size)).all (V.low p.1) = true ∧ p.2 + min m n * u.size ≤ cs.length then
          some (.int .i64 (min m n : Nat), { st with H := st.H.set p.1 (.cells (putRange cs p.2 (ds.take (min m n * u.size)))) }) else none
      | _, _ => none)
    | none => none)
  | _, _ => none

/-- An operation that is no call of a function: the value and the state behind it. -/
def opA (E : Env) (dst : Option Tmp) (o : Op) (st : St) : Option (A × St) :=
  match o with
  | .move x => some (match dst.map E.mode with | some .take => use x st | _ => copyOf x st)
  | .assign x => some (use x st)
  | .load t x => loadA E (match dst.map E.mode with | some .take => .take | _ => .copy) t x st
  | .store t x v => (storeA E t x v st).map fun st' => (.undef (), st')
  | .alloc t => allocA E t st
  | .box t v => boxA E t v st
  | .build t ps => buildA E t ps.toList st
  | .buildSlice t n ps => buildSliceA E t n ps.toList st
  | .makeSlice t l c => makeSliceA E t l c st
  | .extract x i => extractA x i st
  | .call { callee := .builtin .append, args, argTypes } => (match args.toList, argTypes.toList with | [s, x], [t, tx] => appendA E t tx s x st | _, _ => none)
  | .convert s d x => (match toBytesA E.T s d (ev st x) with
    | some v => some (v, st)
    | none => (match winStrA E.T s d (ev st x) st.H with
      | some v => some (v, st)
      | none => (pureA E (.convert s d x) (ev st)).map fun v => (v, st)))
  | .call { callee := .builtin .copy, args, argTypes } => (match args.toList, argTypes.toList with | [x, y], [t, ty] => copyA E t x y st | _, _ => none)
  | o => (pureA E o (ev st)).map fun v => (v, st)

def frzA (E : Env) (dst : Option Tmp) (v : A) : A :=
  match dst with
  | some d => if E.frz d then v.strip else v
  | none => v

def stepA (E : Env) (o : Oper) (st : St) : Option St :=
  match opA E o.dst o.op st with
  | some r => put E o.dst (frzA E o.dst r.1) r.2
  | none => none

def wantedA (ops : Array Oper) (o : Oper) (st : St) : Option Bool :=
  match o.guard with
  | none => some true
  | some (j, want) => match (ops[j]?).bind (·.dst) with
    | some t => (match st.σ t with | .bool b => some (b == want) | .undef () => some false | _ => none)
    | none => none

def useL : List Operand → St → List A × St
  | [], st => ([], st)
  | x :: xs, st => match use x st with
    | (v, st1) => match useL xs st1 with
      | (vs, st2) => (v :: vs, st2)

/-! calls -/
def CPost (fr : Fr) (Q : A → Heap → Prop) (e : Ending) (w : World) : Prop :=
  ∃ g r Hs, e = .returned (conc g.φ r) ∧ Rel fr g [r] Hs w ∧ Q r.er (Hs.map Ob.er)

/-- The function f, called with the values 'args' at the heap H, answers something of which Q holds. -/
def AC (P : Program) (f : FuncId) (args : List A) (H : Heap) (Q : A → Heap → Prop) : Prop :=
  ∀ fr g as Hs w, Rel fr g as Hs w → as.map er = args → Hs.map Ob.er = H →
    match (callFunc f (as.map (conc g.φ)).toArray).run P w with
    | .ok (.enter f' cs) w1 => Calls P f' cs w1 (CPost fr Q)
    | .ok (.value v) w1 => CPost fr Q (.returned v) w1
    | _ => False

/-- A round of the loop l, begun by a call of yield at the heap H, answers something of which Q holds. -/
def AY (P : Program) (l : Nat) (args : List A) (H : Heap) (Q : A → Heap → Prop) : Prop :=
  ∀ fr g as Hs w, Rel fr g as Hs w → as.map er = args → Hs.map Ob.er = H →
    match (Go.Instr.yield l (as.map (conc g.φ)).toArray).run P w with
    | .ok (.round l' f tmps assign body) w1 => RoundIn Fence.wide 0 P l' f tmps assign body w1 (CPost fr Q)
    | _ => False

def After (E : Env) (dst : Option Tmp) (K : St → Prop) (σ : Nat → A) (v : A) (H : Heap) : Prop :=
  match put E dst (frzA E dst v) ⟨σ, H⟩ with
  | some st => K st
  | none => False

def CallA (E : Env) (dst : Option Tmp) (f : Operand) (args : List Operand) (st : St) (K : St → Prop) : Prop :=
  match ev st f with
  | .fn (.func F) first cap =>
    if (first.all flagless && cap.all flagless) = true then
      AC E.P F (first ++ (useL args st).1 ++ cap) (useL args st).2.H (After E dst K (useL args st).2.σ)
    else False
  | .fn (.yield l) [] [] => AY E.P l (useL args st).1 (useL args st).2.H (After E dst K (useL args st).2.σ)
  | _ => False

/-- From the operations l on. -/
def awl (E : Env) (ops : Array Oper) : List Oper → (St → Prop) → St → Prop
  | [], Q, st => Q st
  | o :: l, Q, st =>
    match wantedA ops o st with
    | some true =>
      (match o.op with
       | .call { callee := .value f, args, argTypes := _ } => CallA E o.dst f args.toList st (fun st' => awl E ops l Q st')
       | _ => match stepA E o st with
         | some st' => awl E ops l Q st'
         | none => False)
    | some false => (match put E o.dst (.undef ()) st with | some st' => awl E ops l Q st' | none => False)
    | none => False
end Go.Ab
end
