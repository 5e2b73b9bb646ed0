/- Abstract values and rules for them, proved sound over the model. -/
import Derived.Test.YtbdhocfaebchfaaOpLAbRel
set_option linter.all false
set_option linter.unusedSimpArgs false
set_option linter.unusedVariables false
set_option linter.unnecessarySimpa false
section
/- What an operation does to an abstract state. -/
namespace Go.Ab
open V
variable [Glob]

abbrev A := V Unit
abbrev Heap := List (Ob Unit)

inductive TyD where
  | int (k : IntKind) | bool | str
  | ptr (e : TypeId) | sl (e : TypeId) | st (fs : List (Nat × TypeId)) | arr (n : Nat) (e : TypeId) | map (k e : TypeId)
  | fn | iface (methods : Bool) | other

structure Ty where
  d : TyD
  size : Nat
  bytes : Nat
  zero : A
  plain : Bool := false

/-- Is a value of that type an aggregate? -/
def TyD.agg : TyD → Bool
  | .st _ | .arr _ _ => true
  | _ => false

def plainOf (T : TypeId → Option Ty) (t : TypeId) : Bool := match T t with | some u => u.plain | none => false

def dOf (T : TypeId → Option Ty) (t : TypeId) : TyD := match T t with | some u => u.d | none => .other

/-- How an operation takes what it reads: a copy that may do nothing more; the value itself, whose place is empty then. -/
inductive Mode where
  | copy | take

structure Env where
  P : Program
  T : TypeId → Option Ty
  mode : Tmp → Mode := fun _ => .copy
  frz : Tmp → Bool := fun _ => false
  rnd : Bool := false
  n : Nat

structure St where
  σ : Nat → A
  H : Heap

def upd (σ : Nat → A) (t : Nat) (v : A) (i : Nat) : A := if i = t then v else σ i

def lv (v : A) : A := leave (fun _ => ()) v

def ofConst1 : Value → Option A
  | .bool b => some (.bool b)
  | .int k n => some (.int k n)
  | .string s => some (.str s)
  | .pointer none => some (.ptr none)
  | .slice none 0 0 => some (.sl [] (some 0) ())
  | .map none => some (.mp none)
  | .nilFunc => some .nilFn
  | .nilIface => some .nilIface
  | _ => none
def ofConst : Value → Option A
  | .agg cs => (cs.toList.mapM ofConst1).map .agg
  | v => ofConst1 v

/-- What an operand is, looked at. -/
def ev (st : St) : Operand → A
  | .tmp t => st.σ t
  | .const v => (ofConst v).getD (.undef ())
  | .func f => .fn (.func f) [] []
  | .global g => (match Glob.tab g with | some cs => .rd cs () | none => .undef ())

def put (E : Env) (dst : Option Tmp) (v : A) (st : St) : Option St :=
  match dst with
  | none => some st
  | some d => if d < E.n then some { st with σ := upd st.σ d v } else none

/-- The value of an operand is used up. -/
def use (x : Operand) (st : St) : A × St :=
  match x with
  | .tmp t => if (st.σ t).flagless then (st.σ t, st) else (st.σ t, { st with σ := upd st.σ t (lv (st.σ t)) })
  | x => (ev st x, st)

def copyOf (x : Operand) (st : St) : A × St :=
  match x with
  | .tmp t => if (st.σ t).flagless then (st.σ t, st) else ((st.σ t).strip, { st with σ := upd st.σ t (st.σ t).share })
  | x => (ev st x, st)

def okv (v : A) : Option A := if v.flagless then some v else none

/-! operations that only compute -/
def pickA (b : Bool) (x y : A) : A :=
  match x, y with
  | .bool p, .bool q => .bool (bif b then p else q)
  | x, y => bif b then x else y

def cmpI (op : BinOp) (a b : Int) : Option Bool :=
  match op with
  | .eql => some (decide (a = b))
  | .neq => some (!decide (a = b))
  | .lss => some (decide (a < b))
  | .leq => some (decide (a ≤ b))
  | .gtr => some (decide (a > b))
  | .geq => some (decide (a ≥ b))
  | _ => none

def bitsI (op : BinOp) (k : IntKind) (x y : Int) : Int :=
  let a := BitVec.ofInt k.bits x
  let b := BitVec.ofInt k.bits y
  match op with
  | .and => k.wrap (a &&& b).toNat
  | .or => k.wrap (a ||| b).toNat
  | .xor => k.wrap (a ^^^ b).toNat
  | _ => k.wrap (a &&& ~~~b).toNat

def intOp (op : BinOp) (k : IntKind) (a b : Int) : Option A :=
  match op with
  | .add => some (.int k (k.wrap (a + b)))
  | .sub => some (.int k (k.wrap (a - b)))
  | .mul => some (.int k (k.wrap (a * b)))
  | .quo => if b = 0 then none else some (.int k (k.wrap (a.tdiv b)))
  | .rem => if b = 0 then none else some (.int k (a.tmod b))
  | .and | .or | .xor | .andNot => some (.int k (bitsI op k a b))
  | .shl | .shr => none
  | op => (cmpI op a b).map .bool

def shiftI (op : BinOp) (k : IntKind) (a b : Int) : Option A :=
  if b < 0 then none else
  match op with
  | .shl => some (.int k (k.wrap (a * 2 ^ min b.toNat k.bits)))
  | .shr => some (.int k (a.fdiv (2 ^ min b.toNat k.bits)))
  | _ => none

def strOp (op : BinOp) (a b : ByteArray) : Option A :=
  match op with
  | .add => if ((a.size + b.size : Nat) : Int) > IntKind.i64.max then none else some (.str (a ++ b))
  | .eql => some (.bool (decide (a = b)))
  | .neq => some (.bool (!decide (a = b)))
  | .lss => some (.bool (Go.Op.bytesLess a.toList b.toList))
  | .gtr => some (.bool (!(Go.Op.bytesLess a.toList b.toList || a.toList == b.toList)))
  | .geq => some (.bool (!Go.Op.bytesLess a.toList b.toList))
  | .leq => some (.bool (Go.Op.bytesLess a.toList b.toList || a.toList == b.toList))
  | _ => none

/-- Are two leaves alike? (none: not to be told so.) -/
def eqLeaf : A → A → Option Bool
  | .int k a, .int k' b => if k = k' then some (decide (a = b)) else none
  | .bool a, .bool b => some (a == b)
  | .str a, .str b => some (decide (a = b))
  | .ptr none, .ptr none => some true
  | .ptr (some _), .ptr none | .ptr none, .ptr (some _) => some false
  | .nilFn, .nilFn => some true
  | .nilFn, .fn .. | .fn .., .nilFn => some false
  | .mp none, .mp none => some true
  | .mp (some _), .mp none | .mp none, .mp (some _) => some false
  | _, _ => none

/-- By type: what '==' says. -/
def eqA (T : TypeId → Option Ty) : Nat → TypeId → A → A → Option Bool
  | 0, _, _, _ => none
  | n + 1, t, x, y =>
    match dOf T t, x, y with
    | .st fs, .agg xs, .agg ys => if plainOf T t = true then fs.foldr (fun f acc =>
        match T f.2 with
        | some u =>
          (match (if u.d.agg then eqA T n f.2 (.agg ((xs.drop f.1).take u.size)) (.agg ((ys.drop f.1).take u.size)) else
              match xs[f.1]?, ys[f.1]? with | some a, some b => eqA T n f.2 a b | _, _ => none), acc with
           | some a, some b => some (a && b)
           | _, _ => none)
        | none => none) (some true) else none
    | .int k, .int k' a, .int k'' b => if k' = k ∧ k'' = k then some (decide (a = b)) else none
    | .bool, .bool a, .bool b => some (a == b)
    | .str, .str a, .str b => some (decide (a = b))
    | .ptr _, .ptr none, .ptr q => some q.isNone
    | .ptr _, .ptr (some _), .ptr none => some false
    | .map _ _, .mp none, .mp q => some q.isNone
    | .map _ _, .mp (some _), .mp none => some false
    | .fn, .nilFn, .nilFn => some true
    | .fn, .nilFn, .fn .. => some false
    | .fn, .fn .., .nilFn => some false
    | _, _, _ => none

def eqRes (op : BinOp) (q : Option Bool) : Option A :=
  match op with
  | .eql => q.map .bool
  | .neq => q.map fun b => .bool (!b)
  | _ => none

def binA (T : TypeId → Option Ty) (op : BinOp) (t : TypeId) (x y : A) : Option A :=
  match x, y with
  | .int k a, .int k' b =>
    (match op with
     | .shl | .shr => shiftI op k a b
     | op => if k = k' then intOp op k a b else none)
  | .str a, .str b => strOp op a b
  | x, y => eqRes op (eqA T 3 t x y)

def unA (op : UnOp) (x : A) : Option A :=
  match op, x with
  | .not, .bool b => some (.bool !b)
  | .neg, .int k n => some (.int k (k.wrap (0 - n)))
  | .xor, .int k n => some (.int k (bitsI .xor k (if k.signed then -1 else k.max) n))
  | _, _ => none

def byteOfA : A → Option UInt8
  | .int .u8 n => some (UInt8.ofNat n.toNat)
  | _ => none

def convA (T : TypeId → Option Ty) (s d : TypeId) (x : A) : Option A :=
  match dOf T d, x with
  | .int k, .int _ n => if (T s).isSome then some (.int k (k.wrap n)) else none
  | .str, .str b => if (T s).isSome then some (.str b) else none
  | .str, .sl xs _ () =>
    (match dOf T s with
     | .sl e => (match dOf T e with
       | .int .u8 => (xs.mapM byteOfA).map fun l => .str ⟨l.toArray⟩
       | _ => none)
     | _ => none)
  | _, _ => none

def byteA (b : UInt8) : A := .int .u8 b.toNat

/-- '[]byte(s)': an array of one's own. -/
def toBytesA (T : TypeId → Option Ty) (s d : TypeId) (x : A) : Option A :=
  match dOf T d, x with
  | .sl e, .str b =>
    (match dOf T s, dOf T e with
     | .str, .int .u8 => some (.sl (b.data.toList.map byteA) (if b.size = 0 then none else some 0) ())
     | _, _ => none)
  | _, _ => none
theorem toBytesA_none {T : TypeId → Option Ty} {s d : TypeId} {x v : A} (h : convA T s d x = some v) : toBytesA T s d x = none := by
  unfold convA at h
  unfold toBytesA
  cases hd : dOf T d <;> rw [hd] at h <;> cases x <;> simp_all

/-- 'string(b)' of a window. -/
def winStrA (T : TypeId → Option Ty) (s d : TypeId) (x : A) (H : Heap) : Option A :=
  match dOf T d, x with
  | .str, .win p n () =>
    (match dOf T s, H[p.1]? with
     | .sl e, some (.cells cs) => (match dOf T e with
       | .int .u8 => if p.2 + n ≤ cs.length then (((cs.drop p.2).take n).mapM byteOfA).map fun l => .str ⟨l.toArray⟩ else none
       | _ => none)
     | _, _ => none)
  | _, _ => none
theorem winStrA_bytes {T : TypeId → Option Ty} {s d : TypeId} {x v : A} {H : Heap} (h : winStrA T s d x H = some v) : toBytesA T s d x = none := by
  unfold winStrA at h
  unfold toBytesA
  split at h
  · rename_i hd; rw [hd]
  · cases h
theorem winStrA_none {T : TypeId → Option Ty} {s d : TypeId} {x v : A} {H : Heap} (h : convA T s d x = some v) : winStrA T s d x H = none := by
  unfold convA at h
  unfold winStrA
  cases hd : dOf T d <;> rw [hd] at h <;> cases x <;> simp_all

def fieldOf (T : TypeId → Option Ty) (s : TypeId) (f : Nat) : Option (Nat × Ty) :=
  match dOf T s with
  | .st fs => (match fs[f]? with
    | some p => (match T p.2 with | some u => if u.size = 0 then none else some (p.1, u) | none => none)
    | none => none)
  | _ => none

def fieldAddrA (T : TypeId → Option Ty) (s : TypeId) (f : Nat) (x : A) : Option A :=
  match fieldOf T s f, x with
  | some (o, _), .ptr (some p) => some (.ptr (some (p.1, p.2 + o)))
  | some (o, _), .rd cs () => if o < cs.length then some (.rd (cs.drop o) ()) else none
  | _, _ => none

def partA (u : Ty) (cs : List A) (o : Nat) : Option A :=
  if u.d.agg then (if o + u.size ≤ cs.length then some (.agg ((cs.drop o).take u.size)) else none)
  else cs[o]?

def fieldA (T : TypeId → Option Ty) (s : TypeId) (f : Nat) (x : A) : Option A :=
  match fieldOf T s f, x with
  | some (o, u), .agg cs => partA u cs o
  | _, _ => none

def indexAddrA (T : TypeId → Option Ty) (t : TypeId) (x i : A) : Option A :=
  match dOf T t, x, i with
  | .sl e, .sl xs own (), .int _ n =>
    (match T e with
     | some u => if own.isNone ∧ Uni u.size xs = true then
         (if 0 ≤ n ∧ n < xs.length then some (.rd ((xs.getD n.toNat (.undef ())).cells) ()) else none) else none
     | none => none)
  | .arr m e, .ptr (some p), .int _ n =>
    (match T e with
     | some u => if 0 ≤ n ∧ n < m then some (.ptr (some (p.1, p.2 + n.toNat * u.size))) else none
     | none => none)
  | .arr m e, .rd cs (), .int _ n =>
    (match T e with
     | some u => if 0 ≤ n ∧ n < m then (if n.toNat * u.size ≤ cs.length then some (.rd (cs.drop (n.toNat * u.size)) ()) else none) else none
     | none => none)
  | .sl e, .win p m (), .int _ n =>
    (match T e with
     | some u => if 0 ≤ n ∧ n < m then some (.ptr (some (p.1, p.2 + n.toNat * u.size))) else none
     | none => none)
  | _, _, _ => none

def indexA (T : TypeId → Option Ty) (t : TypeId) (x i : A) : Option A :=
  match dOf T t, x, i with
  | .str, .str s, .int _ n => if 0 ≤ n ∧ n < s.size then some (.int .u8 ((s.data.toList.getD n.toNat 0).toNat : Int)) else none
  | .arr m e, .agg cs, .int _ n =>
    (match T e with
     | some u => if 0 ≤ n ∧ n < m then partA u cs (n.toNat * u.size) else none
     | none => none)
  | _, _, _ => none

def boundA (x : Option A) (d : Nat) : Option Nat :=
  match x with
  | none => some d
  | some (.int _ n) => if 0 ≤ n then some n.toNat else none
  | _ => none

def maxOk (h len : Nat) : Option A → Bool
  | none => true
  | some (.int _ m) => decide ((h : Int) ≤ m) && decide (m ≤ len)
  | some _ => false

def sliceA (T : TypeId → Option Ty) (t : TypeId) (x : A) (lo hi mx : Option A) : Option A :=
  match dOf T t, x with
  | .str, .str s =>
    (match mx, boundA lo 0, boundA hi s.size with
     | none, some l, some h => if l ≤ h ∧ h ≤ s.size then some (.str (s.extract l h)) else none
     | _, _, _ => none)
  | .sl e, .sl xs own () =>
    (match T e, boundA lo 0, boundA hi xs.length, mx with
     | some u, some l, some h, mx =>
       if own.isNone ∧ Uni u.size xs = true ∧ l ≤ h ∧ h ≤ xs.length ∧ maxOk h xs.length mx = true ∧ (mx.isNone || hi.isSome) = true then some (.sl ((xs.take h).drop l) none ()) else none
     | _, _, _, _ => none)
  | .sl e, .win p n () =>
    (match T e, boundA lo 0, boundA hi n, mx with
     | some u, some l, some h, none => if l < h ∧ h ≤ n then some (.win (p.1, p.2 + l * u.size) (h - l) ()) else (if l = h ∧ h ≤ n then some (.sl [] none ()) else none)
     | _, _, _, _ => none)
  | _, _ => none

def lenA (T : TypeId → Option Ty) (t : TypeId) (x : A) : Option A :=
  match dOf T t, x with
  | .str, .str s => some (.int .i64 s.size)
  | .sl _, .sl xs _ () => some (.int .i64 xs.length)
  | .sl _, .win _ n () => some (.int .i64 n)
  | .arr n _, _ => some (.int .i64 n)
  | _, _ => none

def mm2 (mx : Bool) : A → A → Option A
  | .int k a, .int k' b => if k = k' then some (.int k (bif mx then max a b else min a b)) else none
  | _, _ => none

def mmL (mx : Bool) : A → List A → Option A
  | x, [] => some x
  | x, y :: l => match mm2 mx x y with
    | some z => mmL mx z l
    | none => none

def minmaxA (mx : Bool) : List A → Option A
  | .int k a :: l => mmL mx (.int k a) l
  | _ => none

/-- An operation that only computes. -/
def pureA (E : Env) (o : Op) (e : Operand → A) : Option A :=
  match o with
  | .pick c x y => (match e c with | .bool b => okv (pickA b (e x) (e y)) | _ => none)
  | .nilCheck x => (match e x with
    | .ptr (some p) => some (.ptr (some p))
    | .rd cs () => okv (.rd cs ())
    | .fn (.func f) a b => okv (.fn (.func f) a b)
    | _ => none)
  | .binOp op t x y _ => binA E.T op t (e x) (e y)
  | .unOp op _ x => unA op (e x)
  | .convert s d x => convA E.T s d (e x)
  | .fieldAddr s x f => (fieldAddrA E.T s f (e x)).bind okv
  | .field s x f => (fieldA E.T s f (e x)).bind okv
  | .indexAddr t x i => (indexAddrA E.T t (e x) (e i)).bind okv
  | .index t x i => (indexA E.T t (e x) (e i)).bind okv
  | .slice t x lo hi mx => (sliceA E.T t (e x) (lo.map e) (hi.map e) (mx.map e)).bind okv
  | .makeInterface t x => (match dOf E.T t with | .iface _ | .other => none | _ => okv (.iface t (e x)))
  | .makeFunc f a b => okv (.fn f (a.toList.map e) (b.toList.map e))
  | .extract x i => (match e x with | .tup vs => (vs[i]?).bind okv | _ => none)
  | .call { callee := .builtin .len, args, argTypes } => (match args.toList, argTypes.toList with | [x], [t] => lenA E.T t (e x) | _, _ => none)
  | .call { callee := .builtin .min, args, argTypes := _ } => minmaxA false (args.toList.map e)
  | .call { callee := .builtin .max, args, argTypes := _ } => minmaxA true (args.toList.map e)
  | _ => none
end Go.Ab
end
