/- Abstract values and rules for them, proved sound over the model. -/
import Derived.Test.YtbdhocfaebchfaaOpLAbWr
set_option linter.all false
set_option linter.unusedSimpArgs false
set_option linter.unusedVariables false
set_option linter.unnecessarySimpa false
section
/- Slots that bear a copy of a slice's head, or the address of an element, for one statement long. -/
namespace Go.Ab
open V
variable [Glob]
set_option linter.unusedSimpArgs false
set_option linter.unusedVariables false
set_option linter.unusedSectionVars false

/-- Where the slice itself is: in a slot, or in the cell to which a slot points. -/
inductive Ow | slot (s : Nat) | via (p : Nat)
inductive Al | hdr (t : Nat) (own : Ow) | el (t : Nat) (own : Ow) (es idx off : Nat)
def Ow.name : Ow → Nat | .slot s => s | .via p => p
def Al.names : Al → List Nat | .hdr t o => [t, o.name] | .el t o _ _ _ => [t, o.name]
def Ow.isVia : Ow → Bool | .slot _ => false | .via _ => true
def Al.isVia : Al → Bool | .hdr _ o => o.isVia | .el _ o _ _ _ => o.isVia
def hdrOf : List Al → Nat → Option Ow
  | [], _ => none
  | .hdr t o :: l, x => if t = x then some o else hdrOf l x
  | .el .. :: l, x => hdrOf l x
def elOf : List Al → Nat → Option (Ow × Nat × Nat × Nat)
  | [], _ => none
  | .el t o es i f :: l, x => if t = x then some (o, es, i, f) else elOf l x
  | .hdr .. :: l, x => elOf l x
/-- A slot that no name stands for. -/
def freeD (al : List Al) (d : Nat) : Bool := al.all fun x => !(x.names).contains d

def ownGet (st : St) : Ow → Option (List A × Nat)
  | .slot s => (match st.σ s with | .sl xs (some k) () => some (xs, k) | _ => none)
  | .via p => (match st.σ p with
    | .ptr (some q) => (match st.H[q.1]? with
      | some (.cells cs) => (match cs[q.2]? with | some (.sl xs (some k) ()) => some (xs, k) | _ => none)
      | _ => none)
    | _ => none)
def ownSet (st : St) (xs : List A) (k : Nat) : Ow → St
  | .slot s => { st with σ := upd st.σ s (.sl xs (some k) ()) }
  | .via p => (match st.σ p with
    | .ptr (some q) => (match st.H[q.1]? with
      | some (.cells cs) => { st with H := st.H.set q.1 (.cells (cs.set q.2 (.sl xs (some k) ()))) }
      | _ => st)
    | _ => st)
/-- May v lie in the array? -/
def ownLow (st : St) (v : A) : Ow → Bool
  | .slot _ => true
  | .via p => (match st.σ p with | .ptr (some q) => v.low q.1 | _ => false)
/-- An element with one part put. -/
def elPut (y : A) (off : Nat) (v : A) : A := match y with | .agg cs => .agg (putRange cs off v.cells) | _ => v
def isAgg : A → Bool | .agg _ => true | _ => false

def goodD (E : Env) (al : List Al) (d : Nat) : Bool := decide (d < E.n) && freeD al d
def setU (st : St) (d : Nat) (v : A) : St := { st with σ := upd st.σ d v }

/-- An operation on such a slot. -/
def aliasA (E : Env) (m : Tmp → Bool) (al : List Al) (o : Oper) (st : St) : Option (List Al × St) :=
  match o.op, o.dst with
  | .move (.tmp s), some d =>
    if m d = true ∧ goodD E al d = true ∧ s ≠ d then
      (match ownGet st (.slot s) with | some _ => some (.hdr d (.slot s) :: al, setU st d (.undef ())) | none => none) else none
  | .load t (.tmp p), some d =>
    if goodD E al d = true then
      (if m d = true then
        (if p ≠ d then (match dOf E.T t, ownGet st (.via p) with | .sl _, some _ => some (.hdr d (.via p) :: al, setU st d (.undef ())) | _, _ => none) else none)
      else (match elOf al p with
        | some (own, es, idx, off) => (match ownGet st own, E.T t with
          | some (xs, _), some u => (match xs[idx]? with
            | some x => (match partA u x.cells off with
              | some v => if v.flagless = true ∧ Uni es xs = true then some (al, setU st d v) else none
              | none => none)
            | none => none)
          | _, _ => none)
        | none => none)) else none
  | .call { callee := .builtin .len, args, argTypes }, some d =>
    (match args.toList, argTypes.toList with
     | [.tmp t], [ty] => (match hdrOf al t with
       | some own => (match ownGet st own, dOf E.T ty with
         | some (xs, _), .sl _ => if goodD E al d = true then some (al, setU st d (.int .i64 xs.length)) else none
         | _, _ => none)
       | none => none)
     | _, _ => none)
  | .indexAddr ty (.tmp t) i, some d =>
    (match hdrOf al t with
     | some own => (match ownGet st own, dOf E.T ty, ev st i with
       | some (xs, _), .sl e, .int _ n => (match E.T e with
         | some u => if goodD E al d = true ∧ own.name ≠ d ∧ Uni u.size xs = true ∧ 0 ≤ n ∧ n < xs.length then some (.el d own u.size n.toNat 0 :: al, setU st d (.undef ())) else none
         | none => none)
       | _, _, _ => none)
     | none => none)
  | .fieldAddr ty (.tmp t) f, some d =>
    (match elOf al t with
     | some (own, es, idx, off) => (match fieldOf E.T ty f with
       | some (o', _) => if goodD E al d = true ∧ own.name ≠ d then some (.el d own es idx (off + o') :: al, setU st d (.undef ())) else none
       | none => none)
     | none => none)
  | .store t (.tmp p) x, none =>
    (match elOf al p with
     | some (own, es, idx, off) => (match ownGet st own, E.T t with
       | some (xs, k), some u => (match xs[idx]? with
         | some y => if k ≤ idx ∧ (ev st x).flagless = true ∧ (ev st x).cells.length = u.size ∧ (ev st x).cells.all solid = true ∧ off + u.size ≤ y.cells.length ∧ (isAgg y = true ∨ (y.one = true ∧ (ev st x).one = true)) ∧ ownLow st (ev st x) own = true ∧ Uni es xs = true then
             some (al.filter (fun z => !z.isVia), ownSet st (xs.set idx (elPut y off (ev st x))) k own) else none
         | none => none)
       | _, _ => none)
     | none => none)
  | _, _ => none

/-- What leaves the memory as it is. -/
def pureM (E : Env) (o : Op) (st : St) : Option A :=
  match o with
  | .move x => okv (ev st x)
  | .assign x => okv (ev st x)
  | .load t x => quietA E (.load t x) (ev st) st.H
  | o => pureA E o (ev st)
def freeO (al : List Al) : Option Tmp → Bool | some d => freeD al d | none => true
/-- From the operations l on, where al stand for others. -/
def awx (E : Env) (m : Tmp → Bool) (ops : Array Oper) : List Oper → List Al → (St → Prop) → St → Prop
  | [], _, Q, st => Q st
  | o :: l, al, Q, st =>
    match wantedA ops o st with
    | some true => (match aliasA E m al o st with
      | some r => awx E m ops l r.1 Q r.2
      | none => if freeO al o.dst = true then
          (if al.all (fun z => !z.isVia) = true then awl E ops [o] (fun st' => awx E m ops l al Q st') st
           else (match pureM E o.op st, o.op with
             | _, .call { callee := .value _, args := _, argTypes := _ } => False
             | some v, _ => (match put E o.dst (frzA E o.dst v) st with | some st' => awx E m ops l al Q st' | none => False)
             | none, _ => False))
        else False)
    | some false => if freeO al o.dst = true then (match put E o.dst (.undef ()) st with | some st' => awx E m ops l al Q st' | none => False) else False
    | none => False

/-! what the names mean -/
def ownRaw (a : Act) (w : World) : Ow → Option Value
  | .slot s => a.tmps[s]?
  | .via p => (match a.tmps[p]? with | some (.pointer (some ad)) => w.cell? ad | _ => none)
def AlOk (a : Act) (w : World) : Al → Prop
  | .hdr t own => a.tmps[t]? = ownRaw a w own
  | .el t own es idx off => ∃ b o len cap, ownRaw a w own = some (.slice (some ⟨b, o, none⟩) len cap) ∧ a.tmps[t]? = some (.pointer (some ⟨b, o + (idx * es + off), none⟩))

theorem hdrOf_mem {al : List Al} {t : Nat} {own : Ow} (h : hdrOf al t = some own) : .hdr t own ∈ al := by
  induction al with
  | nil => simp [hdrOf] at h
  | cons x al ih =>
    cases x with
    | hdr t' o => simp only [hdrOf] at h; split at h; rename_i e; subst e; simp only [Option.some.injEq] at h; subst h; simp; exact List.mem_cons_of_mem _ (ih h)
    | el => exact List.mem_cons_of_mem _ (ih h)
theorem elOf_mem {al : List Al} {t : Nat} {own : Ow} {es i f : Nat} (h : elOf al t = some (own, es, i, f)) : .el t own es i f ∈ al := by
  induction al with
  | nil => simp [elOf] at h
  | cons x al ih =>
    cases x with
    | el t' o => simp only [elOf] at h; split at h; rename_i e; subst e; simp only [Option.some.injEq, Prod.mk.injEq] at h; obtain ⟨rfl, rfl, rfl, rfl⟩ := h; simp; exact List.mem_cons_of_mem _ (ih h)
    | hdr => exact List.mem_cons_of_mem _ (ih h)

theorem put_tmps {a : Act} {d : Nat} {v : Value} {t : Nat} (h : t ≠ d) : (a.put (some d) v).tmps[t]? = a.tmps[t]? := by
  simp only [Act.put]
  rw [Array.getElem?_setIfInBounds, if_neg (fun e => h e.symm)]
theorem put_same {a : Act} {d : Nat} {v : Value} (h : d < a.tmps.size) : (a.put (some d) v).tmps[d]? = some v := by
  simp only [Act.put]
  rw [Array.getElem?_setIfInBounds, if_pos rfl, if_pos h]

theorem ownRaw_put {a : Act} {w : World} {d : Nat} {v : Value} {own : Ow} (h : own.name ≠ d) : ownRaw (a.put (some d) v) w own = ownRaw a w own := by
  cases own with
  | slot s => exact put_tmps h
  | via p => simp only [ownRaw]; rw [put_tmps (t := p) h]
theorem AlOk.put {a : Act} {w : World} {dst : Option Tmp} {v : Value} {x : Al} (h : AlOk a w x) (hf : (match dst with | some d => !(x.names).contains d | none => true) = true) : AlOk (a.put dst v) w x := by
  cases dst with
  | none => exact h
  | some d =>
    cases x with
    | hdr t own =>
      simp [Al.names] at hf
      simp only [AlOk] at h ⊢
      rw [put_tmps (fun e => hf.1 e.symm), ownRaw_put (fun e => hf.2 e.symm)]
      exact h
    | el t own es i f =>
      simp [Al.names] at hf
      simp only [AlOk] at h ⊢
      rw [put_tmps (fun e => hf.1 e.symm), ownRaw_put (fun e => hf.2 e.symm)]
      exact h
/-- A name that does not go by the heap stays. -/
theorem AlOk.tmps {a a' : Act} {w w' : World} {x : Al} (h : AlOk a w x) (hv : x.isVia = false) (ht : ∀ t ∈ x.names, a'.tmps[t]? = a.tmps[t]?) : AlOk a' w' x := by
  cases x with
  | hdr t own =>
    cases own with
    | slot s => simp only [AlOk, ownRaw] at h ⊢; rw [ht t (by simp [Al.names]), ht s (by simp [Al.names, Ow.name])]; exact h
    | via p => simp [Al.isVia, Ow.isVia] at hv
  | el t own es i f =>
    cases own with
    | slot s => simp only [AlOk, ownRaw] at h ⊢; rw [ht t (by simp [Al.names]), ht s (by simp [Al.names, Ow.name])]; exact h
    | via p => simp [Al.isVia, Ow.isVia] at hv

/-- What an operation leaves in the slots: all but its own. -/
theorem wp_frame {P : Program} {F : Fence} {o : Oper} {a : Act} {w : World} {next : Act → World → Prop} {Q : Exit → Act → World → Prop} (h : o.wpIn F 0 P a w next Q) :
    o.wpIn F 0 P a w (fun a1 w1 => next a1 w1 ∧ ∃ v, a1.tmps = (a.put o.dst v).tmps) Q := by
  unfold Oper.wpIn at h ⊢
  refine ⟨h.1, ?_⟩
  have h := h.2
  unfold Oper.uponIn at h ⊢
  split at h
  · exact ⟨h, _, rfl⟩
  · exact ⟨h, _, rfl⟩
  · refine ⟨h, undef, ?_⟩
    cases o.dst <;> rfl
  · rename_i f args w' hr
    refine ⟨h.1, CallsIn.mono h.2 ?_⟩
    rintro e w'' hq
    cases e with
    | returned v => exact ⟨hq, v, rfl⟩
    | panicked c => exact hq
    | outgrown => exact hq
  · exact ⟨h.1, RowsIn.mono h.2 fun v w'' hq => ⟨hq, v, rfl⟩⟩
  · refine ⟨h.1, RoundIn.mono h.2 ?_⟩
    rintro e w'' hq
    cases e with
    | returned v => exact ⟨hq, v, rfl⟩
    | panicked c => exact hq
    | outgrown => exact hq
  · exact h
  · exact h.elim
end Go.Ab
end
