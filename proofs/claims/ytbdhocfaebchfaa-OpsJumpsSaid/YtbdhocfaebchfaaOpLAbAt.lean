/- Abstract values and rules for them, proved sound over the model. -/
import Derived.Test.YtbdhocfaebchfaaOpLAbRun
set_option linter.all false
set_option linter.unusedSimpArgs false
set_option linter.unusedVariables false
set_option linter.unnecessarySimpa false
section
/- An abstract state stands for an activation. -/
namespace Go.Ab
open V
variable [Glob]
set_option linter.unusedSimpArgs false

/-! what types are -/
def tyOf : Option TypeDesc → TyD
  | some (.int k) => .int k
  | some .bool => .bool
  | some .string => .str
  | some (.pointer e) => .ptr e
  | some (.slice e) => .sl e
  | some (.struct fs) => .st (fs.toList.map fun f => (f.offset, f.type))
  | some (.array n e) => .arr n e
  | some (.map k e) => .map k e
  | some (.func ..) => .fn
  | some (.interface ms) => .iface (!ms.isEmpty)
  | _ => .other

structure TyOk (P : Program) (t : TypeId) (y : Ty) : Prop where
  info : ∃ i, P.info? t = some i ∧ i.size = y.size ∧ i.bytes = y.bytes ∧ i.zero.bind ofConst = some y.zero
  desc : tyOf (P.underlying t) = y.d
  und : (P.underlying t).isSome = true
  leaf : y.d.agg = false → y.size = 1
  plain : y.plain = true → P.eqGuardType P.depth t = false ∧ P.stoodInHeld t = false ∧
    ∀ fs, P.underlying t = some (.struct fs) → ∀ f ∈ fs, f.name ≠ "_"

def Env.Ok (E : Env) : Prop := ∀ t y, E.T t = some y → TyOk E.P t y

theorem dOf_int {T : TypeId → Option Ty} {t : TypeId} {d : TyD} (h : dOf T t = d) (hd : d ≠ .other) : ∃ y, T t = some y ∧ y.d = d := by
  unfold dOf at h
  cases hT : T t with
  | none => rw [hT] at h; exact absurd h.symm hd
  | some y => rw [hT] at h; exact ⟨y, rfl, h⟩

section
variable {E : Env} (hE : E.Ok) {t : TypeId}
include hE
theorem und_int {k : IntKind} (h : dOf E.T t = .int k) : E.P.underlying t = some (.int k) := by
  obtain ⟨y, hy, hd⟩ := dOf_int h (by simp)
  have := (hE t y hy).desc; rw [hd] at this
  unfold tyOf at this; split at this <;> simp_all
theorem und_bool (h : dOf E.T t = .bool) : E.P.underlying t = some .bool := by
  obtain ⟨y, hy, hd⟩ := dOf_int h (by simp)
  have := (hE t y hy).desc; rw [hd] at this
  unfold tyOf at this; split at this <;> simp_all
theorem und_str (h : dOf E.T t = .str) : E.P.underlying t = some .string := by
  obtain ⟨y, hy, hd⟩ := dOf_int h (by simp)
  have := (hE t y hy).desc; rw [hd] at this
  unfold tyOf at this; split at this <;> simp_all
theorem und_ptr {e : TypeId} (h : dOf E.T t = .ptr e) : E.P.underlying t = some (.pointer e) := by
  obtain ⟨y, hy, hd⟩ := dOf_int h (by simp)
  have := (hE t y hy).desc; rw [hd] at this
  unfold tyOf at this; split at this <;> simp_all
theorem und_sl {e : TypeId} (h : dOf E.T t = .sl e) : E.P.underlying t = some (.slice e) := by
  obtain ⟨y, hy, hd⟩ := dOf_int h (by simp)
  have := (hE t y hy).desc; rw [hd] at this
  unfold tyOf at this; split at this <;> simp_all
theorem und_st {fs : List (Nat × TypeId)} (h : dOf E.T t = .st fs) : ∃ gs, E.P.underlying t = some (.struct gs) ∧ fs = gs.toList.map fun f => (f.offset, f.type) := by
  obtain ⟨y, hy, hd⟩ := dOf_int h (by simp)
  have := (hE t y hy).desc; rw [hd] at this
  unfold tyOf at this; split at this <;> simp_all
theorem und_arr {n : Nat} {e : TypeId} (h : dOf E.T t = .arr n e) : E.P.underlying t = some (.array n e) := by
  obtain ⟨y, hy, hd⟩ := dOf_int h (by simp)
  have := (hE t y hy).desc; rw [hd] at this
  unfold tyOf at this; split at this <;> simp_all
theorem und_map {k e : TypeId} (h : dOf E.T t = .map k e) : E.P.underlying t = some (.map k e) := by
  obtain ⟨y, hy, hd⟩ := dOf_int h (by simp)
  have := (hE t y hy).desc; rw [hd] at this
  unfold tyOf at this; split at this <;> simp_all
theorem und_fn (h : dOf E.T t = .fn) : ∃ a b c, E.P.underlying t = some (.func a b c) := by
  obtain ⟨y, hy, hd⟩ := dOf_int h (by simp)
  have := (hE t y hy).desc; rw [hd] at this
  unfold tyOf at this; split at this <;> simp_all
theorem und_not_iface (h : ∀ b, dOf E.T t ≠ .iface b) (h' : dOf E.T t ≠ .other) : ∃ d, E.P.underlying t = some d ∧ ∀ ms, d ≠ .interface ms := by
  obtain ⟨y, hy, hd⟩ := dOf_int rfl h'
  have := (hE t y hy).desc; rw [hd] at this
  cases hu : E.P.underlying t with
  | none => rw [hu] at this; exact absurd this.symm h'
  | some d =>
    refine ⟨d, rfl, ?_⟩
    rintro ms rfl
    rw [hu] at this
    exact h _ this.symm
end

theorem run_underlying {P : Program} {t : TypeId} {d : TypeDesc} (h : P.underlying t = some d) (w : World) : (underlying t).run P w = .ok d w := by
  simp [underlying, program, h, Sem.run, Bind.bind, Sem.bind, Pure.pure]
theorem run_sizeOf {E : Env} (hE : E.Ok) {t : TypeId} {y : Ty} (h : E.T t = some y) (w : World) : (sizeOf t).run E.P w = .ok y.size w := by
  obtain ⟨i, hi, hs, _⟩ := (hE t y h).info
  simp [sizeOf, typeInfo, program, hi, Sem.run, Bind.bind, Sem.bind, Pure.pure, hs]
theorem run_bind {α β : Type} {P : Program} {e : Sem α} {f : α → Sem β} {w w' : World} {x : α} (h : e.run P w = .ok x w') : (e >>= f).run P w = (f x).run P w' := by
  show (Sem.bind e f).run P w = _
  induction e generalizing w with
  | pure a => simp only [Sem.run, Result.ok.injEq] at h; obtain ⟨rfl, rfl⟩ := h; rfl
  | load m a k ih =>
    simp only [Sem.run, Sem.bind] at h ⊢
    split at h
    · exact ih _ h
    · split at h
      · exact ih _ h
      · simp at h
  | store m a v k ih =>
    cases v with
    | agg cs => simp [Sem.run] at h
    | tuple cs => simp [Sem.run] at h
    | _ =>
      simp only [Sem.run, Sem.bind] at h ⊢
      split at h
      · split at h
        · simp at h
        · rename_i hfz; rw [if_neg hfz]; exact ih h
      · split at h
        · exact ih h
        · simp at h
  | new o k ih => simp only [Sem.run, Sem.bind] at h ⊢; exact ih _ h
  | shape r k ih => simp only [Sem.run, Sem.bind] at h ⊢; exact ih _ h
  | freeze a n k ih => simp only [Sem.run, Sem.bind] at h ⊢; exact ih h
  | frozen a k ih => simp only [Sem.run, Sem.bind] at h ⊢; exact ih _ h
  | getObj r k ih => simp only [Sem.run, Sem.bind] at h ⊢; split at h <;> first | simp at h; done | exact ih _ h
  | setObj r o k ih => simp only [Sem.run, Sem.bind] at h ⊢; split at h <;> first | simp at h; done | exact ih h
  | choose q k ih =>
    simp only [Sem.run, Sem.bind] at h ⊢
    split at h
    · rename_i hq; rw [if_pos hq]; exact ih _ h
    · rename_i hq; rw [if_neg hq]; exact ih _ h
  | sys c k ih => simp only [Sem.run, Sem.bind] at h ⊢; exact ih _ h
  | program k ih => simp only [Sem.run, Sem.bind] at h ⊢; exact ih _ h
  | mark m k ih => simp only [Sem.run, Sem.bind] at h ⊢; exact ih h
  | halt hh => simp [Sem.run] at h

/-! constants -/
mutual
def lift : A → V D
  | .sl xs own _ => .sl (liftL xs) own { es := 1 }
  | .rd cs _ => .rd (liftL cs) {}
  | .fn f a b => .fn f (liftL a) (liftL b)
  | .iface t v => .iface t (lift v)
  | .agg cs => .agg (liftL cs)
  | .tup vs => .tup (liftL vs)
  | .bool b => .bool b | .int k n => .int k n | .str s => .str s | .ptr p => .ptr p | .mp p => .mp p | .win p n _ => .win p n { cap := n } | .nilFn => .nilFn | .nilIface => .nilIface | .undef _ => .undef {}
def liftL : List A → List (V D)
  | [] => []
  | v :: vs => lift v :: liftL vs
end
theorem liftL_map (l : List A) : liftL l = l.map lift := by induction l <;> simp_all [liftL]
theorem map_id_mem {α : Type} {l : List α} {f : α → α} (h : ∀ x ∈ l, f x = x) : l.map f = l := by
  induction l <;> simp_all
theorem lift_er (v : A) : (lift v).er = v := by
  induction v using V.ind with
  | hsl xs own d h => simp only [lift, er, erL_map, liftL_map, List.map_map, Function.comp_def]; rw [map_id_mem h]
  | hrd xs d h => simp only [lift, er, erL_map, liftL_map, List.map_map, Function.comp_def]; rw [map_id_mem h]
  | hfn f a b ha hb => simp only [lift, er, erL_map, liftL_map, List.map_map, Function.comp_def]; rw [map_id_mem ha, map_id_mem hb]
  | hif t v h => simp [lift, er, h]
  | hagg xs h => simp only [lift, er, erL_map, liftL_map, List.map_map, Function.comp_def]; rw [map_id_mem h]
  | htup xs h => simp only [lift, er, erL_map, liftL_map, List.map_map, Function.comp_def]; rw [map_id_mem h]
  | _ => simp [lift, er]

/-- What is known of a constant's tree. -/
structure Still (v : V D) (x : Value) : Prop where
  conc : ∀ f, conc f v = x
  mem : ∀ g w, Mem g w v
  low : ∀ n, v.low n = true
  fl : v.fl = []

theorem ofConst1_lift {x : Value} {a : A} (h : ofConst1 x = some a) : Still (lift a) x := by
  unfold ofConst1 at h
  split at h <;> simp only [Option.some.injEq, reduceCtorEq] at h
  all_goals
    subst h
    refine ⟨fun f => ?_, fun g w => ?_, fun n => ?_, ?_⟩
    all_goals first | rfl | simp [lift, Mem, MemL, liftL, SlOk, Uni]
theorem ofConst1_one {x : Value} {a : A} (h : ofConst1 x = some a) : a.one = true := by
  unfold ofConst1 at h
  split at h <;> simp only [Option.some.injEq, reduceCtorEq] at h <;> subst h <;> rfl
theorem ofConstL_lift : ∀ (l : List Value) (as : List A), l.mapM ofConst1 = some as → (∀ f, (as.map lift).map (V.conc f) = l) ∧ ∀ v ∈ as, ∃ x, Still (lift v) x := by
  intro l
  induction l with
  | nil => intro as h; simp at h; subst h; simp
  | cons x l ih =>
    intro as h
    simp only [List.mapM_cons, Option.bind_eq_bind, Option.bind_eq_some_iff, Option.pure_def, Option.some.injEq] at h
    obtain ⟨a, ha, bs, hb, rfl⟩ := h
    have h1 := ofConst1_lift ha
    have h2 := ih bs hb
    refine ⟨fun f => by simp only [List.map_cons, h1.conc, h2.1], fun v hv => ?_⟩
    rcases List.mem_cons.1 hv with rfl | hv
    · exact ⟨_, h1⟩
    · exact h2.2 v hv
theorem ofConst_lift {x : Value} {a : A} (h : ofConst x = some a) : Still (lift a) x := by
  unfold ofConst at h
  split at h
  · rename_i cs
    obtain ⟨as, has, rfl⟩ := Option.map_eq_some_iff.1 h
    obtain ⟨h1, h2⟩ := ofConstL_lift _ _ has
    refine ⟨fun f => ?_, fun g w => ?_, fun n => ?_, ?_⟩
    · simp only [lift, V.conc, concL_map, liftL_map, h1]
    · simp only [lift, Mem, MemL_all, liftL_map, List.mem_map]
      rintro _ ⟨v, hv, rfl⟩; obtain ⟨x, hx⟩ := h2 v hv; exact hx.mem g w
    · simp only [lift, V.low, lowL_all, liftL_map, List.all_eq_true, List.mem_map]
      rintro _ ⟨v, hv, rfl⟩; obtain ⟨x, hx⟩ := h2 v hv; exact hx.low n
    · simp only [lift, V.fl, flL_flatMap, liftL_map, List.flatMap_eq_nil_iff, List.mem_map]
      rintro _ ⟨v, hv, rfl⟩; obtain ⟨x, hx⟩ := h2 v hv; exact hx.fl
  · exact ofConst1_lift h

/-! the relation of an abstract state to an activation -/
def ud : V D := .undef {}

/-- What a loop over a function leaves among an activation's deferred calls. -/
def mark (d : Nat) : Deferred := { target := .collected d, args := #[] }

structure At (fr : Fr) (n : Nat) (φ : Nat → Nat) (st : St) (vs : List (V D)) (Hs : List (Ob D)) (a : Act) : Prop where
  len : vs.length = n
  tm : a.tmps = (vs.map (V.conc φ)).toArray
  σ : ∀ t, st.σ t = (vs.getD t ud).er
  H : Hs.map Ob.er = st.H
  df : a.defers = fr.ds.map mark

/-- An operand's tree. -/
def sev (vs : List (V D)) (a : Act) : Operand → V D
  | .tmp t => vs.getD t ud
  | .const v => match ofConst v with | some x => lift x | none => .undef { raw := v }
  | .func f => .fn (.func f) [] []
  | .global g => (match Glob.tab g with | some cs => .rd (liftL cs) { a := some (g, 0) } | none => .undef { raw := a.eval (.global g) })

section
variable {fr : Fr} {g : Ghost} {vs : List (V D)} {Hs : List (Ob D)} {w : World} {n : Nat} {st : St} {a : Act}
theorem At.ev_eq (h : At fr n g.φ st vs Hs a) (x : Operand) : ev st x = (sev vs a x).er := by
  cases x with
  | tmp t => exact h.σ t
  | const v => simp only [ev, sev]; cases ofConst v <;> simp [V.er, lift_er]
  | func f => rfl
  | global f => simp only [ev, sev]; cases Glob.tab f <;> simp [V.er, erL_map, liftL_map, Function.comp_def, lift_er]
theorem At.conc_eq (h : At fr n g.φ st vs Hs a) (x : Operand) : a.eval x = V.conc g.φ (sev vs a x) := by
  cases x with
  | tmp t =>
    simp only [Act.eval, sev, h.tm, ud]
    simp only [Array.getD_eq_getD_getElem?, List.getD_eq_getElem?_getD, List.getElem?_toArray, List.getElem?_map]
    cases vs[t]? <;> rfl
  | const v =>
    simp only [Act.eval, sev]
    cases hv : ofConst v with
    | none => rfl
    | some y => exact ((ofConst_lift hv).conc _).symm
  | func f => rfl
  | global f => simp only [sev, Act.eval]; cases Glob.tab f <;> simp [V.conc, Act.eval]
theorem getD_mem {α : Type} {l : List α} {t : Nat} {d : α} : l.getD t d = d ∨ l.getD t d ∈ l := by
  rw [List.getD_eq_getElem?_getD]
  cases h : l[t]? with
  | none => exact .inl rfl
  | some v => exact .inr (List.mem_of_getElem? h)
theorem lift_leaf {c : A} (h : leaf c = true) : (∀ f, V.conc f (lift c) = leafV c) ∧ solid (lift c) = true ∧ (lift c).flagless = true ∧ (∀ g w, Mem g w (lift c)) ∧ (∀ n, (lift c).low n = true) := by
  cases c <;> simp_all [leaf, lift, V.conc, leafV, solid, V.flagless, Mem, V.low]
theorem tab_mem {b : Nat} {cs : List A} (hR : Rel fr g vs Hs w) (ht : Glob.tab b = some cs) :
    Mem g w (.rd (liftL cs) { a := some (b, 0) }) ∧ (∀ n, (V.rd (liftL cs) { a := some (b, 0) } : V D).low n = true) ∧ (V.rd (liftL cs) { a := some (b, 0) } : V D).fl = [] := by
  have hl : ∀ c ∈ cs, leaf c = true := by simpa using Glob.ok b cs ht
  obtain ⟨h1, h2⟩ := hR.gl b cs ht
  have hle : cs.length ≤ g.F b := Nat.le_trans h1 (hR.frF b)
  refine ⟨?_, ?_, ?_⟩
  · simp only [Mem, MemL_all, liftL_map, List.mem_map, RdOk, flaglessL_all, List.all_map, List.length_map, Nat.zero_add]
    refine ⟨?_, ?_, b, 0, rfl, ?_, by simpa using hle⟩
    · rintro _ ⟨c, hc, rfl⟩; exact (lift_leaf (hl c hc)).2.2.2.1 g w
    · simp only [List.all_eq_true, Function.comp_def]; exact fun c hc => (lift_leaf (hl c hc)).2.2.1
    · intro j v hj
      rw [List.getElem?_map] at hj
      obtain ⟨c, hc, rfl⟩ := Option.map_eq_some_iff.1 hj
      have hc' := lift_leaf (hl c (List.mem_of_getElem? hc))
      refine ⟨hc'.2.1, ?_⟩
      rw [hc'.1, Nat.zero_add, hR.frC b j (Nat.lt_of_lt_of_le (List.getElem?_eq_some_iff.1 hc).1 h1)]
      exact h2 j c hc
  · intro n
    simp only [V.low, lowL_all, liftL_map, List.all_map, List.all_eq_true, Function.comp_def]
    exact fun c hc => (lift_leaf (hl c hc)).2.2.2.2 n
  · simp only [V.fl, flL_flatMap, liftL_map, List.flatMap_eq_nil_iff, List.mem_map]
    rintro _ ⟨c, hc, rfl⟩; exact fl_nil (lift_leaf (hl c hc)).2.2.1
theorem At.mem_sev (h : At fr n g.φ st vs Hs a) (hR : Rel fr g vs Hs w) (x : Operand) : Mem g w (sev vs a x) ∧ (sev vs a x).low Hs.length = true := by
  cases x with
  | tmp t =>
    simp only [sev]
    rcases getD_mem (l := vs) (t := t) (d := ud) with h | h
    · rw [h]; exact ⟨by simp [ud, Mem], rfl⟩
    · exact ⟨hR.mem _ h, hR.low _ h⟩
  | const v =>
    simp only [sev]
    cases hv : ofConst v with
    | none => exact ⟨by simp only [Mem]; rintro b rfl; simp [ofConst, ofConst1] at hv, rfl⟩
    | some y => exact ⟨(ofConst_lift hv).mem _ _, (ofConst_lift hv).low _⟩
  | func f => exact ⟨by simp [sev, Mem, MemL], rfl⟩
  | global f =>
    simp only [sev]
    cases ht : Glob.tab f with
    | none => exact ⟨by simp only [Mem]; intro b hb; exact absurd hb (by simp [Act.eval]), rfl⟩
    | some cs => exact ⟨(tab_mem hR ht).1, (tab_mem hR ht).2.1 Hs.length⟩
theorem At.eval_fun (h : At fr n g.φ st vs Hs a) : a.eval = fun x => V.conc g.φ (sev vs a x) := funext h.conc_eq
theorem At.ev_fun (h : At fr n g.φ st vs Hs a) : ev st = fun x => (sev vs a x).er := funext h.ev_eq
end
end Go.Ab
end
