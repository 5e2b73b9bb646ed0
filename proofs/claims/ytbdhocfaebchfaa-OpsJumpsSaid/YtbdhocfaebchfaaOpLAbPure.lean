/- Abstract values and rules for them, proved sound over the model. -/
import Derived.Test.YtbdhocfaebchfaaOpLAbAt
import Derived.Laws.Strings
import Derived.Laws.StructEq
set_option linter.all false
set_option linter.unusedSimpArgs false
set_option linter.unusedVariables false
set_option linter.unnecessarySimpa false
section
/- Operations that only compute: they are sound. -/
namespace Go.Ab
open V
variable [Glob]
set_option linter.unusedSimpArgs false
set_option linter.unusedVariables false

section inv
variable {δ : Type} {v : V δ}
theorem er_bool {b : Bool} (h : v.er = .bool b) : v = .bool b := by cases v <;> simp_all [V.er]
theorem er_int {k : IntKind} {n : Int} (h : v.er = .int k n) : v = .int k n := by cases v <;> simp_all [V.er]
theorem er_str {s : ByteArray} (h : v.er = .str s) : v = .str s := by cases v <;> simp_all [V.er]
theorem er_ptr {p : Option (Nat × Nat)} (h : v.er = .ptr p) : v = .ptr p := by cases v <;> simp_all [V.er]
theorem er_mp {p : Option Nat} (h : v.er = .mp p) : v = .mp p := by cases v <;> simp_all [V.er]
theorem er_win {p : Nat × Nat} {n : Nat} {u : Unit} (h : v.er = .win p n u) : ∃ d, v = .win p n d := by cases v <;> simp_all [V.er]
theorem er_nilFn (h : v.er = .nilFn) : v = .nilFn := by cases v <;> simp_all [V.er]
theorem er_nilIface (h : v.er = .nilIface) : v = .nilIface := by cases v <;> simp_all [V.er]
theorem er_sl {xs : List A} {own : Option Nat} {u : Unit} (h : v.er = .sl xs own u) : ∃ ys d, v = .sl ys own d ∧ ys.map V.er = xs := by
  cases v <;> simp_all [V.er, erL_map]
theorem er_rd {xs : List A} {u : Unit} (h : v.er = .rd xs u) : ∃ ys d, v = .rd ys d ∧ ys.map V.er = xs := by
  cases v <;> simp_all [V.er, erL_map]
theorem er_agg {xs : List A} (h : v.er = .agg xs) : ∃ ys, v = .agg ys ∧ ys.map V.er = xs := by
  cases v <;> simp_all [V.er, erL_map]
theorem er_tup {xs : List A} (h : v.er = .tup xs) : ∃ ys, v = .tup ys ∧ ys.map V.er = xs := by
  cases v <;> simp_all [V.er, erL_map]
theorem er_fn {f : Fn} {as bs : List A} (h : v.er = .fn f as bs) : ∃ xs ys, v = .fn f xs ys ∧ xs.map V.er = as ∧ ys.map V.er = bs := by
  cases v <;> simp only [V.er, erL_map, reduceCtorEq, V.fn.injEq] at h
  exact ⟨_, _, by rw [h.1], h.2.1, h.2.2⟩
theorem er_iface {t : TypeId} {x : A} (h : v.er = .iface t x) : ∃ y, v = .iface t y ∧ y.er = x := by
  cases v <;> simp_all [V.er]
end inv

/-- A tree for an answer that only computes. -/
structure Good (g : Ghost) (w : World) (N : Nat) (r : A) (sr : V D) : Prop where
  er : sr.er = r
  fl : sr.flagless = true
  mem : Mem g w sr
  low : sr.low N = true

theorem Good.bool {g : Ghost} {w : World} {N : Nat} (b : Bool) : Good g w N (.bool b) (.bool b) := ⟨rfl, rfl, by simp [Mem], rfl⟩
theorem Good.int {g : Ghost} {w : World} {N : Nat} (k : IntKind) (n : Int) : Good g w N (.int k n) (.int k n) := ⟨rfl, rfl, by simp [Mem], rfl⟩
theorem Good.str {g : Ghost} {w : World} {N : Nat} (s : ByteArray) : Good g w N (.str s) (.str s) := ⟨rfl, rfl, by simp [Mem], rfl⟩

theorem value_run {P : Program} {s : Sem Value} {x : Value} {w : World} (h : s.run P w = .ok x w) : (do pure (Next.value (← s)) : Sem Next).run P w = .ok (.value x) w := by
  rw [run_bind h]; rfl
theorem value_run' {P : Program} {s : Sem Value} {x : Value} {w w' : World} (h : s.run P w = .ok x w') : (do pure (Next.value (← s)) : Sem Next).run P w = .ok (.value x) w' := by
  rw [run_bind h]; rfl
theorem pure_run {α : Type} {P : Program} (x : α) (w : World) : (pure x : Sem α).run P w = .ok x w := rfl

theorem eqGuard_none {P : Program} {op : BinOp} {t : TypeId} {x y : Operand} {a b : Value} {w : World} (h1 : ¬ (a = .nilIface ∧ b = .nilIface)) (h2 : ∀ c d, ¬ (a = .agg c ∧ b = .agg d)) :
    (eqGuard op t x y a b).run P w = .ok () w := by
  unfold eqGuard
  cases a <;> cases b <;> first | exact absurd ⟨rfl, rfl⟩ h1 | exact absurd ⟨rfl, rfl⟩ (h2 _ _) | (split <;> rfl)

theorem str_beq (a b : ByteArray) : (a.toList == b.toList) = decide (a = b) := by
  rw [Bool.eq_iff_iff]
  simp only [beq_iff_eq, decide_eq_true_eq]
  constructor
  · intro h
    rw [ByteArray.toList_eq, ByteArray.toList_eq] at h
    cases a; cases b; simp_all
  · rintro rfl; rfl

theorem cmpI_run {P : Program} {op : BinOp} {a b : Int} {r : Bool} (h : cmpI op a b = some r) (w : World) : (Go.Op.intCmp op a b).run P w = .ok (.bool r) w := by
  unfold cmpI at h
  split at h <;> simp only [Option.some.injEq, reduceCtorEq] at h <;> subst h <;> simp [Go.Op.intCmp, Sem.run, Pure.pure, bne] <;> rfl

/-- A number, a truth, a text. -/
def Sc (r : A) (x : Value) : Prop := (∃ b, r = .bool b ∧ x = .bool b) ∨ (∃ k n, r = .int k n ∧ x = .int k n) ∨ ∃ s, r = .str s ∧ x = .string s
theorem Sc.bool (b : Bool) : Sc (.bool b) (.bool b) := .inl ⟨b, rfl, rfl⟩
theorem Sc.int (k : IntKind) (n : Int) : Sc (.int k n) (.int k n) := .inr (.inl ⟨k, n, rfl, rfl⟩)
theorem Sc.str (s : ByteArray) : Sc (.str s) (.string s) := .inr (.inr ⟨s, rfl, rfl⟩)
theorem Sc.good {r : A} {x : Value} (h : Sc r x) (g : Ghost) (w : World) (N : Nat) : ∃ sr, Good g w N r sr ∧ V.conc g.φ sr = x := by
  rcases h with ⟨b, rfl, rfl⟩ | ⟨k, n, rfl, rfl⟩ | ⟨s, rfl, rfl⟩
  · exact ⟨_, .bool b, rfl⟩
  · exact ⟨_, .int k n, rfl⟩
  · exact ⟨_, .str s, rfl⟩

def Runs (P : Program) (s : Sem Value) (r : A) : Prop := ∃ x, Sc r x ∧ ∀ w, s.run P w = .ok x w

theorem cmp_runs {P : Program} {op : BinOp} {a b : Int} {r : A} (h : (cmpI op a b).map V.bool = some r) : Runs P (Go.Op.intCmp op a b) r := by
  obtain ⟨q, hq, rfl⟩ := Option.map_eq_some_iff.1 h
  exact ⟨_, .bool q, cmpI_run hq⟩

theorem int_runs {P : Program} {op : BinOp} {t : TypeId} {k : IntKind} {a b : Int} {r : A} (h : intOp op k a b = some r) :
    Runs P (Go.binOp op t (.int k a) (.int k b)) r := by
  cases op <;> simp only [intOp, Option.some.injEq, reduceCtorEq] at h
  case add => subst h; exact ⟨_, .int _ _, fun w => by simp [Go.binOp, Go.Op.intArith, Sem.run, Pure.pure]⟩
  case sub => subst h; exact ⟨_, .int _ _, fun w => by simp [Go.binOp, Go.Op.intArith, Sem.run, Pure.pure]⟩
  case mul => subst h; exact ⟨_, .int _ _, fun w => by simp [Go.binOp, Go.Op.intArith, Sem.run, Pure.pure]⟩
  case quo => split at h <;> simp only [Option.some.injEq, reduceCtorEq] at h; subst h; exact ⟨_, .int _ _, fun w => by simp [Go.binOp, Go.Op.intDiv, Sem.run, Pure.pure, *]⟩
  case rem => split at h <;> simp only [Option.some.injEq, reduceCtorEq] at h; subst h; exact ⟨_, .int _ _, fun w => by simp [Go.binOp, Go.Op.intDiv, Sem.run, Pure.pure, *]⟩
  case and => subst h; exact ⟨_, .int _ _, fun w => by simp [Go.binOp, Go.Op.intBits, Sem.run, Pure.pure, bitsI]⟩
  case or => subst h; exact ⟨_, .int _ _, fun w => by simp [Go.binOp, Go.Op.intBits, Sem.run, Pure.pure, bitsI]⟩
  case xor => subst h; exact ⟨_, .int _ _, fun w => by simp [Go.binOp, Go.Op.intBits, Sem.run, Pure.pure, bitsI]⟩
  case andNot => subst h; exact ⟨_, .int _ _, fun w => by simp [Go.binOp, Go.Op.intBits, Sem.run, Pure.pure, bitsI]⟩
  all_goals
    obtain ⟨x, h1, h2⟩ := cmp_runs (P := P) h
    refine ⟨x, h1, fun w => ?_⟩
    rw [← h2 w]; simp [Go.binOp]

theorem shift_runs {P : Program} {op : BinOp} {t : TypeId} {k k' : IntKind} {a b : Int} {r : A} (h : shiftI op k a b = some r) :
    Runs P (Go.binOp op t (.int k a) (.int k' b)) r := by
  unfold shiftI at h
  split at h
  · simp at h
  · rename_i hb
    cases op <;> simp only [Option.some.injEq, reduceCtorEq] at h
    case shl => subst h; exact ⟨_, .int _ _, fun w => by simp [Go.binOp, Go.Op.shift, Sem.run, Pure.pure, hb]⟩
    case shr => subst h; exact ⟨_, .int _ _, fun w => by simp [Go.binOp, Go.Op.shift, Sem.run, Pure.pure, hb]⟩

theorem str_runs {P : Program} {op : BinOp} {t : TypeId} {a b : ByteArray} {r : A} (h : strOp op a b = some r) :
    Runs P (Go.binOp op t (.string a) (.string b)) r := by
  cases op <;> simp only [strOp, Option.some.injEq, reduceCtorEq] at h
  case add => split at h <;> simp only [Option.some.injEq, reduceCtorEq] at h; subst h; rename_i hh; exact ⟨_, .str _, fun w => by rw [show Go.binOp .add t (.string a) (.string b) = Go.Op.stringOp .add a b by simp [Go.binOp]]; simp only [Go.Op.stringOp]; rw [if_neg hh]; rfl⟩
  all_goals
    subst h
    refine ⟨_, .bool _, fun w => ?_⟩
    simp [Go.binOp, Go.Op.stringOp, Sem.run, Pure.pure, str_beq]

/-! parts of aggregates -/
theorem isAgg_run {E : Env} (hE : E.Ok) {t : TypeId} {u : Ty} (h : E.T t = some u) (w : World) : (isAgg t).run E.P w = .ok u.d.agg w := by
  have h1 := (hE t u h).desc
  have h2 := (hE t u h).und
  obtain ⟨d, hd⟩ := Option.isSome_iff_exists.1 h2
  unfold isAgg
  rw [run_bind (run_underlying hd w), ← h1, hd]
  cases d <;> rfl

theorem part_run {E : Env} (hE : E.Ok) {t : TypeId} {u : Ty} (h : E.T t = some u) {f : Nat → Nat} {cs : List (V D)} {o : Nat} {r : A}
    (hr : partA u (cs.map V.er) o = some r) (w : World) : ∃ sr, sr.er = r ∧ (part t (cs.map (V.conc f)).toArray o).run E.P w = .ok (V.conc f sr) w ∧
      ((u.d.agg = true ∧ sr = .agg ((cs.drop o).take u.size) ∧ o + u.size ≤ cs.length) ∨ (u.d.agg = false ∧ cs[o]? = some sr)) := by
  unfold partA at hr
  unfold part
  rw [run_bind (isAgg_run hE h w)]
  cases ha : u.d.agg with
  | true =>
    simp only [ha, if_true, List.length_map] at hr ⊢
    split at hr
    · rename_i hle
      simp only [Option.some.injEq] at hr
      subst hr
      refine ⟨.agg ((cs.drop o).take u.size), by simp [V.er, erL_map], ?_, .inl ⟨trivial, rfl, hle⟩⟩
      rw [run_bind (run_sizeOf hE h w)]
      simp [Sem.run, Pure.pure, V.conc, concL_map, List.extract_eq_take_drop, List.map_take, List.map_drop]
    · simp at hr
  | false =>
    simp only [ha, Bool.false_eq_true, if_false, List.getElem?_map] at hr ⊢
    obtain ⟨c, hc, rfl⟩ := Option.map_eq_some_iff.1 hr
    refine ⟨c, rfl, ?_, .inr ⟨trivial, hc⟩⟩
    simp [hc, Sem.run, Pure.pure]

theorem eqA_sound {E : Env} (hE : E.Ok) (f : Nat → Nat) (w : World) : ∀ (n : Nat) (t : TypeId) (x y : V D) (r : Bool), eqA E.T n t x.er y.er = some r →
    ∀ d, n ≤ d → (Go.Op.equalIn d t (V.conc f x) (V.conc f y)).run E.P w = .ok r w := by
  intro n
  induction n with
  | zero => intro t x y r h; simp [eqA] at h
  | succ n ih =>
    intro t x y r h d hd
    obtain ⟨d, rfl⟩ : ∃ e, d = e + 1 := ⟨d - 1, by omega⟩
    unfold eqA at h
    split at h
    · -- struct
      rename_i fs xs ys hdt hx hy
      obtain ⟨gs, hu, rfl⟩ := und_st hE hdt
      obtain ⟨u, hT, hud⟩ := dOf_int hdt (by simp)
      split at h
      · rename_i hp
        simp only [plainOf, hT] at hp
        obtain ⟨_, hst, hbl⟩ := (hE t u hT).plain hp
        obtain ⟨xs', rfl, rfl⟩ := er_agg hx
        obtain ⟨ys', rfl, rfl⟩ := er_agg hy
        have hf : E.P.fieldsOf t = gs := by simp [Program.fieldsOf, hu]
        simp only [V.conc, concL_map]
        rw [run_equalIn_struct (P := E.P) w d t _ _ (by rw [hf]; exact hu) hst, hf]
        have key : ∀ (l : List Field) (r : Bool), (∀ g ∈ l, g.name ≠ "_") → (l.map fun f => (f.offset, f.type)).foldr (fun f acc =>
            match E.T f.2 with
            | some u =>
              (match (if u.d.agg then eqA E.T n f.2 (.agg (((xs'.map V.er).drop f.1).take u.size)) (.agg (((ys'.map V.er).drop f.1).take u.size)) else
                  match (xs'.map V.er)[f.1]?, (ys'.map V.er)[f.1]? with | some a, some b => eqA E.T n f.2 a b | _, _ => none), acc with
               | some a, some b => some (a && b)
               | _, _ => none)
            | none => none) (some true) = some r → (Go.Op.eqFields d (xs'.map (V.conc f)).toArray (ys'.map (V.conc f)).toArray l).run E.P w = .ok r w := by
          intro l
          induction l with
          | nil => intro r _ h; simp only [List.map_nil, List.foldr_nil, Option.some.injEq] at h; subst h; simp [Go.Op.eqFields, Sem.run, Pure.pure]
          | cons g l ihl =>
            intro r hn h
            simp only [List.map_cons, List.foldr_cons] at h
            split at h
            · rename_i v hv
              split at h
              · rename_i a b ha hb
                simp only [Option.some.injEq] at h
                subst h
                have hrest := ihl b (fun g hg => hn g (by simp [hg])) hb
                have hthis : ∃ va vb, (part g.type (xs'.map (V.conc f)).toArray g.offset).run E.P w = .ok va w ∧ (part g.type (ys'.map (V.conc f)).toArray g.offset).run E.P w = .ok vb w ∧
                    (Go.Op.equalIn d g.type va vb).run E.P w = .ok a w := by
                  cases hag : v.d.agg with
                  | true =>
                    rw [hag] at ha
                    simp only [if_true] at ha
                    have e1 : ∀ (l : List (V D)), (part g.type (l.map (V.conc f)).toArray g.offset).run E.P w = .ok (V.conc f (.agg ((l.drop g.offset).take v.size))) w := by
                      intro l
                      unfold part
                      rw [run_bind (isAgg_run hE hv w), hag]
                      simp only [if_true]
                      rw [run_bind (run_sizeOf hE hv w)]
                      simp [Sem.run, Pure.pure, V.conc, concL_map, List.extract_eq_take_drop, List.map_take, List.map_drop]
                    refine ⟨_, _, e1 xs', e1 ys', ih g.type _ _ a ?_ d (by omega)⟩
                    simpa [V.er, erL_map, List.map_take, List.map_drop] using ha
                  | false =>
                    rw [hag] at ha
                    simp only [Bool.false_eq_true, if_false, List.getElem?_map] at ha
                    split at ha
                    · rename_i a' b' ha' hb'
                      obtain ⟨c1, hc1, rfl⟩ := Option.map_eq_some_iff.1 ha'
                      obtain ⟨c2, hc2, rfl⟩ := Option.map_eq_some_iff.1 hb'
                      have e1 : ∀ (l : List (V D)) c, l[g.offset]? = some c → (part g.type (l.map (V.conc f)).toArray g.offset).run E.P w = .ok (V.conc f c) w := by
                        intro l c hc
                        unfold part
                        rw [run_bind (isAgg_run hE hv w), hag]
                        simp [hc, Sem.run, Pure.pure]
                      exact ⟨_, _, e1 xs' c1 hc1, e1 ys' c2 hc2, ih g.type _ _ a ha d (by omega)⟩
                    · simp at ha
                obtain ⟨va, vb, h1, h2, h3⟩ := hthis
                rw [Go.Op.eqFields, if_pos (hn g (by simp)), run_bind h1, run_bind h2, run_bind h3]
                cases a
                · simp [Sem.run, Pure.pure]
                · simpa using hrest
              · simp at h
            · simp at h
        exact key gs.toList r (fun g hg => hbl gs hu g (by simpa using hg)) h
      · simp at h
    · rename_i k k' a k'' b hdt hx hy
      split at h
      · rename_i hk
        simp only [Option.some.injEq] at h
        subst h
        rw [er_int hx, er_int hy]
        simp only [V.conc]
        unfold Go.Op.equalIn
        rw [run_bind (run_underlying (und_int hE hdt) w)]
        rw [hk.1, hk.2]
        simp [Sem.run, Pure.pure]
        rfl
      · simp at h
    · rename_i a b hdt hx hy
      simp only [Option.some.injEq] at h
      subst h
      rw [er_bool hx, er_bool hy]
      simp only [V.conc]
      unfold Go.Op.equalIn
      rw [run_bind (run_underlying (und_bool hE hdt) w)]
      simp [Sem.run, Pure.pure]
    · rename_i a b hdt hx hy
      simp only [Option.some.injEq] at h
      subst h
      rw [er_str hx, er_str hy]
      simp only [V.conc]
      unfold Go.Op.equalIn
      rw [run_bind (run_underlying (und_str hE hdt) w)]
      simp only [Sem.run, Pure.pure]
      congr 1
      rw [beq_toListBytes, str_beq]
    · rename_i e q hdt hx hy
      simp only [Option.some.injEq] at h
      subst h
      rw [er_ptr hx, er_ptr hy]
      simp only [V.conc]
      unfold Go.Op.equalIn
      rw [run_bind (run_underlying (und_ptr hE hdt) w)]
      cases q <;> simp [Sem.run, Pure.pure]
    · rename_i e q hdt hx hy
      simp only [Option.some.injEq] at h
      subst h
      rw [er_ptr hx, er_ptr hy]
      simp only [V.conc]
      unfold Go.Op.equalIn
      rw [run_bind (run_underlying (und_ptr hE hdt) w)]
      simp [Sem.run, Pure.pure]
    · rename_i e q s hdt hx hy
      simp only [Option.some.injEq] at h
      subst h
      rw [er_mp hx, er_mp hy]
      simp only [V.conc]
      unfold Go.Op.equalIn
      rw [run_bind (run_underlying (und_map hE hdt) w)]
      cases s <;> simp [Sem.run, Pure.pure]
    · rename_i e q s hdt hx hy
      simp only [Option.some.injEq] at h
      subst h
      rw [er_mp hx, er_mp hy]
      simp only [V.conc]
      unfold Go.Op.equalIn
      rw [run_bind (run_underlying (und_map hE hdt) w)]
      simp [Sem.run, Pure.pure]
    · rename_i hdt hx hy
      simp only [Option.some.injEq] at h
      subst h
      rw [er_nilFn hx, er_nilFn hy]
      obtain ⟨a, b, c, hu⟩ := und_fn hE hdt
      simp only [V.conc]
      unfold Go.Op.equalIn
      rw [run_bind (run_underlying hu w)]
      simp [Sem.run, Pure.pure]
    · rename_i hdt hx hy
      simp only [Option.some.injEq] at h
      subst h
      obtain ⟨p, q, hy', _⟩ := er_fn hy
      rw [er_nilFn hx, hy']
      obtain ⟨a, b, c, hu⟩ := und_fn hE hdt
      simp only [V.conc]
      unfold Go.Op.equalIn
      rw [run_bind (run_underlying hu w)]
      simp [Sem.run, Pure.pure]
    · rename_i hdt hx hy
      simp only [Option.some.injEq] at h
      subst h
      obtain ⟨p, q, hx', _⟩ := er_fn hx
      rw [er_nilFn hy, hx']
      obtain ⟨a, b, c, hu⟩ := und_fn hE hdt
      simp only [V.conc]
      unfold Go.Op.equalIn
      rw [run_bind (run_underlying hu w)]
      simp [Sem.run, Pure.pure]
    · simp at h
end Go.Ab
end
