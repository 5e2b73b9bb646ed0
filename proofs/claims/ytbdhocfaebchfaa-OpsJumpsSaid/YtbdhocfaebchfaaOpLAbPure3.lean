/- Abstract values and rules for them, proved sound over the model. -/
import Derived.Test.YtbdhocfaebchfaaOpLAbPure2
set_option linter.all false
set_option linter.unusedSimpArgs false
set_option linter.unusedVariables false
set_option linter.unnecessarySimpa false
section
/- Operations that only compute: conversions, addresses, parts. -/
namespace Go.Ab
open V
variable [Glob]
set_option linter.unusedSimpArgs false
set_option linter.unusedVariables false

section
variable {E : Env} {g : Ghost} {w : World} {N : Nat} {s : Operand → V D}

theorem pureOk_of_value {o : Op} {r : A} {sr : V D} (hg : Good g w N r sr) {e : Sem Value} (he : e.run E.P w = .ok (V.conc g.φ sr) w)
    (hx : ∀ d ty pos aft gd, execOp (fun x => V.conc g.φ (s x)) ⟨d, o, ty, pos, aft, gd⟩ = (do pure (Next.value (← e)))) : PureOk E g w N s o r :=
  ⟨sr, hg, fun d ty pos aft gd => by rw [hx]; exact value_run he⟩
theorem pureOk_of_scalar {o : Op} {r : A} {x : Value} (hg : Sc r x) {e : Sem Value} (he : e.run E.P w = .ok x w)
    (hx : ∀ d ty pos aft gd, execOp (fun x => V.conc g.φ (s x)) ⟨d, o, ty, pos, aft, gd⟩ = (do pure (Next.value (← e)))) : PureOk E g w N s o r := by
  obtain ⟨sr, h1, h2⟩ := hg.good g w N
  exact pureOk_of_value h1 (by rw [h2]; exact he) hx

theorem makeFunc_pure (hs : ∀ x, Mem g w (s x) ∧ (s x).low N = true) {f : Fn} {a b : Array Operand} {r : A}
    (h : okv (V.fn f (a.toList.map fun x => (s x).er) (b.toList.map fun x => (s x).er)) = some r) : PureOk E g w N s (.makeFunc f a b) r := by
  obtain ⟨rfl, hf⟩ := okv_some h
  refine pureOk_of_value (sr := .fn f (a.toList.map s) (b.toList.map s)) (Good.of (by simp [V.er, erL_map, Function.comp_def]) hf ?_ ?_) (e := pure _) ?_ (fun _ _ _ _ _ => rfl)
  · simp only [Mem, MemL_all, List.mem_map]
    exact ⟨fun v ⟨x, _, e⟩ => e ▸ (hs x).1, fun v ⟨x, _, e⟩ => e ▸ (hs x).1⟩
  · simp only [V.low, lowL_all, Bool.and_eq_true, List.all_eq_true, List.mem_map]
    exact ⟨fun v ⟨x, _, e⟩ => e ▸ (hs x).2, fun v ⟨x, _, e⟩ => e ▸ (hs x).2⟩
  · simp only [pure_run, V.conc, concL_map, List.map_map]
    have e : ∀ l : Array Operand, (l.toList.map ((V.conc g.φ) ∘ s)).toArray = l.map fun x => V.conc g.φ (s x) := fun l => by
      apply Array.ext'; simp [Function.comp_def]
    rw [e, e]

theorem extract_pure (hs : ∀ x, Mem g w (s x) ∧ (s x).low N = true) {x : Operand} {i : Nat} {r : A}
    (h : (match (s x).er with | .tup vs => (vs[i]?).bind okv | _ => none) = some r) : PureOk E g w N s (.extract x i) r := by
  split at h
  · rename_i vs hx
    obtain ⟨v, hv, h⟩ := Option.bind_eq_some_iff.1 h
    obtain ⟨rfl, hf⟩ := okv_some h
    obtain ⟨ys, hy, rfl⟩ := er_tup hx
    rw [List.getElem?_map] at hv
    obtain ⟨c, hc, rfl⟩ := Option.map_eq_some_iff.1 hv
    have hm := hs x
    rw [hy] at hm
    simp only [Mem, MemL_all, V.low, lowL_all, List.all_eq_true] at hm
    have hmem := List.mem_of_getElem? hc
    refine pureOk_of_value (sr := c) (Good.of rfl hf (hm.1 c hmem) (hm.2 c hmem)) (e := Go.Instr.extract (V.conc g.φ (s x)) i) ?_ (fun _ _ _ _ _ => rfl)
    rw [hy]
    simp only [V.conc, concL_map, Go.Instr.extract]
    simp [hc, Sem.run, Pure.pure]
  · simp at h

theorem mmL_runs (P : Program) (w : World) (f : Nat → Nat) (mx : Bool) : ∀ (l : List (V D)) (k : IntKind) (a : Int) (r : A), mmL mx (.int k a) (l.map V.er) = some r →
    ∃ b, r = .int k b ∧ ((l.map (V.conc f)).foldlM (if mx then Go.Builtin.max2 else Go.Builtin.min2) (Value.int k a)).run P w = Result.ok (.int k b) w := by
  intro l
  induction l with
  | nil => intro k a r h; simp only [List.map_nil, mmL, Option.some.injEq] at h; subst h; exact ⟨a, rfl, rfl⟩
  | cons v l ih =>
    intro k a r h
    simp only [List.map_cons, mmL] at h
    split at h
    · rename_i z hz
      have hv : ∃ b, v = .int k b ∧ z = .int k (bif mx then max a b else min a b) := by
        cases v <;> simp only [V.er, mm2, reduceCtorEq] at hz
        split at hz
        · rename_i hk; subst hk; simp only [Option.some.injEq] at hz; exact ⟨_, rfl, hz.symm⟩
        · simp at hz
      obtain ⟨b, rfl, rfl⟩ := hv
      obtain ⟨c, h1, h2⟩ := ih _ _ r h
      refine ⟨c, h1, ?_⟩
      simp only [List.map_cons, List.foldlM_cons, V.conc]
      have : (if mx = true then Go.Builtin.max2 else Go.Builtin.min2) (Value.int k a) (.int k b) = pure (.int k (bif mx then max a b else min a b)) := by
        cases mx
        · simp only [Bool.false_eq_true, if_false, Go.Builtin.min2, cond_false]
          congr 2; omega
        · simp only [if_true, Go.Builtin.max2, cond_true]
          congr 2; omega
      rw [this, run_bind (pure_run _ _)]
      exact h2
    · simp at h

theorem minmax_pure {mx : Bool} {args : Array Operand} {ts : Array TypeId} {r : A} (h : minmaxA mx (args.toList.map fun x => (s x).er) = some r) :
    PureOk E g w N s (.call { callee := .builtin (bif mx then .max else .min), args, argTypes := ts }) r := by
  cases hl : args.toList with
  | nil => rw [hl] at h; simp [minmaxA] at h
  | cons x l =>
    rw [hl] at h
    simp only [List.map_cons, minmaxA] at h
    split at h
    · rename_i k a l' heq
      simp only [List.cons.injEq] at heq
      obtain ⟨hx, rfl⟩ := heq
      obtain ⟨b, rfl, hb⟩ := mmL_runs E.P w g.φ mx (l.map s) k a r (by simpa [List.map_map, Function.comp_def] using h)
      obtain ⟨sr, h1, h2⟩ := (Sc.int k b).good g w N
      refine ⟨sr, h1, fun d ty pos aft gd => ?_⟩
      rw [h2]
      have ha : (args.map fun x => V.conc g.φ (s x)) = (Value.int k a :: (l.map s).map (V.conc g.φ)).toArray := by
        apply Array.ext'
        simp [hl, er_int hx, V.conc, Function.comp_def]
      cases mx
      · simp only [execOp, resolve, cond_false, ha]
        rw [run_bind (pure_run _ _)]
        simp only [invoke, Go.builtin]
        refine value_run ?_
        simpa [Go.Builtin.min_] using hb
      · simp only [execOp, resolve, cond_true, ha]
        rw [run_bind (pure_run _ _)]
        simp only [invoke, Go.builtin]
        refine value_run ?_
        simpa [Go.Builtin.max_] using hb
    · simp at h

theorem run_arr {α : Type} {P : Program} {w : World} (x : α) : (pure x : Sem α).run P w = .ok x w := rfl

variable (hE : E.Ok)
include hE

theorem len_pure {x : Operand} {t : TypeId} {args : Array Operand} {ts : Array TypeId} {r : A} (ha : args.toList = [x]) (ht : ts.toList = [t]) (h : lenA E.T t (s x).er = some r) :
    PureOk E g w N s (.call { callee := .builtin .len, args, argTypes := ts }) r := by
  obtain rfl : args = #[x] := by apply Array.ext'; simpa using ha
  obtain rfl : ts = #[t] := by apply Array.ext'; simpa using ht
  suffices hh : ∃ v, Sc r v ∧ (Go.Builtin.len_ #[t] 0 #[V.conc g.φ (s x)]).run E.P w = .ok v w by
    obtain ⟨v, hv, hr⟩ := hh
    obtain ⟨sr, h1, h2⟩ := hv.good g w N
    refine ⟨sr, h1, fun d ty pos aft gd => ?_⟩
    rw [h2]
    simp only [execOp, resolve, List.map_toArray, List.map_cons, List.map_nil]
    rw [run_bind (pure_run _ _)]
    exact value_run hr
  unfold lenA at h
  simp only [Go.Builtin.len_, List.getElem?_toArray, List.getElem?_cons_zero]
  split at h
  · rename_i hd hx
    simp only [Option.some.injEq] at h; subst h
    rw [er_str hx, run_bind (run_underlying (und_str hE hd) w)]
    exact ⟨_, .int _ _, rfl⟩
  · rename_i hd hx
    simp only [Option.some.injEq] at h; subst h
    obtain ⟨ys, d, hy, rfl⟩ := er_sl hx
    rw [hy, run_bind (run_underlying (und_sl hE hd) w)]
    exact ⟨_, .int _ _, by simp [V.conc, Go.goInt, Sem.run, Pure.pure]⟩
  · rename_i hd hx
    simp only [Option.some.injEq] at h; subst h
    obtain ⟨d, hy⟩ := er_win hx
    rw [hy, run_bind (run_underlying (und_sl hE hd) w)]
    exact ⟨_, .int _ _, by simp [V.conc, Go.goInt, Sem.run, Pure.pure]⟩
  · rename_i hd
    simp only [Option.some.injEq] at h; subst h
    rw [run_bind (run_underlying (und_arr hE hd) w)]
    refine ⟨_, .int _ _, ?_⟩
    cases V.conc g.φ (s x) <;> rfl
  · simp at h
end
end Go.Ab
end
