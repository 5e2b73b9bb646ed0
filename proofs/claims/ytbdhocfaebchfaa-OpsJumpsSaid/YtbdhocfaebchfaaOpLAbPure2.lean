/- Abstract values and rules for them, proved sound over the model. -/
import Derived.Test.YtbdhocfaebchfaaOpLAbPure
set_option linter.all false
set_option linter.unusedSimpArgs false
set_option linter.unusedVariables false
set_option linter.unnecessarySimpa false
section
/- Operations that only compute: they are sound, one by one. -/
namespace Go.Ab
open V
variable [Glob]
set_option linter.unusedSimpArgs false
set_option linter.unusedVariables false

section
variable {E : Env} (hE : E.Ok) {g : Ghost} {w : World} {N : Nat} {s : Operand → V D}

/-- What is to be shown of an operation that only computes. -/
def PureOk (E : Env) (g : Ghost) (w : World) (N : Nat) (s : Operand → V D) (o : Op) (r : A) : Prop :=
  ∃ sr, Good g w N r sr ∧ ∀ d ty pos aft gd, (execOp (fun x => V.conc g.φ (s x)) ⟨d, o, ty, pos, aft, gd⟩).run E.P w = .ok (.value (V.conc g.φ sr)) w

theorem okv_some {v r : A} (h : okv v = some r) : v = r ∧ r.flagless = true := by
  unfold okv at h; split at h <;> simp_all

theorem Good.of {r : A} {sr : V D} (h : sr.er = r) (hf : r.flagless = true) (hm : Mem g w sr) (hl : sr.low N = true) : Good g w N r sr :=
  ⟨h, by rw [← er_flagless, h]; exact hf, hm, hl⟩

theorem eql_fin {P : Program} {op : BinOp} {t : TypeId} {x y : Operand} {a b : Value} {q : Bool} {r : A}
    (hg : (eqGuard op t x y a b).run P w = .ok () w) (h1 : Go.binOp .eql t a b = (do pure (.bool (← Go.Op.equal t a b))))
    (h2 : Go.binOp .neq t a b = (do pure (.bool (!(← Go.Op.equal t a b))))) (he : (Go.Op.equal t a b).run P w = .ok q w)
    (h : eqRes op (some q) = some r) :
    ∃ v, Sc r v ∧ (do eqGuard op t x y a b; Go.binOp op t a b : Sem Value).run P w = .ok v w := by
  rw [run_bind hg]
  cases op <;> simp only [eqRes, Option.map_some, Option.some.injEq, reduceCtorEq] at h
  · subst h; exact ⟨_, .bool _, by rw [h1, run_bind he]; rfl⟩
  · subst h; exact ⟨_, .bool _, by rw [h2, run_bind he]; rfl⟩

theorem eqGuard_agg {P : Program} {op : BinOp} {t : TypeId} {x y : Operand} {a b : Array Value} (h : P.eqGuardType P.depth t = false) :
    (eqGuard op t x y (.agg a) (.agg b)).run P w = .ok () w := by
  unfold eqGuard
  have key : ∀ e : Sem Unit, (do let p ← program; let p' ← program; if (!p.eqGuardType p'.depth t) = true then pure () else e : Sem Unit).run P w = .ok () w := by
    intro e
    rw [run_bind (show (program).run P w = .ok P w from rfl), run_bind (show (program).run P w = .ok P w from rfl), h]
    rfl
  cases op <;> first | rfl | exact key _

include hE

theorem bin_pure {op : BinOp} {t u : TypeId} {x y : Operand} {r : A}
    (h : binA E.T op t (s x).er (s y).er = some r) : PureOk E g w N s (.binOp op t x y u) r := by
  suffices hh : ∃ v, Sc r v ∧ (do eqGuard op t x y (V.conc g.φ (s x)) (V.conc g.φ (s y)); Go.binOp op t (V.conc g.φ (s x)) (V.conc g.φ (s y)) : Sem Value).run E.P w = .ok v w by
    obtain ⟨v, hv, hr⟩ := hh
    obtain ⟨sr, h1, h2⟩ := hv.good g w N
    exact ⟨sr, h1, fun _ _ _ _ _ => by rw [h2]; exact value_run hr⟩
  unfold binA at h
  split at h
  · rename_i k a k' b hx hy
    rw [er_int hx, er_int hy]
    simp only [V.conc]
    have hr : Runs E.P (Go.binOp op t (.int k a) (.int k' b)) r := by
      cases op <;> simp only at h
      case shl => exact shift_runs h
      case shr => exact shift_runs h
      all_goals
        split at h
        · rename_i hk; subst hk; exact int_runs h
        · simp at h
    obtain ⟨v, hv, hr⟩ := hr
    exact ⟨v, hv, by rw [run_bind (eqGuard_none (by simp) (by simp))]; exact hr w⟩
  · rename_i a b hx hy
    rw [er_str hx, er_str hy]
    simp only [V.conc]
    obtain ⟨v, hv, hr⟩ := str_runs (P := E.P) (t := t) h
    exact ⟨v, hv, by rw [run_bind (eqGuard_none (by simp) (by simp))]; exact hr w⟩
  · rename_i h1 h2
    have hq : ∃ q, eqA E.T 3 t (s x).er (s y).er = some q := by
      cases hq : eqA E.T 3 t (s x).er (s y).er with
      | some q => exact ⟨q, rfl⟩
      | none => rw [hq] at h; cases op <;> simp [eqRes] at h
    obtain ⟨q, hq⟩ := hq
    have he : (Go.Op.equal t (V.conc g.φ (s x)) (V.conc g.φ (s y))).run E.P w = .ok q w := eqA_sound hE g.φ w 3 t (s x) (s y) q hq 10000 (by omega)
    rw [hq] at h
    unfold eqA at hq
    split at hq
    · rename_i fs xs ys hdt hx hy
      obtain ⟨xs', hx', rfl⟩ := er_agg hx
      obtain ⟨ys', hy', rfl⟩ := er_agg hy
      obtain ⟨y0, hT, hud⟩ := dOf_int hdt (by simp)
      split at hq
      · rename_i hp
        simp only [plainOf, hT] at hp
        obtain ⟨hgt, _, _⟩ := (hE t y0 hT).plain hp
        rw [hx', hy'] at he ⊢
        exact eql_fin (eqGuard_agg hgt) rfl rfl he h
      · simp at hq
    · rename_i hx hy; exact absurd hy (h1 _ _ _ _ hx)
    · rename_i hx hy; rw [er_bool hx, er_bool hy] at he ⊢; exact eql_fin (eqGuard_none (by simp [V.conc]) (by simp [V.conc])) rfl rfl he h
    · rename_i hx hy; exact absurd hy (h2 _ _ hx)
    · rename_i e q hdt hx hy; rw [er_ptr hx, er_ptr hy] at he ⊢; cases q <;> exact eql_fin (eqGuard_none (by simp [V.conc]) (by simp [V.conc])) rfl rfl he h
    · rename_i hx hy; rw [er_ptr hx, er_ptr hy] at he ⊢; exact eql_fin (eqGuard_none (by simp [V.conc]) (by simp [V.conc])) rfl rfl he h
    · rename_i e q s hdt hx hy; rw [er_mp hx, er_mp hy] at he ⊢; cases s <;> exact eql_fin (eqGuard_none (by simp [V.conc]) (by simp [V.conc])) rfl rfl he h
    · rename_i hx hy; rw [er_mp hx, er_mp hy] at he ⊢; exact eql_fin (eqGuard_none (by simp [V.conc]) (by simp [V.conc])) rfl rfl he h
    · rename_i hx hy; rw [er_nilFn hx, er_nilFn hy] at he ⊢; exact eql_fin (eqGuard_none (by simp [V.conc]) (by simp [V.conc])) rfl rfl he h
    · rename_i hx hy; obtain ⟨p, q, hy', _⟩ := er_fn hy; rw [er_nilFn hx, hy'] at he ⊢; exact eql_fin (eqGuard_none (by simp [V.conc]) (by simp [V.conc])) rfl rfl he h
    · rename_i hx hy; obtain ⟨p, q, hx', _⟩ := er_fn hx; rw [er_nilFn hy, hx'] at he ⊢; exact eql_fin (eqGuard_none (by simp [V.conc]) (by simp [V.conc])) rfl rfl he h
    · simp at hq

omit hE in
theorem un_pure {op : UnOp} {t : TypeId} {x : Operand} {r : A} (h : unA op (s x).er = some r) : PureOk E g w N s (.unOp op t x) r := by
  suffices hh : ∃ v, Sc r v ∧ (Go.Op.unary op (V.conc g.φ (s x))).run E.P w = .ok v w by
    obtain ⟨v, hv, hr⟩ := hh
    obtain ⟨sr, h1, h2⟩ := hv.good g w N
    exact ⟨sr, h1, fun _ _ _ _ _ => by rw [h2]; exact value_run hr⟩
  unfold unA at h
  split at h
  · rename_i hx; simp only [Option.some.injEq] at h; subst h; rw [er_bool hx]; exact ⟨_, .bool _, rfl⟩
  · rename_i hx; simp only [Option.some.injEq] at h; subst h; rw [er_int hx]; exact ⟨_, .int _ _, rfl⟩
  · rename_i hx; simp only [Option.some.injEq] at h; subst h; rw [er_int hx]; exact ⟨_, .int _ _, rfl⟩
  · simp at h

omit hE in
theorem pick_pure (hs : ∀ x, Mem g w (s x) ∧ (s x).low N = true) {c x y : Operand} {r : A}
    (h : (match (s c).er with | .bool b => okv (pickA b (s x).er (s y).er) | _ => none) = some r) : PureOk E g w N s (.pick c x y) r := by
  split at h
  · rename_i b hc
    obtain ⟨rfl, hf⟩ := okv_some h
    have hp : (pickA b (s x).er (s y).er) = (if b then s x else s y).er := by
      unfold pickA
      split
      · rename_i hx hy; rw [er_bool hx, er_bool hy]; cases b <;> rfl
      · cases b <;> rfl
    refine ⟨if b then s x else s y, Good.of hp.symm hf ?_ ?_, fun _ _ _ _ _ => ?_⟩
    · cases b <;> simp [hs]
    · cases b <;> simp [hs]
    · simp only [execOp, er_bool hc, V.conc]
      cases b <;> rfl
  · simp at h

omit hE in
theorem nilCheck_pure (hs : ∀ x, Mem g w (s x) ∧ (s x).low N = true) {x : Operand} {r : A}
    (h : (match (s x).er with | .ptr (some p) => some (.ptr (some p)) | .rd cs () => okv (.rd cs ()) | .fn (.func f) a b => okv (.fn (.func f) a b) | _ => none) = some r) :
    PureOk E g w N s (.nilCheck x) r := by
  split at h
  · rename_i p hx
    simp only [Option.some.injEq] at h; subst h
    refine ⟨s x, ⟨hx, by rw [er_ptr hx]; rfl, (hs x).1, (hs x).2⟩, fun _ _ _ _ _ => ?_⟩
    simp only [execOp, er_ptr hx, V.conc]; rfl
  · rename_i cs hx
    obtain ⟨rfl, hf⟩ := okv_some h
    refine ⟨s x, Good.of hx hf (hs x).1 (hs x).2, fun _ _ _ _ _ => ?_⟩
    obtain ⟨ys, d, hy, _⟩ := er_rd hx
    have hm := (hs x).1
    rw [hy] at hm
    simp only [Mem] at hm
    obtain ⟨_, _, b, o, hd, _⟩ := hm
    simp only [execOp, hy, V.conc, hd]; rfl
  · rename_i f a b hx
    obtain ⟨rfl, hf⟩ := okv_some h
    refine ⟨s x, Good.of hx hf (hs x).1 (hs x).2, fun _ _ _ _ _ => ?_⟩
    obtain ⟨p, q, hy, _⟩ := er_fn hx
    simp only [execOp, hy, V.conc]; rfl
  · simp at h
end
end Go.Ab
end
