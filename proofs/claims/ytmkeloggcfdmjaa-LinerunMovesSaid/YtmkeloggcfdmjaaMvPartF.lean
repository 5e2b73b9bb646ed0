/- Contracts of the functions that the law reaches. -/
import Derived.Test.YtmkeloggcfdmjaaMvPartE
import Derived.Test.YtmkeloggcfdmjaaMvLAbRead
import Derived.Test.YtmkeloggcfdmjaaMvPartD
set_option linter.all false
set_option linter.unusedSimpArgs false
set_option linter.unusedVariables false
set_option linter.unnecessarySimpa false
section
/- Package sindriref22: one operation. -/
namespace Go.Ab
open V Go.Proofs
set_option maxHeartbeats 4000000
set_option maxRecDepth 10000
set_option linter.unusedSimpArgs false
set_option linter.unusedVariables false

section
variable {hd : HD} {H G : Heap} {Q : A → Heap → Prop} {m : MS} {pc pm k : Nat}

theorem step_spec (hi : hd.In) (hR : hd.Right) (hl : m.s.left > 0) (hs : m.s.Ok) (hb : m.s.b.length < 140737488355328) (hout : m.out.length ≤ 2000) (hk : k ≤ m.out.length)
    (h : ∀ k', k' ≤ (m.step hd).out.length → Q (.tup []) (H ++ [.cells (m.step hd).s.ref, (m.step hd).ob hd H.length k'])) :
    AC Try.prog 25 [.ptr (some (H.length + 1, 0))] (H ++ [.cells m.s.ref, m.ob hd H.length k]) Q := by
  obtain ⟨hr1, hr2, hr3, hr4, hr5, hr6, hr7⟩ := hR.1
  have hrange : hd.range ≠ 0 := by omega
  have hlt0 : H.length ≠ H.length + 1 := by omega
  obtain ⟨htl, h0⟩ := take_less hl
  have hle := le1 m.s
  have ew0 : IntKind.i64.wrap ((le (m.s.take 1).1 : Nat) : Int) = (le (m.s.take 1).1 : Nat) := IntWalk.i64_in _ (by omega)
  have hst : m.step hd = if ((le (m.s.take 1).1 : Nat) : Int) ≥ hd.codes ∧ ((le (m.s.take 1).1 : Nat) : Int) > 0 then ({ m with s := (m.s.take 1).2 } : MS).special hd (le (m.s.take 1).1 : Nat) else ({ m with s := (m.s.take 1).2 } : MS).standard hd (le (m.s.take 1).1) := rfl
  rw [hst] at h
  have hbt : (m.s.take 1).2.b.length < 140737488355328 := by rw [CS.take_b]; exact hb
  have hst1 := hs.take 1
  refine AC.enter (E := env Try.prog 192 (fun _ => .copy) (fun _ => false)) env_ok Try.func25 rfl rfl rfl (by simp only [List.length_cons, List.length_nil]; exact of_decide_eq_true rfl) ?_
  ((try simp only [go_sem, ↓reduceIte, reduceCtorEq, Nat.reduceLT, Nat.reduceEqDiff, Nat.reduceBEq, Nat.reduceAdd, Nat.reduceMul, Nat.reduceSub, Nat.reduceLeDiff, Int.reduceNeg, Int.reduceLT, Int.reduceLE, Int.reduceEq, Int.reduceAdd, Int.reduceToNat]); repeat ((first | refine AW.seq ?_ | refine AW.region env_ok ?_ | refine AW.region envR_ok ?_ | refine AW.skip ?_ | refine AW.block ?_ | refine AW.exit ?_ | refine AW.ret ?_ | (refine AW.cond (b := true) ?_ ?_; simp only [ev, upd, ↓reduceIte, Nat.reduceEqDiff]; rw [if_pos rfl]) | (refine AW.cond (b := false) ?_ ?_; simp only [ev, upd, ↓reduceIte, Nat.reduceEqDiff]; rw [if_neg Bool.false_ne_true]) | fail) <;> try simp only [go_sem, ↓reduceIte, reduceCtorEq, Nat.reduceLT, Nat.reduceEqDiff, Nat.reduceBEq, Nat.reduceAdd, Nat.reduceMul, Nat.reduceSub, Nat.reduceLeDiff, Int.reduceNeg, Int.reduceLT, Int.reduceLE, Int.reduceEq, Int.reduceAdd, Int.reduceToNat]))
  refine rUint_spec hs (two_0 ..) ?_
  rw [show (min (max (1 : Int) 0) 8).toNat = 1 from rfl]
  generalize hcode : le (m.s.take 1).1 = code at h hle ew0 ⊢
  generalize hs' : (m.s.take 1).2 = s at h h0 hbt hst1 ⊢
  by_cases c : (code : Int) ≥ hd.codes
  · have c2 : (code : Int) > 0 := by omega
    rw [if_pos ⟨c, c2⟩] at h
    ((try simp only [go_sem, ↓reduceIte, reduceCtorEq, Nat.reduceLT, Nat.reduceEqDiff, Nat.reduceBEq, Nat.reduceAdd, Nat.reduceMul, Nat.reduceSub, Nat.reduceLeDiff, Int.reduceNeg, Int.reduceLT, Int.reduceLE, Int.reduceEq, Int.reduceAdd, Int.reduceToNat, ew0, c, c2, hrange]); repeat ((first | refine AW.seq ?_ | refine AW.region env_ok ?_ | refine AW.region envR_ok ?_ | refine AW.skip ?_ | refine AW.block ?_ | refine AW.exit ?_ | refine AW.ret ?_ | (refine AW.cond (b := true) ?_ ?_; simp only [ev, upd, ↓reduceIte, Nat.reduceEqDiff]; rw [if_pos rfl]) | (refine AW.cond (b := false) ?_ ?_; simp only [ev, upd, ↓reduceIte, Nat.reduceEqDiff]; rw [if_neg Bool.false_ne_true]) | fail) <;> try simp only [go_sem, ↓reduceIte, reduceCtorEq, Nat.reduceLT, Nat.reduceEqDiff, Nat.reduceBEq, Nat.reduceAdd, Nat.reduceMul, Nat.reduceSub, Nat.reduceLeDiff, Int.reduceNeg, Int.reduceLT, Int.reduceLE, Int.reduceEq, Int.reduceAdd, Int.reduceToNat, ew0, c, c2, hrange]))
    refine move_spec (m := { m with s := s }) (k := k) (two_1 ..) ?_
    ((try simp only [go_sem, ↓reduceIte, reduceCtorEq, Nat.reduceLT, Nat.reduceEqDiff, Nat.reduceBEq, Nat.reduceAdd, Nat.reduceMul, Nat.reduceSub, Nat.reduceLeDiff, Int.reduceNeg, Int.reduceLT, Int.reduceLE, Int.reduceEq, Int.reduceAdd, Int.reduceToNat]); repeat ((first | refine AW.seq ?_ | refine AW.region env_ok ?_ | refine AW.region envR_ok ?_ | refine AW.skip ?_ | refine AW.block ?_ | refine AW.exit ?_ | refine AW.ret ?_ | (refine AW.cond (b := true) ?_ ?_; simp only [ev, upd, ↓reduceIte, Nat.reduceEqDiff]; rw [if_pos rfl]) | (refine AW.cond (b := false) ?_ ?_; simp only [ev, upd, ↓reduceIte, Nat.reduceEqDiff]; rw [if_neg Bool.false_ne_true]) | fail) <;> try simp only [go_sem, ↓reduceIte, reduceCtorEq, Nat.reduceLT, Nat.reduceEqDiff, Nat.reduceBEq, Nat.reduceAdd, Nat.reduceMul, Nat.reduceSub, Nat.reduceLeDiff, Int.reduceNeg, Int.reduceLT, Int.reduceLE, Int.reduceEq, Int.reduceAdd, Int.reduceToNat]))
    refine AW.chain env_ok [0, 0, 2, 6, 14, 30, 0, 0, 128, 384, 896, 1920, 4032, 8190, 16383] [0, 1, 2, 3, 4, 5, 6, 7, 8, 9, 10, 11, 12, 13] [(14, [], [])] mixed (by decide) ?_
    ((try simp only [go_sem, ↓reduceIte, reduceCtorEq, Nat.reduceLT, Nat.reduceEqDiff, Nat.reduceBEq, Nat.reduceAdd, Nat.reduceMul, Nat.reduceSub, Nat.reduceLeDiff, Int.reduceNeg, Int.reduceLT, Int.reduceLE, Int.reduceEq, Int.reduceAdd, Int.reduceToNat, hrange]); repeat ((first | refine AW.seq ?_ | refine AW.region env_ok ?_ | refine AW.region envR_ok ?_ | refine AW.skip ?_ | refine AW.block ?_ | refine AW.exit ?_ | refine AW.ret ?_ | (refine AW.cond (b := true) ?_ ?_; simp only [ev, upd, ↓reduceIte, Nat.reduceEqDiff]; rw [if_pos rfl]) | (refine AW.cond (b := false) ?_ ?_; simp only [ev, upd, ↓reduceIte, Nat.reduceEqDiff]; rw [if_neg Bool.false_ne_true]) | fail) <;> try simp only [go_sem, ↓reduceIte, reduceCtorEq, Nat.reduceLT, Nat.reduceEqDiff, Nat.reduceBEq, Nat.reduceAdd, Nat.reduceMul, Nat.reduceSub, Nat.reduceLeDiff, Int.reduceNeg, Int.reduceLT, Int.reduceLE, Int.reduceEq, Int.reduceAdd, Int.reduceToNat, hrange]))
    refine lines_spec (m := ({ m with s := s } : MS).by hd (IntKind.u64.wrap (IntKind.i64.wrap ((IntKind.i64.wrap ((code : Int) - hd.codes)).tdiv hd.range)))) (k := k) hlt0 (two_0 ..) (two_1 ..) ?_
    ((try simp only [go_sem, ↓reduceIte, reduceCtorEq, Nat.reduceLT, Nat.reduceEqDiff, Nat.reduceBEq, Nat.reduceAdd, Nat.reduceMul, Nat.reduceSub, Nat.reduceLeDiff, Int.reduceNeg, Int.reduceLT, Int.reduceLE, Int.reduceEq, Int.reduceAdd, Int.reduceToNat]); repeat ((first | refine AW.seq ?_ | refine AW.region env_ok ?_ | refine AW.region envR_ok ?_ | refine AW.skip ?_ | refine AW.block ?_ | refine AW.exit ?_ | refine AW.ret ?_ | (refine AW.cond (b := true) ?_ ?_; simp only [ev, upd, ↓reduceIte, Nat.reduceEqDiff]; rw [if_pos rfl]) | (refine AW.cond (b := false) ?_ ?_; simp only [ev, upd, ↓reduceIte, Nat.reduceEqDiff]; rw [if_neg Bool.false_ne_true]) | fail) <;> try simp only [go_sem, ↓reduceIte, reduceCtorEq, Nat.reduceLT, Nat.reduceEqDiff, Nat.reduceBEq, Nat.reduceAdd, Nat.reduceMul, Nat.reduceSub, Nat.reduceLeDiff, Int.reduceNeg, Int.reduceLT, Int.reduceLE, Int.reduceEq, Int.reduceAdd, Int.reduceToNat]))
    have ho := MS.line_out (m := ({ m with s := s } : MS).by hd (IntKind.u64.wrap (IntKind.i64.wrap ((IntKind.i64.wrap ((code : Int) - hd.codes)).tdiv hd.range)))) (IntKind.i64.wrap (hd.base + (IntKind.i64.wrap ((code : Int) - hd.codes)).tmod hd.range))
    refine tell_spec (m := (({ m with s := s } : MS).by hd (IntKind.u64.wrap (IntKind.i64.wrap ((IntKind.i64.wrap ((code : Int) - hd.codes)).tdiv hd.range)))).line (IntKind.i64.wrap (hd.base + (IntKind.i64.wrap ((code : Int) - hd.codes)).tmod hd.range))) hlt0 (by rw [ho]; exact hout) (by rw [ho]; exact hk) (two_0 ..) (two_1 ..) ?_
    intro k' hk'
    ((try simp only [go_sem, ↓reduceIte, reduceCtorEq, Nat.reduceLT, Nat.reduceEqDiff, Nat.reduceBEq, Nat.reduceAdd, Nat.reduceMul, Nat.reduceSub, Nat.reduceLeDiff, Int.reduceNeg, Int.reduceLT, Int.reduceLE, Int.reduceEq, Int.reduceAdd, Int.reduceToNat]); repeat ((first | refine AW.seq ?_ | refine AW.region env_ok ?_ | refine AW.region envR_ok ?_ | refine AW.skip ?_ | refine AW.block ?_ | refine AW.exit ?_ | refine AW.ret ?_ | (refine AW.cond (b := true) ?_ ?_; simp only [ev, upd, ↓reduceIte, Nat.reduceEqDiff]; rw [if_pos rfl]) | (refine AW.cond (b := false) ?_ ?_; simp only [ev, upd, ↓reduceIte, Nat.reduceEqDiff]; rw [if_neg Bool.false_ne_true]) | fail) <;> try simp only [go_sem, ↓reduceIte, reduceCtorEq, Nat.reduceLT, Nat.reduceEqDiff, Nat.reduceBEq, Nat.reduceAdd, Nat.reduceMul, Nat.reduceSub, Nat.reduceLeDiff, Int.reduceNeg, Int.reduceLT, Int.reduceLE, Int.reduceEq, Int.reduceAdd, Int.reduceToNat]))
    exact .inl (h k' hk')
  rw [if_neg (by rintro ⟨c', _⟩; exact c c')] at h
  ((try simp only [go_sem, ↓reduceIte, reduceCtorEq, Nat.reduceLT, Nat.reduceEqDiff, Nat.reduceBEq, Nat.reduceAdd, Nat.reduceMul, Nat.reduceSub, Nat.reduceLeDiff, Int.reduceNeg, Int.reduceLT, Int.reduceLE, Int.reduceEq, Int.reduceAdd, Int.reduceToNat, ew0, c]); repeat ((first | refine AW.seq ?_ | refine AW.region env_ok ?_ | refine AW.region envR_ok ?_ | refine AW.skip ?_ | refine AW.block ?_ | refine AW.exit ?_ | refine AW.ret ?_ | (refine AW.cond (b := true) ?_ ?_; simp only [ev, upd, ↓reduceIte, Nat.reduceEqDiff]; rw [if_pos rfl]) | (refine AW.cond (b := false) ?_ ?_; simp only [ev, upd, ↓reduceIte, Nat.reduceEqDiff]; rw [if_neg Bool.false_ne_true]) | fail) <;> try simp only [go_sem, ↓reduceIte, reduceCtorEq, Nat.reduceLT, Nat.reduceEqDiff, Nat.reduceBEq, Nat.reduceAdd, Nat.reduceMul, Nat.reduceSub, Nat.reduceLeDiff, Int.reduceNeg, Int.reduceLT, Int.reduceLE, Int.reduceEq, Int.reduceAdd, Int.reduceToNat, ew0, c]))
  by_cases e0 : code = 0
  · subst e0
    ((try simp only [go_sem, ↓reduceIte, reduceCtorEq, Nat.reduceLT, Nat.reduceEqDiff, Nat.reduceBEq, Nat.reduceAdd, Nat.reduceMul, Nat.reduceSub, Nat.reduceLeDiff, Int.reduceNeg, Int.reduceLT, Int.reduceLE, Int.reduceEq, Int.reduceAdd, Int.reduceToNat]); repeat ((first | refine AW.seq ?_ | refine AW.region env_ok ?_ | refine AW.region envR_ok ?_ | refine AW.skip ?_ | refine AW.block ?_ | refine AW.exit ?_ | refine AW.ret ?_ | (refine AW.cond (b := true) ?_ ?_; simp only [ev, upd, ↓reduceIte, Nat.reduceEqDiff]; rw [if_pos rfl]) | (refine AW.cond (b := false) ?_ ?_; simp only [ev, upd, ↓reduceIte, Nat.reduceEqDiff]; rw [if_neg Bool.false_ne_true]) | fail) <;> try simp only [go_sem, ↓reduceIte, reduceCtorEq, Nat.reduceLT, Nat.reduceEqDiff, Nat.reduceBEq, Nat.reduceAdd, Nat.reduceMul, Nat.reduceSub, Nat.reduceLeDiff, Int.reduceNeg, Int.reduceLT, Int.reduceLE, Int.reduceEq, Int.reduceAdd, Int.reduceToNat]))
    refine rlong_spec (m := { m with s := s }) hst1 hbt hout hk ?_
    intro k' hk'
    ((try simp only [go_sem, ↓reduceIte, reduceCtorEq, Nat.reduceLT, Nat.reduceEqDiff, Nat.reduceBEq, Nat.reduceAdd, Nat.reduceMul, Nat.reduceSub, Nat.reduceLeDiff, Int.reduceNeg, Int.reduceLT, Int.reduceLE, Int.reduceEq, Int.reduceAdd, Int.reduceToNat]); repeat ((first | refine AW.seq ?_ | refine AW.region env_ok ?_ | refine AW.region envR_ok ?_ | refine AW.skip ?_ | refine AW.block ?_ | refine AW.exit ?_ | refine AW.ret ?_ | (refine AW.cond (b := true) ?_ ?_; simp only [ev, upd, ↓reduceIte, Nat.reduceEqDiff]; rw [if_pos rfl]) | (refine AW.cond (b := false) ?_ ?_; simp only [ev, upd, ↓reduceIte, Nat.reduceEqDiff]; rw [if_neg Bool.false_ne_true]) | fail) <;> try simp only [go_sem, ↓reduceIte, reduceCtorEq, Nat.reduceLT, Nat.reduceEqDiff, Nat.reduceBEq, Nat.reduceAdd, Nat.reduceMul, Nat.reduceSub, Nat.reduceLeDiff, Int.reduceNeg, Int.reduceLT, Int.reduceLE, Int.reduceEq, Int.reduceAdd, Int.reduceToNat]))
    exact .inl (h k' hk')
  by_cases e1 : code = 1
  · subst e1
    ((try simp only [go_sem, ↓reduceIte, reduceCtorEq, Nat.reduceLT, Nat.reduceEqDiff, Nat.reduceBEq, Nat.reduceAdd, Nat.reduceMul, Nat.reduceSub, Nat.reduceLeDiff, Int.reduceNeg, Int.reduceLT, Int.reduceLE, Int.reduceEq, Int.reduceAdd, Int.reduceToNat]); repeat ((first | refine AW.seq ?_ | refine AW.region env_ok ?_ | refine AW.region envR_ok ?_ | refine AW.skip ?_ | refine AW.block ?_ | refine AW.exit ?_ | refine AW.ret ?_ | (refine AW.cond (b := true) ?_ ?_; simp only [ev, upd, ↓reduceIte, Nat.reduceEqDiff]; rw [if_pos rfl]) | (refine AW.cond (b := false) ?_ ?_; simp only [ev, upd, ↓reduceIte, Nat.reduceEqDiff]; rw [if_neg Bool.false_ne_true]) | fail) <;> try simp only [go_sem, ↓reduceIte, reduceCtorEq, Nat.reduceLT, Nat.reduceEqDiff, Nat.reduceBEq, Nat.reduceAdd, Nat.reduceMul, Nat.reduceSub, Nat.reduceLeDiff, Int.reduceNeg, Int.reduceLT, Int.reduceLE, Int.reduceEq, Int.reduceAdd, Int.reduceToNat]))
    refine tell_spec (m := { m with s := s }) hlt0 hout hk (two_0 ..) (two_1 ..) ?_
    intro k' hk'
    ((try simp only [go_sem, ↓reduceIte, reduceCtorEq, Nat.reduceLT, Nat.reduceEqDiff, Nat.reduceBEq, Nat.reduceAdd, Nat.reduceMul, Nat.reduceSub, Nat.reduceLeDiff, Int.reduceNeg, Int.reduceLT, Int.reduceLE, Int.reduceEq, Int.reduceAdd, Int.reduceToNat]); repeat ((first | refine AW.seq ?_ | refine AW.region env_ok ?_ | refine AW.region envR_ok ?_ | refine AW.skip ?_ | refine AW.block ?_ | refine AW.exit ?_ | refine AW.ret ?_ | (refine AW.cond (b := true) ?_ ?_; simp only [ev, upd, ↓reduceIte, Nat.reduceEqDiff]; rw [if_pos rfl]) | (refine AW.cond (b := false) ?_ ?_; simp only [ev, upd, ↓reduceIte, Nat.reduceEqDiff]; rw [if_neg Bool.false_ne_true]) | fail) <;> try simp only [go_sem, ↓reduceIte, reduceCtorEq, Nat.reduceLT, Nat.reduceEqDiff, Nat.reduceBEq, Nat.reduceAdd, Nat.reduceMul, Nat.reduceSub, Nat.reduceLeDiff, Int.reduceNeg, Int.reduceLT, Int.reduceLE, Int.reduceEq, Int.reduceAdd, Int.reduceToNat]))
    exact .inl (h k' hk')
  by_cases e2 : code = 2
  · subst e2
    ((try simp only [go_sem, ↓reduceIte, reduceCtorEq, Nat.reduceLT, Nat.reduceEqDiff, Nat.reduceBEq, Nat.reduceAdd, Nat.reduceMul, Nat.reduceSub, Nat.reduceLeDiff, Int.reduceNeg, Int.reduceLT, Int.reduceLE, Int.reduceEq, Int.reduceAdd, Int.reduceToNat]); repeat ((first | refine AW.seq ?_ | refine AW.region env_ok ?_ | refine AW.region envR_ok ?_ | refine AW.skip ?_ | refine AW.block ?_ | refine AW.exit ?_ | refine AW.ret ?_ | (refine AW.cond (b := true) ?_ ?_; simp only [ev, upd, ↓reduceIte, Nat.reduceEqDiff]; rw [if_pos rfl]) | (refine AW.cond (b := false) ?_ ?_; simp only [ev, upd, ↓reduceIte, Nat.reduceEqDiff]; rw [if_neg Bool.false_ne_true]) | fail) <;> try simp only [go_sem, ↓reduceIte, reduceCtorEq, Nat.reduceLT, Nat.reduceEqDiff, Nat.reduceBEq, Nat.reduceAdd, Nat.reduceMul, Nat.reduceSub, Nat.reduceLeDiff, Int.reduceNeg, Int.reduceLT, Int.reduceLE, Int.reduceEq, Int.reduceAdd, Int.reduceToNat]))
    refine rU_spec hst1 (two_0 ..) ?_
    ((try simp only [go_sem, ↓reduceIte, reduceCtorEq, Nat.reduceLT, Nat.reduceEqDiff, Nat.reduceBEq, Nat.reduceAdd, Nat.reduceMul, Nat.reduceSub, Nat.reduceLeDiff, Int.reduceNeg, Int.reduceLT, Int.reduceLE, Int.reduceEq, Int.reduceAdd, Int.reduceToNat]); repeat ((first | refine AW.seq ?_ | refine AW.region env_ok ?_ | refine AW.region envR_ok ?_ | refine AW.skip ?_ | refine AW.block ?_ | refine AW.exit ?_ | refine AW.ret ?_ | (refine AW.cond (b := true) ?_ ?_; simp only [ev, upd, ↓reduceIte, Nat.reduceEqDiff]; rw [if_pos rfl]) | (refine AW.cond (b := false) ?_ ?_; simp only [ev, upd, ↓reduceIte, Nat.reduceEqDiff]; rw [if_neg Bool.false_ne_true]) | fail) <;> try simp only [go_sem, ↓reduceIte, reduceCtorEq, Nat.reduceLT, Nat.reduceEqDiff, Nat.reduceBEq, Nat.reduceAdd, Nat.reduceMul, Nat.reduceSub, Nat.reduceLeDiff, Int.reduceNeg, Int.reduceLT, Int.reduceLE, Int.reduceEq, Int.reduceAdd, Int.reduceToNat]))
    refine move_spec (m := { m with s := s.uleb.2 }) (k := k) (two_1 ..) ?_
    ((try simp only [go_sem, ↓reduceIte, reduceCtorEq, Nat.reduceLT, Nat.reduceEqDiff, Nat.reduceBEq, Nat.reduceAdd, Nat.reduceMul, Nat.reduceSub, Nat.reduceLeDiff, Int.reduceNeg, Int.reduceLT, Int.reduceLE, Int.reduceEq, Int.reduceAdd, Int.reduceToNat]); repeat ((first | refine AW.seq ?_ | refine AW.region env_ok ?_ | refine AW.region envR_ok ?_ | refine AW.skip ?_ | refine AW.block ?_ | refine AW.exit ?_ | refine AW.ret ?_ | (refine AW.cond (b := true) ?_ ?_; simp only [ev, upd, ↓reduceIte, Nat.reduceEqDiff]; rw [if_pos rfl]) | (refine AW.cond (b := false) ?_ ?_; simp only [ev, upd, ↓reduceIte, Nat.reduceEqDiff]; rw [if_neg Bool.false_ne_true]) | fail) <;> try simp only [go_sem, ↓reduceIte, reduceCtorEq, Nat.reduceLT, Nat.reduceEqDiff, Nat.reduceBEq, Nat.reduceAdd, Nat.reduceMul, Nat.reduceSub, Nat.reduceLeDiff, Int.reduceNeg, Int.reduceLT, Int.reduceLE, Int.reduceEq, Int.reduceAdd, Int.reduceToNat]))
    exact .inl (h k hk)
  by_cases e3 : code = 3
  · subst e3
    ((try simp only [go_sem, ↓reduceIte, reduceCtorEq, Nat.reduceLT, Nat.reduceEqDiff, Nat.reduceBEq, Nat.reduceAdd, Nat.reduceMul, Nat.reduceSub, Nat.reduceLeDiff, Int.reduceNeg, Int.reduceLT, Int.reduceLE, Int.reduceEq, Int.reduceAdd, Int.reduceToNat]); repeat ((first | refine AW.seq ?_ | refine AW.region env_ok ?_ | refine AW.region envR_ok ?_ | refine AW.skip ?_ | refine AW.block ?_ | refine AW.exit ?_ | refine AW.ret ?_ | (refine AW.cond (b := true) ?_ ?_; simp only [ev, upd, ↓reduceIte, Nat.reduceEqDiff]; rw [if_pos rfl]) | (refine AW.cond (b := false) ?_ ?_; simp only [ev, upd, ↓reduceIte, Nat.reduceEqDiff]; rw [if_neg Bool.false_ne_true]) | fail) <;> try simp only [go_sem, ↓reduceIte, reduceCtorEq, Nat.reduceLT, Nat.reduceEqDiff, Nat.reduceBEq, Nat.reduceAdd, Nat.reduceMul, Nat.reduceSub, Nat.reduceLeDiff, Int.reduceNeg, Int.reduceLT, Int.reduceLE, Int.reduceEq, Int.reduceAdd, Int.reduceToNat]))
    refine rS_spec hst1 (two_0 ..) ?_
    ((try simp only [go_sem, ↓reduceIte, reduceCtorEq, Nat.reduceLT, Nat.reduceEqDiff, Nat.reduceBEq, Nat.reduceAdd, Nat.reduceMul, Nat.reduceSub, Nat.reduceLeDiff, Int.reduceNeg, Int.reduceLT, Int.reduceLE, Int.reduceEq, Int.reduceAdd, Int.reduceToNat]); repeat ((first | refine AW.seq ?_ | refine AW.region env_ok ?_ | refine AW.region envR_ok ?_ | refine AW.skip ?_ | refine AW.block ?_ | refine AW.exit ?_ | refine AW.ret ?_ | (refine AW.cond (b := true) ?_ ?_; simp only [ev, upd, ↓reduceIte, Nat.reduceEqDiff]; rw [if_pos rfl]) | (refine AW.cond (b := false) ?_ ?_; simp only [ev, upd, ↓reduceIte, Nat.reduceEqDiff]; rw [if_neg Bool.false_ne_true]) | fail) <;> try simp only [go_sem, ↓reduceIte, reduceCtorEq, Nat.reduceLT, Nat.reduceEqDiff, Nat.reduceBEq, Nat.reduceAdd, Nat.reduceMul, Nat.reduceSub, Nat.reduceLeDiff, Int.reduceNeg, Int.reduceLT, Int.reduceLE, Int.reduceEq, Int.reduceAdd, Int.reduceToNat]))
    refine lines_spec (m := { m with s := s.sleb.2 }) (k := k) hlt0 (two_0 ..) (two_1 ..) ?_
    ((try simp only [go_sem, ↓reduceIte, reduceCtorEq, Nat.reduceLT, Nat.reduceEqDiff, Nat.reduceBEq, Nat.reduceAdd, Nat.reduceMul, Nat.reduceSub, Nat.reduceLeDiff, Int.reduceNeg, Int.reduceLT, Int.reduceLE, Int.reduceEq, Int.reduceAdd, Int.reduceToNat]); repeat ((first | refine AW.seq ?_ | refine AW.region env_ok ?_ | refine AW.region envR_ok ?_ | refine AW.skip ?_ | refine AW.block ?_ | refine AW.exit ?_ | refine AW.ret ?_ | (refine AW.cond (b := true) ?_ ?_; simp only [ev, upd, ↓reduceIte, Nat.reduceEqDiff]; rw [if_pos rfl]) | (refine AW.cond (b := false) ?_ ?_; simp only [ev, upd, ↓reduceIte, Nat.reduceEqDiff]; rw [if_neg Bool.false_ne_true]) | fail) <;> try simp only [go_sem, ↓reduceIte, reduceCtorEq, Nat.reduceLT, Nat.reduceEqDiff, Nat.reduceBEq, Nat.reduceAdd, Nat.reduceMul, Nat.reduceSub, Nat.reduceLeDiff, Int.reduceNeg, Int.reduceLT, Int.reduceLE, Int.reduceEq, Int.reduceAdd, Int.reduceToNat]))
    exact .inl (h k (by show k ≤ (MS.line _ _).out.length; rw [MS.line_out]; exact hk))
  by_cases e4 : code = 4
  · subst e4
    ((try simp only [go_sem, ↓reduceIte, reduceCtorEq, Nat.reduceLT, Nat.reduceEqDiff, Nat.reduceBEq, Nat.reduceAdd, Nat.reduceMul, Nat.reduceSub, Nat.reduceLeDiff, Int.reduceNeg, Int.reduceLT, Int.reduceLE, Int.reduceEq, Int.reduceAdd, Int.reduceToNat]); repeat ((first | refine AW.seq ?_ | refine AW.region env_ok ?_ | refine AW.region envR_ok ?_ | refine AW.skip ?_ | refine AW.block ?_ | refine AW.exit ?_ | refine AW.ret ?_ | (refine AW.cond (b := true) ?_ ?_; simp only [ev, upd, ↓reduceIte, Nat.reduceEqDiff]; rw [if_pos rfl]) | (refine AW.cond (b := false) ?_ ?_; simp only [ev, upd, ↓reduceIte, Nat.reduceEqDiff]; rw [if_neg Bool.false_ne_true]) | fail) <;> try simp only [go_sem, ↓reduceIte, reduceCtorEq, Nat.reduceLT, Nat.reduceEqDiff, Nat.reduceBEq, Nat.reduceAdd, Nat.reduceMul, Nat.reduceSub, Nat.reduceLeDiff, Int.reduceNeg, Int.reduceLT, Int.reduceLE, Int.reduceEq, Int.reduceAdd, Int.reduceToNat]))
    refine plain_spec (m := { m with s := s }) hst1 ?_
    ((try simp only [go_sem, ↓reduceIte, reduceCtorEq, Nat.reduceLT, Nat.reduceEqDiff, Nat.reduceBEq, Nat.reduceAdd, Nat.reduceMul, Nat.reduceSub, Nat.reduceLeDiff, Int.reduceNeg, Int.reduceLT, Int.reduceLE, Int.reduceEq, Int.reduceAdd, Int.reduceToNat]); repeat ((first | refine AW.seq ?_ | refine AW.region env_ok ?_ | refine AW.region envR_ok ?_ | refine AW.skip ?_ | refine AW.block ?_ | refine AW.exit ?_ | refine AW.ret ?_ | (refine AW.cond (b := true) ?_ ?_; simp only [ev, upd, ↓reduceIte, Nat.reduceEqDiff]; rw [if_pos rfl]) | (refine AW.cond (b := false) ?_ ?_; simp only [ev, upd, ↓reduceIte, Nat.reduceEqDiff]; rw [if_neg Bool.false_ne_true]) | fail) <;> try simp only [go_sem, ↓reduceIte, reduceCtorEq, Nat.reduceLT, Nat.reduceEqDiff, Nat.reduceBEq, Nat.reduceAdd, Nat.reduceMul, Nat.reduceSub, Nat.reduceLeDiff, Int.reduceNeg, Int.reduceLT, Int.reduceLE, Int.reduceEq, Int.reduceAdd, Int.reduceToNat]))
    exact .inl (h k hk)
  by_cases e5 : code = 5
  · subst e5
    ((try simp only [go_sem, ↓reduceIte, reduceCtorEq, Nat.reduceLT, Nat.reduceEqDiff, Nat.reduceBEq, Nat.reduceAdd, Nat.reduceMul, Nat.reduceSub, Nat.reduceLeDiff, Int.reduceNeg, Int.reduceLT, Int.reduceLE, Int.reduceEq, Int.reduceAdd, Int.reduceToNat]); repeat ((first | refine AW.seq ?_ | refine AW.region env_ok ?_ | refine AW.region envR_ok ?_ | refine AW.skip ?_ | refine AW.block ?_ | refine AW.exit ?_ | refine AW.ret ?_ | (refine AW.cond (b := true) ?_ ?_; simp only [ev, upd, ↓reduceIte, Nat.reduceEqDiff]; rw [if_pos rfl]) | (refine AW.cond (b := false) ?_ ?_; simp only [ev, upd, ↓reduceIte, Nat.reduceEqDiff]; rw [if_neg Bool.false_ne_true]) | fail) <;> try simp only [go_sem, ↓reduceIte, reduceCtorEq, Nat.reduceLT, Nat.reduceEqDiff, Nat.reduceBEq, Nat.reduceAdd, Nat.reduceMul, Nat.reduceSub, Nat.reduceLeDiff, Int.reduceNeg, Int.reduceLT, Int.reduceLE, Int.reduceEq, Int.reduceAdd, Int.reduceToNat]))
    refine plain_spec (m := { m with s := s }) hst1 ?_
    ((try simp only [go_sem, ↓reduceIte, reduceCtorEq, Nat.reduceLT, Nat.reduceEqDiff, Nat.reduceBEq, Nat.reduceAdd, Nat.reduceMul, Nat.reduceSub, Nat.reduceLeDiff, Int.reduceNeg, Int.reduceLT, Int.reduceLE, Int.reduceEq, Int.reduceAdd, Int.reduceToNat]); repeat ((first | refine AW.seq ?_ | refine AW.region env_ok ?_ | refine AW.region envR_ok ?_ | refine AW.skip ?_ | refine AW.block ?_ | refine AW.exit ?_ | refine AW.ret ?_ | (refine AW.cond (b := true) ?_ ?_; simp only [ev, upd, ↓reduceIte, Nat.reduceEqDiff]; rw [if_pos rfl]) | (refine AW.cond (b := false) ?_ ?_; simp only [ev, upd, ↓reduceIte, Nat.reduceEqDiff]; rw [if_neg Bool.false_ne_true]) | fail) <;> try simp only [go_sem, ↓reduceIte, reduceCtorEq, Nat.reduceLT, Nat.reduceEqDiff, Nat.reduceBEq, Nat.reduceAdd, Nat.reduceMul, Nat.reduceSub, Nat.reduceLeDiff, Int.reduceNeg, Int.reduceLT, Int.reduceLE, Int.reduceEq, Int.reduceAdd, Int.reduceToNat]))
    exact .inl (h k hk)
  by_cases e6 : code = 6
  · subst e6
    ((try simp only [go_sem, ↓reduceIte, reduceCtorEq, Nat.reduceLT, Nat.reduceEqDiff, Nat.reduceBEq, Nat.reduceAdd, Nat.reduceMul, Nat.reduceSub, Nat.reduceLeDiff, Int.reduceNeg, Int.reduceLT, Int.reduceLE, Int.reduceEq, Int.reduceAdd, Int.reduceToNat]); repeat ((first | refine AW.seq ?_ | refine AW.region env_ok ?_ | refine AW.region envR_ok ?_ | refine AW.skip ?_ | refine AW.block ?_ | refine AW.exit ?_ | refine AW.ret ?_ | (refine AW.cond (b := true) ?_ ?_; simp only [ev, upd, ↓reduceIte, Nat.reduceEqDiff]; rw [if_pos rfl]) | (refine AW.cond (b := false) ?_ ?_; simp only [ev, upd, ↓reduceIte, Nat.reduceEqDiff]; rw [if_neg Bool.false_ne_true]) | fail) <;> try simp only [go_sem, ↓reduceIte, reduceCtorEq, Nat.reduceLT, Nat.reduceEqDiff, Nat.reduceBEq, Nat.reduceAdd, Nat.reduceMul, Nat.reduceSub, Nat.reduceLeDiff, Int.reduceNeg, Int.reduceLT, Int.reduceLE, Int.reduceEq, Int.reduceAdd, Int.reduceToNat]))
    exact .inl (h k hk)
  by_cases e8 : code = 8
  · subst e8
    ((try simp only [go_sem, ↓reduceIte, reduceCtorEq, Nat.reduceLT, Nat.reduceEqDiff, Nat.reduceBEq, Nat.reduceAdd, Nat.reduceMul, Nat.reduceSub, Nat.reduceLeDiff, Int.reduceNeg, Int.reduceLT, Int.reduceLE, Int.reduceEq, Int.reduceAdd, Int.reduceToNat]); repeat ((first | refine AW.seq ?_ | refine AW.region env_ok ?_ | refine AW.region envR_ok ?_ | refine AW.skip ?_ | refine AW.block ?_ | refine AW.exit ?_ | refine AW.ret ?_ | (refine AW.cond (b := true) ?_ ?_; simp only [ev, upd, ↓reduceIte, Nat.reduceEqDiff]; rw [if_pos rfl]) | (refine AW.cond (b := false) ?_ ?_; simp only [ev, upd, ↓reduceIte, Nat.reduceEqDiff]; rw [if_neg Bool.false_ne_true]) | fail) <;> try simp only [go_sem, ↓reduceIte, reduceCtorEq, Nat.reduceLT, Nat.reduceEqDiff, Nat.reduceBEq, Nat.reduceAdd, Nat.reduceMul, Nat.reduceSub, Nat.reduceLeDiff, Int.reduceNeg, Int.reduceLT, Int.reduceLE, Int.reduceEq, Int.reduceAdd, Int.reduceToNat]))
    refine AW.chain env_ok [0, 0, 2, 6, 14, 30, 62, 0, 128, 384, 896, 1920, 4094, 8190, 16383] [0, 1, 2, 3, 4, 5, 6, 7, 8, 9, 10, 11, 12, 13] [(14, [], [])] mixed (by decide) ?_
    ((try simp only [go_sem, ↓reduceIte, reduceCtorEq, Nat.reduceLT, Nat.reduceEqDiff, Nat.reduceBEq, Nat.reduceAdd, Nat.reduceMul, Nat.reduceSub, Nat.reduceLeDiff, Int.reduceNeg, Int.reduceLT, Int.reduceLE, Int.reduceEq, Int.reduceAdd, Int.reduceToNat, hrange]); repeat ((first | refine AW.seq ?_ | refine AW.region env_ok ?_ | refine AW.region envR_ok ?_ | refine AW.skip ?_ | refine AW.block ?_ | refine AW.exit ?_ | refine AW.ret ?_ | (refine AW.cond (b := true) ?_ ?_; simp only [ev, upd, ↓reduceIte, Nat.reduceEqDiff]; rw [if_pos rfl]) | (refine AW.cond (b := false) ?_ ?_; simp only [ev, upd, ↓reduceIte, Nat.reduceEqDiff]; rw [if_neg Bool.false_ne_true]) | fail) <;> try simp only [go_sem, ↓reduceIte, reduceCtorEq, Nat.reduceLT, Nat.reduceEqDiff, Nat.reduceBEq, Nat.reduceAdd, Nat.reduceMul, Nat.reduceSub, Nat.reduceLeDiff, Int.reduceNeg, Int.reduceLT, Int.reduceLE, Int.reduceEq, Int.reduceAdd, Int.reduceToNat, hrange]))
    refine move_spec (m := { m with s := s }) (k := k) (two_1 ..) ?_
    ((try simp only [go_sem, ↓reduceIte, reduceCtorEq, Nat.reduceLT, Nat.reduceEqDiff, Nat.reduceBEq, Nat.reduceAdd, Nat.reduceMul, Nat.reduceSub, Nat.reduceLeDiff, Int.reduceNeg, Int.reduceLT, Int.reduceLE, Int.reduceEq, Int.reduceAdd, Int.reduceToNat]); repeat ((first | refine AW.seq ?_ | refine AW.region env_ok ?_ | refine AW.region envR_ok ?_ | refine AW.skip ?_ | refine AW.block ?_ | refine AW.exit ?_ | refine AW.ret ?_ | (refine AW.cond (b := true) ?_ ?_; simp only [ev, upd, ↓reduceIte, Nat.reduceEqDiff]; rw [if_pos rfl]) | (refine AW.cond (b := false) ?_ ?_; simp only [ev, upd, ↓reduceIte, Nat.reduceEqDiff]; rw [if_neg Bool.false_ne_true]) | fail) <;> try simp only [go_sem, ↓reduceIte, reduceCtorEq, Nat.reduceLT, Nat.reduceEqDiff, Nat.reduceBEq, Nat.reduceAdd, Nat.reduceMul, Nat.reduceSub, Nat.reduceLeDiff, Int.reduceNeg, Int.reduceLT, Int.reduceLE, Int.reduceEq, Int.reduceAdd, Int.reduceToNat]))
    exact .inl (h k hk)
  by_cases e9 : code = 9
  · subst e9
    ((try simp only [go_sem, ↓reduceIte, reduceCtorEq, Nat.reduceLT, Nat.reduceEqDiff, Nat.reduceBEq, Nat.reduceAdd, Nat.reduceMul, Nat.reduceSub, Nat.reduceLeDiff, Int.reduceNeg, Int.reduceLT, Int.reduceLE, Int.reduceEq, Int.reduceAdd, Int.reduceToNat]); repeat ((first | refine AW.seq ?_ | refine AW.region env_ok ?_ | refine AW.region envR_ok ?_ | refine AW.skip ?_ | refine AW.block ?_ | refine AW.exit ?_ | refine AW.ret ?_ | (refine AW.cond (b := true) ?_ ?_; simp only [ev, upd, ↓reduceIte, Nat.reduceEqDiff]; rw [if_pos rfl]) | (refine AW.cond (b := false) ?_ ?_; simp only [ev, upd, ↓reduceIte, Nat.reduceEqDiff]; rw [if_neg Bool.false_ne_true]) | fail) <;> try simp only [go_sem, ↓reduceIte, reduceCtorEq, Nat.reduceLT, Nat.reduceEqDiff, Nat.reduceBEq, Nat.reduceAdd, Nat.reduceMul, Nat.reduceSub, Nat.reduceLeDiff, Int.reduceNeg, Int.reduceLT, Int.reduceLE, Int.reduceEq, Int.reduceAdd, Int.reduceToNat]))
    refine AW.chain env_ok [0, 0, 2, 6, 14, 30, 0, 64, 192, 448, 960, 2046, 4095, 8191, 16383, 32767] [0, 1, 2, 3, 4, 5, 6, 7, 8, 9] [(10, [0, 1, 2, 3, 4, 5], [11, 12, 13, 14]), (15, [], [])] mixed (by decide) ?_
    ((try simp only [go_sem, ↓reduceIte, reduceCtorEq, Nat.reduceLT, Nat.reduceEqDiff, Nat.reduceBEq, Nat.reduceAdd, Nat.reduceMul, Nat.reduceSub, Nat.reduceLeDiff, Int.reduceNeg, Int.reduceLT, Int.reduceLE, Int.reduceEq, Int.reduceAdd, Int.reduceToNat]); repeat ((first | refine AW.seq ?_ | refine AW.region env_ok ?_ | refine AW.region envR_ok ?_ | refine AW.skip ?_ | refine AW.block ?_ | refine AW.exit ?_ | refine AW.ret ?_ | (refine AW.cond (b := true) ?_ ?_; simp only [ev, upd, ↓reduceIte, Nat.reduceEqDiff]; rw [if_pos rfl]) | (refine AW.cond (b := false) ?_ ?_; simp only [ev, upd, ↓reduceIte, Nat.reduceEqDiff]; rw [if_neg Bool.false_ne_true]) | fail) <;> try simp only [go_sem, ↓reduceIte, reduceCtorEq, Nat.reduceLT, Nat.reduceEqDiff, Nat.reduceBEq, Nat.reduceAdd, Nat.reduceMul, Nat.reduceSub, Nat.reduceLeDiff, Int.reduceNeg, Int.reduceLT, Int.reduceLE, Int.reduceEq, Int.reduceAdd, Int.reduceToNat]))
    refine rUint_spec hst1 (two_0 ..) ?_
    rw [show (min (max (2 : Int) 0) 8).toNat = 2 from rfl]
    ((try simp only [go_sem, ↓reduceIte, reduceCtorEq, Nat.reduceLT, Nat.reduceEqDiff, Nat.reduceBEq, Nat.reduceAdd, Nat.reduceMul, Nat.reduceSub, Nat.reduceLeDiff, Int.reduceNeg, Int.reduceLT, Int.reduceLE, Int.reduceEq, Int.reduceAdd, Int.reduceToNat]); repeat ((first | refine AW.seq ?_ | refine AW.region env_ok ?_ | refine AW.region envR_ok ?_ | refine AW.skip ?_ | refine AW.block ?_ | refine AW.exit ?_ | refine AW.ret ?_ | (refine AW.cond (b := true) ?_ ?_; simp only [ev, upd, ↓reduceIte, Nat.reduceEqDiff]; rw [if_pos rfl]) | (refine AW.cond (b := false) ?_ ?_; simp only [ev, upd, ↓reduceIte, Nat.reduceEqDiff]; rw [if_neg Bool.false_ne_true]) | fail) <;> try simp only [go_sem, ↓reduceIte, reduceCtorEq, Nat.reduceLT, Nat.reduceEqDiff, Nat.reduceBEq, Nat.reduceAdd, Nat.reduceMul, Nat.reduceSub, Nat.reduceLeDiff, Int.reduceNeg, Int.reduceLT, Int.reduceLE, Int.reduceEq, Int.reduceAdd, Int.reduceToNat]))
    exact .inl (h k hk)
  by_cases e12 : code = 12
  · subst e12
    ((try simp only [go_sem, ↓reduceIte, reduceCtorEq, Nat.reduceLT, Nat.reduceEqDiff, Nat.reduceBEq, Nat.reduceAdd, Nat.reduceMul, Nat.reduceSub, Nat.reduceLeDiff, Int.reduceNeg, Int.reduceLT, Int.reduceLE, Int.reduceEq, Int.reduceAdd, Int.reduceToNat]); repeat ((first | refine AW.seq ?_ | refine AW.region env_ok ?_ | refine AW.region envR_ok ?_ | refine AW.skip ?_ | refine AW.block ?_ | refine AW.exit ?_ | refine AW.ret ?_ | (refine AW.cond (b := true) ?_ ?_; simp only [ev, upd, ↓reduceIte, Nat.reduceEqDiff]; rw [if_pos rfl]) | (refine AW.cond (b := false) ?_ ?_; simp only [ev, upd, ↓reduceIte, Nat.reduceEqDiff]; rw [if_neg Bool.false_ne_true]) | fail) <;> try simp only [go_sem, ↓reduceIte, reduceCtorEq, Nat.reduceLT, Nat.reduceEqDiff, Nat.reduceBEq, Nat.reduceAdd, Nat.reduceMul, Nat.reduceSub, Nat.reduceLeDiff, Int.reduceNeg, Int.reduceLT, Int.reduceLE, Int.reduceEq, Int.reduceAdd, Int.reduceToNat]))
    refine rU_spec hst1 (two_0 ..) ?_
    ((try simp only [go_sem, ↓reduceIte, reduceCtorEq, Nat.reduceLT, Nat.reduceEqDiff, Nat.reduceBEq, Nat.reduceAdd, Nat.reduceMul, Nat.reduceSub, Nat.reduceLeDiff, Int.reduceNeg, Int.reduceLT, Int.reduceLE, Int.reduceEq, Int.reduceAdd, Int.reduceToNat]); repeat ((first | refine AW.seq ?_ | refine AW.region env_ok ?_ | refine AW.region envR_ok ?_ | refine AW.skip ?_ | refine AW.block ?_ | refine AW.exit ?_ | refine AW.ret ?_ | (refine AW.cond (b := true) ?_ ?_; simp only [ev, upd, ↓reduceIte, Nat.reduceEqDiff]; rw [if_pos rfl]) | (refine AW.cond (b := false) ?_ ?_; simp only [ev, upd, ↓reduceIte, Nat.reduceEqDiff]; rw [if_neg Bool.false_ne_true]) | fail) <;> try simp only [go_sem, ↓reduceIte, reduceCtorEq, Nat.reduceLT, Nat.reduceEqDiff, Nat.reduceBEq, Nat.reduceAdd, Nat.reduceMul, Nat.reduceSub, Nat.reduceLeDiff, Int.reduceNeg, Int.reduceLT, Int.reduceLE, Int.reduceEq, Int.reduceAdd, Int.reduceToNat]))
    exact .inl (h k hk)
  by_cases e11 : code = 11
  · subst e11
    ((try simp only [go_sem, ↓reduceIte, reduceCtorEq, Nat.reduceLT, Nat.reduceEqDiff, Nat.reduceBEq, Nat.reduceAdd, Nat.reduceMul, Nat.reduceSub, Nat.reduceLeDiff, Int.reduceNeg, Int.reduceLT, Int.reduceLE, Int.reduceEq, Int.reduceAdd, Int.reduceToNat]); repeat ((first | refine AW.seq ?_ | refine AW.region env_ok ?_ | refine AW.region envR_ok ?_ | refine AW.skip ?_ | refine AW.block ?_ | refine AW.exit ?_ | refine AW.ret ?_ | (refine AW.cond (b := true) ?_ ?_; simp only [ev, upd, ↓reduceIte, Nat.reduceEqDiff]; rw [if_pos rfl]) | (refine AW.cond (b := false) ?_ ?_; simp only [ev, upd, ↓reduceIte, Nat.reduceEqDiff]; rw [if_neg Bool.false_ne_true]) | fail) <;> try simp only [go_sem, ↓reduceIte, reduceCtorEq, Nat.reduceLT, Nat.reduceEqDiff, Nat.reduceBEq, Nat.reduceAdd, Nat.reduceMul, Nat.reduceSub, Nat.reduceLeDiff, Int.reduceNeg, Int.reduceLT, Int.reduceLE, Int.reduceEq, Int.reduceAdd, Int.reduceToNat]))
    exact .inl (h k hk)
  by_cases e10 : code = 10
  · subst e10
    ((try simp only [go_sem, ↓reduceIte, reduceCtorEq, Nat.reduceLT, Nat.reduceEqDiff, Nat.reduceBEq, Nat.reduceAdd, Nat.reduceMul, Nat.reduceSub, Nat.reduceLeDiff, Int.reduceNeg, Int.reduceLT, Int.reduceLE, Int.reduceEq, Int.reduceAdd, Int.reduceToNat]); repeat ((first | refine AW.seq ?_ | refine AW.region env_ok ?_ | refine AW.region envR_ok ?_ | refine AW.skip ?_ | refine AW.block ?_ | refine AW.exit ?_ | refine AW.ret ?_ | (refine AW.cond (b := true) ?_ ?_; simp only [ev, upd, ↓reduceIte, Nat.reduceEqDiff]; rw [if_pos rfl]) | (refine AW.cond (b := false) ?_ ?_; simp only [ev, upd, ↓reduceIte, Nat.reduceEqDiff]; rw [if_neg Bool.false_ne_true]) | fail) <;> try simp only [go_sem, ↓reduceIte, reduceCtorEq, Nat.reduceLT, Nat.reduceEqDiff, Nat.reduceBEq, Nat.reduceAdd, Nat.reduceMul, Nat.reduceSub, Nat.reduceLeDiff, Int.reduceNeg, Int.reduceLT, Int.reduceLE, Int.reduceEq, Int.reduceAdd, Int.reduceToNat]))
    exact .inl (h k hk)
  by_cases e7 : code = 7
  · subst e7
    ((try simp only [go_sem, ↓reduceIte, reduceCtorEq, Nat.reduceLT, Nat.reduceEqDiff, Nat.reduceBEq, Nat.reduceAdd, Nat.reduceMul, Nat.reduceSub, Nat.reduceLeDiff, Int.reduceNeg, Int.reduceLT, Int.reduceLE, Int.reduceEq, Int.reduceAdd, Int.reduceToNat]); repeat ((first | refine AW.seq ?_ | refine AW.region env_ok ?_ | refine AW.region envR_ok ?_ | refine AW.skip ?_ | refine AW.block ?_ | refine AW.exit ?_ | refine AW.ret ?_ | (refine AW.cond (b := true) ?_ ?_; simp only [ev, upd, ↓reduceIte, Nat.reduceEqDiff]; rw [if_pos rfl]) | (refine AW.cond (b := false) ?_ ?_; simp only [ev, upd, ↓reduceIte, Nat.reduceEqDiff]; rw [if_neg Bool.false_ne_true]) | fail) <;> try simp only [go_sem, ↓reduceIte, reduceCtorEq, Nat.reduceLT, Nat.reduceEqDiff, Nat.reduceBEq, Nat.reduceAdd, Nat.reduceMul, Nat.reduceSub, Nat.reduceLeDiff, Int.reduceNeg, Int.reduceLT, Int.reduceLE, Int.reduceEq, Int.reduceAdd, Int.reduceToNat]))
    exact .inl (h k hk)
  have f0 : ¬ (code : Int) = 0 := by omega
  have f1 : ¬ (code : Int) = 1 := by omega
  have f2 : ¬ (code : Int) = 2 := by omega
  have f3 : ¬ (code : Int) = 3 := by omega
  have f4 : ¬ (code : Int) = 4 := by omega
  have f5 : ¬ (code : Int) = 5 := by omega
  have f6 : ¬ (code : Int) = 6 := by omega
  have f7 : ¬ (code : Int) = 7 := by omega
  have f8 : ¬ (code : Int) = 8 := by omega
  have f9 : ¬ (code : Int) = 9 := by omega
  have f10 : ¬ (code : Int) = 10 := by omega
  have f11 : ¬ (code : Int) = 11 := by omega
  have f12 : ¬ (code : Int) = 12 := by omega
  have hcl : code - 1 < hd.lens.length := by omega
  have ew : IntKind.i64.wrap ((code : Int) - 1) = ((code - 1 : Nat) : Int) := by rw [IntWalk.i64_in _ (by omega)]; omega
  have hb1 : (0 : Int) ≤ ((code - 1 : Nat) : Int) ∧ ((code - 1 : Nat) : Int) < hd.lens.length := by omega
  have hx := hR.2.1 (code - 1) _ (List.getElem?_eq_getElem hcl)
  have hst : ({ m with s := s } : MS).standard hd code = { m with s := ulebs (hd.lens[code - 1]).toNat s } := by
    obtain ⟨cc, rfl⟩ : ∃ cc, code = cc + 13 := ⟨code - 13, by omega⟩
    show ({ m with s := ulebs (hd.lens.getD (cc + 13 - 1) 0).toNat s } : MS) = _
    rw [List.getD_eq_getElem?_getD, List.getElem?_eq_getElem hcl]
    rfl
  rw [hst] at h
  ((try simp only [go_sem, ↓reduceIte, reduceCtorEq, Nat.reduceLT, Nat.reduceEqDiff, Nat.reduceBEq, Nat.reduceAdd, Nat.reduceMul, Nat.reduceSub, Nat.reduceLeDiff, Int.reduceNeg, Int.reduceLT, Int.reduceLE, Int.reduceEq, Int.reduceAdd, Int.reduceToNat, f0, f1, f2, f3, f4, f5, f6, f7, f8, f9, f10, f11, f12, ew, hb1, iA_at _ _ _ hcl]); repeat ((first | refine AW.seq ?_ | refine AW.region env_ok ?_ | refine AW.region envR_ok ?_ | refine AW.skip ?_ | refine AW.block ?_ | refine AW.exit ?_ | refine AW.ret ?_ | (refine AW.cond (b := true) ?_ ?_; simp only [ev, upd, ↓reduceIte, Nat.reduceEqDiff]; rw [if_pos rfl]) | (refine AW.cond (b := false) ?_ ?_; simp only [ev, upd, ↓reduceIte, Nat.reduceEqDiff]; rw [if_neg Bool.false_ne_true]) | fail) <;> try simp only [go_sem, ↓reduceIte, reduceCtorEq, Nat.reduceLT, Nat.reduceEqDiff, Nat.reduceBEq, Nat.reduceAdd, Nat.reduceMul, Nat.reduceSub, Nat.reduceLeDiff, Int.reduceNeg, Int.reduceLT, Int.reduceLE, Int.reduceEq, Int.reduceAdd, Int.reduceToNat, f0, f1, f2, f3, f4, f5, f6, f7, f8, f9, f10, f11, f12, ew, hb1, iA_at _ _ _ hcl]))
  refine AW.loop (fun st => ∃ (j : Nat) (s' : CS), j ≤ (hd.lens[code - 1]).toNat ∧ s'.Ok ∧ ulebs ((hd.lens[code - 1]).toNat - j) s' = ulebs (hd.lens[code - 1]).toNat s ∧ st.σ 4 = .int .i64 j ∧ st.σ 2 = .int .i64 code ∧
      st.σ 0 = .ptr (some (H.length + 1, 0)) ∧ st.H = H ++ [.cells s'.ref, .cells (mcells hd H.length m.row (.sl (rA m.out) (some k) ()))])
    (fun st => match st.σ 4 with | .int _ i => (hd.lens[code - 1]).toNat - i.toNat | _ => 0) ⟨0, s, by omega, hst1, by simp, rfl, rfl, rfl, rfl⟩ ?_
  rintro ⟨σ, H2⟩ ⟨j, s', hj, hs', hu, h4, h2, hp, rfl⟩
  simp only at h4 h2 hp
  by_cases e : (j : Int) < hd.lens[code - 1]
  · have ew2 : IntKind.i64.wrap ((j : Int) + 1) = ((j + 1 : Nat) : Int) := IntWalk.i64_in _ (by omega)
    ((try simp only [go_sem, ↓reduceIte, reduceCtorEq, Nat.reduceLT, Nat.reduceEqDiff, Nat.reduceBEq, Nat.reduceAdd, Nat.reduceMul, Nat.reduceSub, Nat.reduceLeDiff, Int.reduceNeg, Int.reduceLT, Int.reduceLE, Int.reduceEq, Int.reduceAdd, Int.reduceToNat, h4, h2, hp, e, ew, hb1, iA_at _ _ _ hcl]); repeat ((first | refine AW.seq ?_ | refine AW.region env_ok ?_ | refine AW.region envR_ok ?_ | refine AW.skip ?_ | refine AW.block ?_ | refine AW.exit ?_ | refine AW.ret ?_ | (refine AW.cond (b := true) ?_ ?_; simp only [ev, upd, ↓reduceIte, Nat.reduceEqDiff]; rw [if_pos rfl]) | (refine AW.cond (b := false) ?_ ?_; simp only [ev, upd, ↓reduceIte, Nat.reduceEqDiff]; rw [if_neg Bool.false_ne_true]) | fail) <;> try simp only [go_sem, ↓reduceIte, reduceCtorEq, Nat.reduceLT, Nat.reduceEqDiff, Nat.reduceBEq, Nat.reduceAdd, Nat.reduceMul, Nat.reduceSub, Nat.reduceLeDiff, Int.reduceNeg, Int.reduceLT, Int.reduceLE, Int.reduceEq, Int.reduceAdd, Int.reduceToNat, h4, h2, hp, e, ew, hb1, iA_at _ _ _ hcl]))
    refine rU_spec hs' (two_0 ..) ?_
    ((try simp only [go_sem, ↓reduceIte, reduceCtorEq, Nat.reduceLT, Nat.reduceEqDiff, Nat.reduceBEq, Nat.reduceAdd, Nat.reduceMul, Nat.reduceSub, Nat.reduceLeDiff, Int.reduceNeg, Int.reduceLT, Int.reduceLE, Int.reduceEq, Int.reduceAdd, Int.reduceToNat, h4, h2, hp, ew2]); repeat ((first | refine AW.seq ?_ | refine AW.region env_ok ?_ | refine AW.region envR_ok ?_ | refine AW.skip ?_ | refine AW.block ?_ | refine AW.exit ?_ | refine AW.ret ?_ | (refine AW.cond (b := true) ?_ ?_; simp only [ev, upd, ↓reduceIte, Nat.reduceEqDiff]; rw [if_pos rfl]) | (refine AW.cond (b := false) ?_ ?_; simp only [ev, upd, ↓reduceIte, Nat.reduceEqDiff]; rw [if_neg Bool.false_ne_true]) | fail) <;> try simp only [go_sem, ↓reduceIte, reduceCtorEq, Nat.reduceLT, Nat.reduceEqDiff, Nat.reduceBEq, Nat.reduceAdd, Nat.reduceMul, Nat.reduceSub, Nat.reduceLeDiff, Int.reduceNeg, Int.reduceLT, Int.reduceLE, Int.reduceEq, Int.reduceAdd, Int.reduceToNat, h4, h2, hp, ew2]))
    refine ⟨⟨j + 1, s'.uleb.2, by omega, hs'.uleb, ?_, rfl, rfl⟩, by omega⟩
    rw [← hu, show (hd.lens[code - 1]).toNat - j = (hd.lens[code - 1]).toNat - (j + 1) + 1 by omega]
    rfl
  · ((try simp only [go_sem, ↓reduceIte, reduceCtorEq, Nat.reduceLT, Nat.reduceEqDiff, Nat.reduceBEq, Nat.reduceAdd, Nat.reduceMul, Nat.reduceSub, Nat.reduceLeDiff, Int.reduceNeg, Int.reduceLT, Int.reduceLE, Int.reduceEq, Int.reduceAdd, Int.reduceToNat, h4, h2, hp, e, ew, hb1, iA_at _ _ _ hcl]); repeat ((first | refine AW.seq ?_ | refine AW.region env_ok ?_ | refine AW.region envR_ok ?_ | refine AW.skip ?_ | refine AW.block ?_ | refine AW.exit ?_ | refine AW.ret ?_ | (refine AW.cond (b := true) ?_ ?_; simp only [ev, upd, ↓reduceIte, Nat.reduceEqDiff]; rw [if_pos rfl]) | (refine AW.cond (b := false) ?_ ?_; simp only [ev, upd, ↓reduceIte, Nat.reduceEqDiff]; rw [if_neg Bool.false_ne_true]) | fail) <;> try simp only [go_sem, ↓reduceIte, reduceCtorEq, Nat.reduceLT, Nat.reduceEqDiff, Nat.reduceBEq, Nat.reduceAdd, Nat.reduceMul, Nat.reduceSub, Nat.reduceLeDiff, Int.reduceNeg, Int.reduceLT, Int.reduceLE, Int.reduceEq, Int.reduceAdd, Int.reduceToNat, h4, h2, hp, e, ew, hb1, iA_at _ _ _ hcl]))
    have hj2 : (hd.lens[code - 1]).toNat - j = 0 := by omega
    rw [hj2] at hu
    rw [show s' = ulebs (hd.lens[code - 1]).toNat s from hu]
    exact .inl (h k hk)
end
end Go.Ab
end

section
/- Package sindriref22: line programs that are run; rows that are alike. -/
namespace Go.Ab
open V Go.Proofs
set_option maxHeartbeats 4000000
set_option maxRecDepth 10000
set_option linter.unusedSimpArgs false
set_option linter.unusedVariables false

section
variable {hd : HD} {H G : Heap} {Q : A → Heap → Prop} {m : MS} {pc pm k : Nat}

/-- How many bytes are left, by the cells of the document's cursor. -/
def rleftOf : Option (Ob Unit) → Nat
  | some (.cells [.sl xs _ _, .int _ p, .int _ e]) => if e = 0 then xs.length - p.toNat else 0
  | _ => 0
theorem rleftOf_ref (s : CS) : rleftOf (some (.cells s.ref)) = s.left := by
  show (if s.err = 0 then (bA s.b).length - (s.pos : Int).toNat else 0) = s.left
  rw [bA_length]; rfl
open Classical in
theorem rRun_spec {b : List UInt8} (hi : hd.In) (hb : b.length < 140737488355328) (h : Q (.tup [.sl (rA (runR hd b).1) none (), .int .i64 (runR hd b).2]) H) :
    AC Try.prog 10 [.agg hd.cells, .sl (bA b) none ()] H Q := by
  refine AC.enter (E := env Try.prog 79 (fun _ => .copy) (fun t => t == 4)) env_ok Try.func10 rfl rfl rfl (by simp only [List.length_cons, List.length_nil]; exact of_decide_eq_true rfl) ?_
  ((try simp only [go_sem, ↓reduceIte, reduceCtorEq, Nat.reduceLT, Nat.reduceEqDiff, Nat.reduceBEq, Nat.reduceAdd, Nat.reduceMul, Nat.reduceSub, Nat.reduceLeDiff, Int.reduceNeg, Int.reduceLT, Int.reduceLE, Int.reduceEq, Int.reduceAdd, Int.reduceToNat, get_last, set_last]); repeat ((first | refine AW.seq ?_ | refine AW.region env_ok ?_ | refine AW.region envR_ok ?_ | refine AW.skip ?_ | refine AW.block ?_ | refine AW.exit ?_ | refine AW.ret ?_ | (refine AW.cond (b := true) ?_ ?_; simp only [ev, upd, ↓reduceIte, Nat.reduceEqDiff]; rw [if_pos rfl]) | (refine AW.cond (b := false) ?_ ?_; simp only [ev, upd, ↓reduceIte, Nat.reduceEqDiff]; rw [if_neg Bool.false_ne_true]) | fail) <;> try simp only [go_sem, ↓reduceIte, reduceCtorEq, Nat.reduceLT, Nat.reduceEqDiff, Nat.reduceBEq, Nat.reduceAdd, Nat.reduceMul, Nat.reduceSub, Nat.reduceLeDiff, Int.reduceNeg, Int.reduceLT, Int.reduceLE, Int.reduceEq, Int.reduceAdd, Int.reduceToNat, get_last, set_last]))
  refine rHead_spec hi ?_
  by_cases hR : hd.Right
  case neg =>
    have e : runR hd b = ([], 2) := if_neg hR
    rw [e] at h
    rw [decide_eq_false hR]
    ((try simp only [go_sem, ↓reduceIte, reduceCtorEq, Nat.reduceLT, Nat.reduceEqDiff, Nat.reduceBEq, Nat.reduceAdd, Nat.reduceMul, Nat.reduceSub, Nat.reduceLeDiff, Int.reduceNeg, Int.reduceLT, Int.reduceLE, Int.reduceEq, Int.reduceAdd, Int.reduceToNat]); repeat ((first | refine AW.seq ?_ | refine AW.region env_ok ?_ | refine AW.region envR_ok ?_ | refine AW.skip ?_ | refine AW.block ?_ | refine AW.exit ?_ | refine AW.ret ?_ | (refine AW.cond (b := true) ?_ ?_; simp only [ev, upd, ↓reduceIte, Nat.reduceEqDiff]; rw [if_pos rfl]) | (refine AW.cond (b := false) ?_ ?_; simp only [ev, upd, ↓reduceIte, Nat.reduceEqDiff]; rw [if_neg Bool.false_ne_true]) | fail) <;> try simp only [go_sem, ↓reduceIte, reduceCtorEq, Nat.reduceLT, Nat.reduceEqDiff, Nat.reduceBEq, Nat.reduceAdd, Nat.reduceMul, Nat.reduceSub, Nat.reduceLeDiff, Int.reduceNeg, Int.reduceLT, Int.reduceLE, Int.reduceEq, Int.reduceAdd, Int.reduceToNat]))
    exact .inr (by rw [cut1]; exact h)
  rw [decide_eq_true hR]
  ((try simp only [go_sem, ↓reduceIte, reduceCtorEq, Nat.reduceLT, Nat.reduceEqDiff, Nat.reduceBEq, Nat.reduceAdd, Nat.reduceMul, Nat.reduceSub, Nat.reduceLeDiff, Int.reduceNeg, Int.reduceLT, Int.reduceLE, Int.reduceEq, Int.reduceAdd, Int.reduceToNat]); repeat ((first | refine AW.seq ?_ | refine AW.region env_ok ?_ | refine AW.region envR_ok ?_ | refine AW.skip ?_ | refine AW.block ?_ | refine AW.exit ?_ | refine AW.ret ?_ | (refine AW.cond (b := true) ?_ ?_; simp only [ev, upd, ↓reduceIte, Nat.reduceEqDiff]; rw [if_pos rfl]) | (refine AW.cond (b := false) ?_ ?_; simp only [ev, upd, ↓reduceIte, Nat.reduceEqDiff]; rw [if_neg Bool.false_ne_true]) | fail) <;> try simp only [go_sem, ↓reduceIte, reduceCtorEq, Nat.reduceLT, Nat.reduceEqDiff, Nat.reduceBEq, Nat.reduceAdd, Nat.reduceMul, Nat.reduceSub, Nat.reduceLeDiff, Int.reduceNeg, Int.reduceLT, Int.reduceLE, Int.reduceEq, Int.reduceAdd, Int.reduceToNat]))
  refine AW.chain env_ok [0, 0, 2, 6, 0, 16, 63, 127, 255] [0, 1, 2, 4, 5] [(3, [0, 4, 5], [6]), (7, [], []), (8, [], [])] mixed (by decide) ?_
  have hl1 : (H ++ [Ob.cells hd.cells] ++ [Ob.cells (CS.mk b 0 0).ref])[H.length]? = some (.cells hd.cells) := by simp
  ((try simp only [go_sem, ↓reduceIte, reduceCtorEq, Nat.reduceLT, Nat.reduceEqDiff, Nat.reduceBEq, Nat.reduceAdd, Nat.reduceMul, Nat.reduceSub, Nat.reduceLeDiff, Int.reduceNeg, Int.reduceLT, Int.reduceLE, Int.reduceEq, Int.reduceAdd, Int.reduceToNat, get_last, hd_flagless]); repeat ((first | refine AW.seq ?_ | refine AW.region env_ok ?_ | refine AW.region envR_ok ?_ | refine AW.skip ?_ | refine AW.block ?_ | refine AW.exit ?_ | refine AW.ret ?_ | (refine AW.cond (b := true) ?_ ?_; simp only [ev, upd, ↓reduceIte, Nat.reduceEqDiff]; rw [if_pos rfl]) | (refine AW.cond (b := false) ?_ ?_; simp only [ev, upd, ↓reduceIte, Nat.reduceEqDiff]; rw [if_neg Bool.false_ne_true]) | fail) <;> try simp only [go_sem, ↓reduceIte, reduceCtorEq, Nat.reduceLT, Nat.reduceEqDiff, Nat.reduceBEq, Nat.reduceAdd, Nat.reduceMul, Nat.reduceSub, Nat.reduceLeDiff, Int.reduceNeg, Int.reduceLT, Int.reduceLE, Int.reduceEq, Int.reduceAdd, Int.reduceToNat, get_last, hd_flagless]))
  refine QC.mk (rStart_spec ⟨rfl, rfl⟩) ?_
  ((try simp only [go_sem, ↓reduceIte, reduceCtorEq, Nat.reduceLT, Nat.reduceEqDiff, Nat.reduceBEq, Nat.reduceAdd, Nat.reduceMul, Nat.reduceSub, Nat.reduceLeDiff, Int.reduceNeg, Int.reduceLT, Int.reduceLE, Int.reduceEq, Int.reduceAdd, Int.reduceToNat, get_last, ref_mk0, hl1]); repeat ((first | refine AW.seq ?_ | refine AW.region env_ok ?_ | refine AW.region envR_ok ?_ | refine AW.skip ?_ | refine AW.block ?_ | refine AW.exit ?_ | refine AW.ret ?_ | (refine AW.cond (b := true) ?_ ?_; simp only [ev, upd, ↓reduceIte, Nat.reduceEqDiff]; rw [if_pos rfl]) | (refine AW.cond (b := false) ?_ ?_; simp only [ev, upd, ↓reduceIte, Nat.reduceEqDiff]; rw [if_neg Bool.false_ne_true]) | fail) <;> try simp only [go_sem, ↓reduceIte, reduceCtorEq, Nat.reduceLT, Nat.reduceEqDiff, Nat.reduceBEq, Nat.reduceAdd, Nat.reduceMul, Nat.reduceSub, Nat.reduceLeDiff, Int.reduceNeg, Int.reduceLT, Int.reduceLE, Int.reduceEq, Int.reduceAdd, Int.reduceToNat, get_last, ref_mk0, hl1]))
  refine ⟨QC.mk (rStart_spec ⟨rfl, rfl⟩) ?_, ?_⟩
  · simp only [go_sem, ↓reduceIte, reduceCtorEq, Nat.reduceLT, Nat.reduceEqDiff, Nat.reduceBEq, Nat.reduceAdd, Nat.reduceMul, Nat.reduceSub, Nat.reduceLeDiff, Int.reduceNeg, Int.reduceLT, Int.reduceLE, Int.reduceEq, Int.reduceAdd, Int.reduceToNat]
  ((try simp only [go_sem, ↓reduceIte, reduceCtorEq, Nat.reduceLT, Nat.reduceEqDiff, Nat.reduceBEq, Nat.reduceAdd, Nat.reduceMul, Nat.reduceSub, Nat.reduceLeDiff, Int.reduceNeg, Int.reduceLT, Int.reduceLE, Int.reduceEq, Int.reduceAdd, Int.reduceToNat, get_last, ref_mk0, hl1, hb_1, hb_2, hb_3, hb_4, hb_5, hb_6, hb_7, mc_solid, mc_flag, one_app, len_one]); repeat ((first | refine AW.seq ?_ | refine AW.region env_ok ?_ | refine AW.region envR_ok ?_ | refine AW.skip ?_ | refine AW.block ?_ | refine AW.exit ?_ | refine AW.ret ?_ | (refine AW.cond (b := true) ?_ ?_; simp only [ev, upd, ↓reduceIte, Nat.reduceEqDiff]; rw [if_pos rfl]) | (refine AW.cond (b := false) ?_ ?_; simp only [ev, upd, ↓reduceIte, Nat.reduceEqDiff]; rw [if_neg Bool.false_ne_true]) | fail) <;> try simp only [go_sem, ↓reduceIte, reduceCtorEq, Nat.reduceLT, Nat.reduceEqDiff, Nat.reduceBEq, Nat.reduceAdd, Nat.reduceMul, Nat.reduceSub, Nat.reduceLeDiff, Int.reduceNeg, Int.reduceLT, Int.reduceLE, Int.reduceEq, Int.reduceAdd, Int.reduceToNat, get_last, ref_mk0, hl1, hb_1, hb_2, hb_3, hb_4, hb_5, hb_6, hb_7, mc_solid, mc_flag, one_app, len_one]))
  rw [two_of_three, show H.length + 1 = (H ++ [Ob.cells hd.cells]).length by simp, show H.length + 2 = (H ++ [Ob.cells hd.cells]).length + 1 by simp]
  have hbox : ∀ x y, ((H ++ [Ob.cells hd.cells]) ++ [x, y])[H.length]? = some (.cells hd.cells) := fun x y => by simp
  have hcut : ∀ x y, ((H ++ [Ob.cells hd.cells]) ++ [x, y]).take H.length = H := fun x y => by simp
  have hrr : runR hd b = (if (runs hd b.length (MS.init hd b)).s.err ≠ 0 then ([], (runs hd b.length (MS.init hd b)).s.err)
     else if lastBad (runs hd b.length (MS.init hd b)).out = true then ([], 48) else ((runs hd b.length (MS.init hd b)).out, 0)) := if_pos hR
  rw [hrr] at h
  generalize hB : H ++ [Ob.cells hd.cells] = B at hbox hcut ⊢
  refine AW.loop (fun st => ∃ (m : MS) (k : Nat), m.s.Ok ∧ m.s.b = b ∧ m.out.length ≤ 2000 ∧ k ≤ m.out.length ∧ runs hd b.length m = runs hd b.length (MS.init hd b) ∧ st.σ 6 = .ptr (some (B.length + 1, 0)) ∧ st.σ 1 = .sl (bA b) none () ∧
      st.σ 5 = .int .i64 0 ∧ st.H = B ++ [.cells m.s.ref, m.ob hd B.length k])
    (fun st => rleftOf (st.H[B.length]?)) ⟨MS.init hd b, 0, by unfold CS.Ok MS.init; simp only; omega, rfl, by simp [MS.init], by simp [MS.init], rfl, rfl, rfl, rfl, rfl⟩ ?_
  rintro ⟨σ, H2⟩ ⟨m, k, hs, hmb, hout, hk, hrun, h6, h1, h5, rfl⟩
  simp only at h6 h1 h5
  have hb2 : m.s.b.length < 140737488355328 := by rw [hmb]; exact hb
  have hm1 : rleftOf ((B ++ [.cells m.s.ref, m.ob hd B.length k])[B.length]?) = m.s.left := by rw [two_0, rleftOf_ref]
  simp only [hm1]
  by_cases hl' : m.s.left > 0
  · obtain ⟨hst1, hst2, hst3, hst4⟩ := step_less (hd := hd) hs hl'
    have hrun2 : runs hd b.length (m.step hd) = runs hd b.length (MS.init hd b) := by
      rw [← hrun]
      exact (runs_step hs hl' (by unfold CS.left; rw [hmb]; split <;> omega)).symm
    have he : m.s.err = 0 := by unfold CS.left at hl'; split at hl'; assumption; omega
    have hp : (m.s.pos : Int) < b.length := by unfold CS.left at hl'; rw [hmb] at hl'; split at hl' <;> omega
    ((try simp only [go_sem, ↓reduceIte, reduceCtorEq, Nat.reduceLT, Nat.reduceEqDiff, Nat.reduceBEq, Nat.reduceAdd, Nat.reduceMul, Nat.reduceSub, Nat.reduceLeDiff, Int.reduceNeg, Int.reduceLT, Int.reduceLE, Int.reduceEq, Int.reduceAdd, Int.reduceToNat, h6, h1, he, hp]); repeat ((first | refine AW.seq ?_ | refine AW.region env_ok ?_ | refine AW.region envR_ok ?_ | refine AW.skip ?_ | refine AW.block ?_ | refine AW.exit ?_ | refine AW.ret ?_ | (refine AW.cond (b := true) ?_ ?_; simp only [ev, upd, ↓reduceIte, Nat.reduceEqDiff]; rw [if_pos rfl]) | (refine AW.cond (b := false) ?_ ?_; simp only [ev, upd, ↓reduceIte, Nat.reduceEqDiff]; rw [if_neg Bool.false_ne_true]) | fail) <;> try simp only [go_sem, ↓reduceIte, reduceCtorEq, Nat.reduceLT, Nat.reduceEqDiff, Nat.reduceBEq, Nat.reduceAdd, Nat.reduceMul, Nat.reduceSub, Nat.reduceLeDiff, Int.reduceNeg, Int.reduceLT, Int.reduceLE, Int.reduceEq, Int.reduceAdd, Int.reduceToNat, h6, h1, he, hp]))
    refine step_spec hi hR hl' hs hb2 hout hk ?_
    intro k' hk'
    ((try simp only [go_sem, ↓reduceIte, reduceCtorEq, Nat.reduceLT, Nat.reduceEqDiff, Nat.reduceBEq, Nat.reduceAdd, Nat.reduceMul, Nat.reduceSub, Nat.reduceLeDiff, Int.reduceNeg, Int.reduceLT, Int.reduceLE, Int.reduceEq, Int.reduceAdd, Int.reduceToNat, h6, h1, h5]); repeat ((first | refine AW.seq ?_ | refine AW.region env_ok ?_ | refine AW.region envR_ok ?_ | refine AW.skip ?_ | refine AW.block ?_ | refine AW.exit ?_ | refine AW.ret ?_ | (refine AW.cond (b := true) ?_ ?_; simp only [ev, upd, ↓reduceIte, Nat.reduceEqDiff]; rw [if_pos rfl]) | (refine AW.cond (b := false) ?_ ?_; simp only [ev, upd, ↓reduceIte, Nat.reduceEqDiff]; rw [if_neg Bool.false_ne_true]) | fail) <;> try simp only [go_sem, ↓reduceIte, reduceCtorEq, Nat.reduceLT, Nat.reduceEqDiff, Nat.reduceBEq, Nat.reduceAdd, Nat.reduceMul, Nat.reduceSub, Nat.reduceLeDiff, Int.reduceNeg, Int.reduceLT, Int.reduceLE, Int.reduceEq, Int.reduceAdd, Int.reduceToNat, h6, h1, h5]))
    exact ⟨⟨m.step hd, k', hst2, hst3.trans hmb, hst4 hout, hk', hrun2, rfl⟩, by rw [rleftOf_ref]; exact hst1⟩
  · have hl0 : m.s.left = 0 := by omega
    rw [runs_none hl0] at hrun
    rw [← hrun] at h
    by_cases e : m.s.err = 0
    · rw [if_neg (by simpa using e)] at h
      have hp : ¬ (m.s.pos : Int) < b.length := by unfold CS.left at hl0; rw [hmb, if_pos e] at hl0; omega
      by_cases n0 : (m.out.length : Int) > 0
      · have hlast := lastBad_spec m.out (by omega)
        have ew : IntKind.i64.wrap ((m.out.length : Int) - 1) = ((m.out.length - 1 : Nat) : Int) := by rw [IntWalk.i64_in _ (by omega)]; omega
        have hb1 : (0 : Int) ≤ ((m.out.length - 1 : Nat) : Int) ∧ ((m.out.length - 1 : Nat) : Int) < m.out.length := by omega
        have hat := rA_at m.out (m.out.length - 1) (V.undef ()) (by omega)
        cases hstop : (m.out[m.out.length - 1]).stop with
        | false =>
          ((try simp only [go_sem, ↓reduceIte, reduceCtorEq, Nat.reduceLT, Nat.reduceEqDiff, Nat.reduceBEq, Nat.reduceAdd, Nat.reduceMul, Nat.reduceSub, Nat.reduceLeDiff, Int.reduceNeg, Int.reduceLT, Int.reduceLE, Int.reduceEq, Int.reduceAdd, Int.reduceToNat, h6, h1, hp, e, n0, ew, hb1, hat, rw_df, rw_d8, hstop]); repeat ((first | refine AW.seq ?_ | refine AW.region env_ok ?_ | refine AW.region envR_ok ?_ | refine AW.skip ?_ | refine AW.block ?_ | refine AW.exit ?_ | refine AW.ret ?_ | (refine AW.cond (b := true) ?_ ?_; simp only [ev, upd, ↓reduceIte, Nat.reduceEqDiff]; rw [if_pos rfl]) | (refine AW.cond (b := false) ?_ ?_; simp only [ev, upd, ↓reduceIte, Nat.reduceEqDiff]; rw [if_neg Bool.false_ne_true]) | fail) <;> try simp only [go_sem, ↓reduceIte, reduceCtorEq, Nat.reduceLT, Nat.reduceEqDiff, Nat.reduceBEq, Nat.reduceAdd, Nat.reduceMul, Nat.reduceSub, Nat.reduceLeDiff, Int.reduceNeg, Int.reduceLT, Int.reduceLE, Int.reduceEq, Int.reduceAdd, Int.reduceToNat, h6, h1, hp, e, n0, ew, hb1, hat, rw_df, rw_d8, hstop]))
          rw [hlast, hstop, if_pos (by rfl)] at h
          exact .inr (by rw [hcut]; exact h)
        | true =>
          ((try simp only [go_sem, ↓reduceIte, reduceCtorEq, Nat.reduceLT, Nat.reduceEqDiff, Nat.reduceBEq, Nat.reduceAdd, Nat.reduceMul, Nat.reduceSub, Nat.reduceLeDiff, Int.reduceNeg, Int.reduceLT, Int.reduceLE, Int.reduceEq, Int.reduceAdd, Int.reduceToNat, h6, h1, hp, e, n0, ew, hb1, hat, rw_df, rw_d8, hstop]); repeat ((first | refine AW.seq ?_ | refine AW.region env_ok ?_ | refine AW.region envR_ok ?_ | refine AW.skip ?_ | refine AW.block ?_ | refine AW.exit ?_ | refine AW.ret ?_ | (refine AW.cond (b := true) ?_ ?_; simp only [ev, upd, ↓reduceIte, Nat.reduceEqDiff]; rw [if_pos rfl]) | (refine AW.cond (b := false) ?_ ?_; simp only [ev, upd, ↓reduceIte, Nat.reduceEqDiff]; rw [if_neg Bool.false_ne_true]) | fail) <;> try simp only [go_sem, ↓reduceIte, reduceCtorEq, Nat.reduceLT, Nat.reduceEqDiff, Nat.reduceBEq, Nat.reduceAdd, Nat.reduceMul, Nat.reduceSub, Nat.reduceLeDiff, Int.reduceNeg, Int.reduceLT, Int.reduceLE, Int.reduceEq, Int.reduceAdd, Int.reduceToNat, h6, h1, hp, e, n0, ew, hb1, hat, rw_df, rw_d8, hstop]))
          rw [hlast, hstop, if_neg (by simp)] at h
          exact .inr (by rw [hcut]; exact h)
      · have hnil : m.out = [] := List.eq_nil_of_length_eq_zero (by omega)
        ((try simp only [go_sem, ↓reduceIte, reduceCtorEq, Nat.reduceLT, Nat.reduceEqDiff, Nat.reduceBEq, Nat.reduceAdd, Nat.reduceMul, Nat.reduceSub, Nat.reduceLeDiff, Int.reduceNeg, Int.reduceLT, Int.reduceLE, Int.reduceEq, Int.reduceAdd, Int.reduceToNat, h6, h1, hp, e, n0, h5]); repeat ((first | refine AW.seq ?_ | refine AW.region env_ok ?_ | refine AW.region envR_ok ?_ | refine AW.skip ?_ | refine AW.block ?_ | refine AW.exit ?_ | refine AW.ret ?_ | (refine AW.cond (b := true) ?_ ?_; simp only [ev, upd, ↓reduceIte, Nat.reduceEqDiff]; rw [if_pos rfl]) | (refine AW.cond (b := false) ?_ ?_; simp only [ev, upd, ↓reduceIte, Nat.reduceEqDiff]; rw [if_neg Bool.false_ne_true]) | fail) <;> try simp only [go_sem, ↓reduceIte, reduceCtorEq, Nat.reduceLT, Nat.reduceEqDiff, Nat.reduceBEq, Nat.reduceAdd, Nat.reduceMul, Nat.reduceSub, Nat.reduceLeDiff, Int.reduceNeg, Int.reduceLT, Int.reduceLE, Int.reduceEq, Int.reduceAdd, Int.reduceToNat, h6, h1, hp, e, n0, h5]))
        rw [hnil] at h ⊢
        exact .inr (by rw [hcut]; exact h)
    · rw [if_pos e] at h
      ((try simp only [go_sem, ↓reduceIte, reduceCtorEq, Nat.reduceLT, Nat.reduceEqDiff, Nat.reduceBEq, Nat.reduceAdd, Nat.reduceMul, Nat.reduceSub, Nat.reduceLeDiff, Int.reduceNeg, Int.reduceLT, Int.reduceLE, Int.reduceEq, Int.reduceAdd, Int.reduceToNat, h6, h1, e]); repeat ((first | refine AW.seq ?_ | refine AW.region env_ok ?_ | refine AW.region envR_ok ?_ | refine AW.skip ?_ | refine AW.block ?_ | refine AW.exit ?_ | refine AW.ret ?_ | (refine AW.cond (b := true) ?_ ?_; simp only [ev, upd, ↓reduceIte, Nat.reduceEqDiff]; rw [if_pos rfl]) | (refine AW.cond (b := false) ?_ ?_; simp only [ev, upd, ↓reduceIte, Nat.reduceEqDiff]; rw [if_neg Bool.false_ne_true]) | fail) <;> try simp only [go_sem, ↓reduceIte, reduceCtorEq, Nat.reduceLT, Nat.reduceEqDiff, Nat.reduceBEq, Nat.reduceAdd, Nat.reduceMul, Nat.reduceSub, Nat.reduceLeDiff, Int.reduceNeg, Int.reduceLT, Int.reduceLE, Int.reduceEq, Int.reduceAdd, Int.reduceToNat, h6, h1, e]))
      refine AW.chain env_ok [0, 1, 3, 7, 15, 31, 63, 0, 255] [0, 1, 2, 3, 4, 5, 6] [(7, [0, 1, 2, 3, 4, 5, 6], []), (8, [], [])] mixed (by decide) ?_
      ((try simp only [go_sem, ↓reduceIte, reduceCtorEq, Nat.reduceLT, Nat.reduceEqDiff, Nat.reduceBEq, Nat.reduceAdd, Nat.reduceMul, Nat.reduceSub, Nat.reduceLeDiff, Int.reduceNeg, Int.reduceLT, Int.reduceLE, Int.reduceEq, Int.reduceAdd, Int.reduceToNat, h6, h1, e]); repeat ((first | refine AW.seq ?_ | refine AW.region env_ok ?_ | refine AW.region envR_ok ?_ | refine AW.skip ?_ | refine AW.block ?_ | refine AW.exit ?_ | refine AW.ret ?_ | (refine AW.cond (b := true) ?_ ?_; simp only [ev, upd, ↓reduceIte, Nat.reduceEqDiff]; rw [if_pos rfl]) | (refine AW.cond (b := false) ?_ ?_; simp only [ev, upd, ↓reduceIte, Nat.reduceEqDiff]; rw [if_neg Bool.false_ne_true]) | fail) <;> try simp only [go_sem, ↓reduceIte, reduceCtorEq, Nat.reduceLT, Nat.reduceEqDiff, Nat.reduceBEq, Nat.reduceAdd, Nat.reduceMul, Nat.reduceSub, Nat.reduceLeDiff, Int.reduceNeg, Int.reduceLT, Int.reduceLE, Int.reduceEq, Int.reduceAdd, Int.reduceToNat, h6, h1, e]))
      exact .inr (by rw [hcut]; exact h)
end
end Go.Ab
end

section
/- What the laws' arguments are. -/
namespace Go.Ab
open V Go.Proofs
set_option maxHeartbeats 4000000
set_option maxRecDepth 10000
set_option linter.unusedVariables false

theorem U2 : Try.prog.underlying 2 = some (.int .i64) := by kernel_rfl
theorem U3 : Try.prog.underlying 3 = some (.int .i64) := by kernel_rfl
theorem U4 : Try.prog.underlying 4 = some .bool := by kernel_rfl
theorem U5 : Try.prog.underlying 5 = some (.int .u8) := by kernel_rfl
theorem U9 : Try.prog.underlying 9 = some .string := by kernel_rfl
theorem U25 : Try.prog.underlying 25 = some (.int .u64) := by kernel_rfl
theorem U22 : Try.prog.underlying 22 = some (.slice 3) := by kernel_rfl
theorem U23 : Try.prog.underlying 23 = some (.slice 9) := by kernel_rfl
theorem U24 : Try.prog.underlying 24 = some (.slice 51) := by kernel_rfl
theorem U28 : Try.prog.underlying 28 = some (.slice 5) := by kernel_rfl
theorem U32 : Try.prog.underlying 32 = some (.slice 41) := by kernel_rfl
theorem U45 : Try.prog.underlying 45 = some (.slice 25) := by kernel_rfl
theorem S27 : fieldTypes Try.prog 27 = some [4, 4, 3, 3, 3, 3, 22, 23, 24, 25, 25] := by kernel_rfl
theorem S51 : fieldTypes Try.prog 51 = some [9, 3] := by kernel_rfl
theorem S41 : fieldTypes Try.prog 41 = some [25, 3, 3, 3, 4, 4, 4, 4, 4, 25, 25] := by kernel_rfl
theorem G27 : aggT Try.prog 27 = true := by kernel_rfl
theorem G51 : aggT Try.prog 51 = true := by kernel_rfl
theorem G41 : aggT Try.prog 41 = true := by kernel_rfl
theorem G5 : aggT Try.prog 5 = false := by kernel_rfl
theorem G3 : aggT Try.prog 3 = false := by kernel_rfl
theorem G9 : aggT Try.prog 9 = false := by kernel_rfl
theorem G25 : aggT Try.prog 25 = false := by kernel_rfl
theorem G28 : aggT Try.prog 28 = false := by kernel_rfl
theorem G32 : aggT Try.prog 32 = false := by kernel_rfl
theorem G45 : aggT Try.prog 45 = false := by kernel_rfl

section
variable {n : Nat} {x : A} {c0 : List A}

theorem rd_ints (h : FitsC Try.prog (n + 2) 22 c0) : ∃ l : List Int, c0 = [.sl (iA l) none ()] := by
  obtain ⟨xs, rfl, _, hx⟩ := fits_slice U22 h
  obtain ⟨l, rfl⟩ := map_of (f := fun i : Int => V.int .i64 i) (l := xs) fun x hm => by
    obtain ⟨i, hi, _⟩ := fits_int U3 (fits_one G3 (hx x hm))
    exact ⟨i, one_inj hi⟩
  exact ⟨l, rfl⟩
theorem rd_texts (h : FitsC Try.prog (n + 2) 23 c0) : ∃ l : List ByteArray, c0 = [.sl (tA l) none ()] := by
  obtain ⟨xs, rfl, _, hx⟩ := fits_slice U23 h
  obtain ⟨l, rfl⟩ := map_of (f := fun i : ByteArray => V.str i) (l := xs) fun x hm => by
    obtain ⟨i, hi, _⟩ := fits_str U9 (fits_one G9 (hx x hm))
    exact ⟨i, one_inj hi⟩
  exact ⟨l, rfl⟩
theorem rd_files (h : FitsC Try.prog (n + 3) 24 c0) : ∃ l : List (ByteArray × Int), c0 = [.sl (fA l) none ()] := by
  obtain ⟨xs, rfl, _, hx⟩ := fits_slice U24 h
  obtain ⟨l, rfl⟩ := map_of (f := fun i : ByteArray × Int => V.agg [.str i.1, .int .i64 i.2]) (l := xs) fun x hm => by
    obtain ⟨cs, rfl, hc⟩ := fits_agg G51 (hx x hm)
    obtain ⟨ps, rfl, hl, hp⟩ := fits_struct S51 hc
    match ps, hl with
    | [p0, p1], _ =>
      obtain ⟨s, rfl, _⟩ := fits_str U9 (hp 0 9 p0 rfl rfl)
      obtain ⟨i, rfl, _⟩ := fits_int U3 (hp 1 3 p1 rfl rfl)
      exact ⟨(s, i), rfl⟩
  exact ⟨l, rfl⟩
theorem rd_bytes (h : FitsV Try.prog (n + 2) 28 x) : ∃ l : List UInt8, x = .sl (bA l) none () := by
  obtain ⟨xs, he, _, hx⟩ := fits_slice U28 (fits_one G28 h)
  rw [one_inj he]
  obtain ⟨l, rfl⟩ := map_of (f := byteA) (l := xs) fun x hm => by
    obtain ⟨i, hi, h1, h2⟩ := fits_int U5 (fits_one G5 (hx x hm))
    have h1' : 0 ≤ i := h1
    have h2' : i ≤ 255 := h2
    refine ⟨UInt8.ofNat i.toNat, ?_⟩
    rw [one_inj hi]
    unfold byteA
    congr 1
    rw [UInt8.toNat_ofNat']
    omega
  exact ⟨l, rfl⟩
theorem rd_u64s (h : FitsV Try.prog (n + 2) 45 x) : ∃ l : List Nat, x = .sl (uA l) none () ∧ l.length ≤ maxLen ∧ ∀ y ∈ l, y < 18446744073709551616 := by
  obtain ⟨xs, he, hlen, hx⟩ := fits_slice U45 (fits_one G45 h)
  rw [one_inj he]
  obtain ⟨l, hl⟩ := map_of (f := fun y : { y : Nat // y < 18446744073709551616 } => V.int .u64 (y.1 : Int)) (l := xs) fun x hm => by
    obtain ⟨i, hi, h1, h2⟩ := fits_int U25 (fits_one G25 (hx x hm))
    have h1' : 0 ≤ i := h1
    have h2' : i ≤ 18446744073709551615 := h2
    refine ⟨⟨i.toNat, by omega⟩, ?_⟩
    rw [one_inj hi]
    congr 1
    show i = ((i.toNat : Nat) : Int)
    omega
  refine ⟨l.map (·.1), ?_, ?_, ?_⟩
  · rw [hl]; simp [uA, Function.comp_def]
  · rw [hl] at hlen; simpa using hlen
  · intro y hy
    obtain ⟨z, _, rfl⟩ := List.mem_map.1 hy
    exact z.2
theorem rd_u64 (h : FitsV Try.prog (n + 1) 25 x) : ∃ y : Nat, x = .int .u64 (y : Int) ∧ y < 18446744073709551616 := by
  obtain ⟨i, hi, h1, h2⟩ := fits_int U25 (fits_one G25 h)
  have h1' : 0 ≤ i := h1
  have h2' : i ≤ 18446744073709551615 := h2
  exact ⟨i.toNat, by rw [one_inj hi]; congr 1; omega, by omega⟩
theorem rd_rows (h : FitsV Try.prog (n + 3) 32 x) : ∃ l : List RW, x = .sl (rA l) none () := by
  obtain ⟨xs, he, _, hx⟩ := fits_slice U32 (fits_one G32 h)
  rw [one_inj he]
  obtain ⟨l, rfl⟩ := map_of (f := fun r : RW => V.agg r.cells) (l := xs) fun x hm => by
    obtain ⟨cs, rfl, hc⟩ := fits_agg G41 (hx x hm)
    obtain ⟨ps, rfl, hl, hp⟩ := fits_struct S41 hc
    match ps, hl with
    | [p0, p1, p2, p3, p4, p5, p6, p7, p8, p9, p10], _ =>
      obtain ⟨a0, rfl, _⟩ := fits_int U25 (hp 0 25 p0 rfl rfl)
      obtain ⟨a1, rfl, _⟩ := fits_int U3 (hp 1 3 p1 rfl rfl)
      obtain ⟨a2, rfl, _⟩ := fits_int U3 (hp 2 3 p2 rfl rfl)
      obtain ⟨a3, rfl, _⟩ := fits_int U3 (hp 3 3 p3 rfl rfl)
      obtain ⟨a4, rfl⟩ := fits_bool U4 (hp 4 4 p4 rfl rfl)
      obtain ⟨a5, rfl⟩ := fits_bool U4 (hp 5 4 p5 rfl rfl)
      obtain ⟨a6, rfl⟩ := fits_bool U4 (hp 6 4 p6 rfl rfl)
      obtain ⟨a7, rfl⟩ := fits_bool U4 (hp 7 4 p7 rfl rfl)
      obtain ⟨a8, rfl⟩ := fits_bool U4 (hp 8 4 p8 rfl rfl)
      obtain ⟨a9, rfl, _⟩ := fits_int U25 (hp 9 25 p9 rfl rfl)
      obtain ⟨a10, rfl, _⟩ := fits_int U25 (hp 10 25 p10 rfl rfl)
      exact ⟨⟨a0, a1, a2, a3, a4, a5, a6, a7, a8, a9, a10⟩, rfl⟩
  exact ⟨l, rfl⟩
theorem rd_head (h : FitsV Try.prog (n + 5) 27 x) : ∃ hd : HD, x = .agg hd.cells := by
  obtain ⟨cs, rfl, hc⟩ := fits_agg G27 h
  obtain ⟨ps, rfl, hl, hp⟩ := fits_struct S27 hc
  match ps, hl with
  | [p0, p1, p2, p3, p4, p5, p6, p7, p8, p9, p10], _ =>
    obtain ⟨a0, rfl⟩ := fits_bool U4 (hp 0 4 p0 rfl rfl)
    obtain ⟨a1, rfl⟩ := fits_bool U4 (hp 1 4 p1 rfl rfl)
    obtain ⟨a2, rfl, _⟩ := fits_int U3 (hp 2 3 p2 rfl rfl)
    obtain ⟨a3, rfl, _⟩ := fits_int U3 (hp 3 3 p3 rfl rfl)
    obtain ⟨a4, rfl, _⟩ := fits_int U3 (hp 4 3 p4 rfl rfl)
    obtain ⟨a5, rfl, _⟩ := fits_int U3 (hp 5 3 p5 rfl rfl)
    obtain ⟨a6, rfl⟩ := rd_ints (n := n + 2) (hp 6 22 p6 rfl rfl)
    obtain ⟨a7, rfl⟩ := rd_texts (n := n + 2) (hp 7 23 p7 rfl rfl)
    obtain ⟨a8, rfl⟩ := rd_files (n := n + 1) (hp 8 24 p8 rfl rfl)
    obtain ⟨a9, rfl, b1, b2⟩ := fits_int U25 (hp 9 25 p9 rfl rfl)
    obtain ⟨a10, rfl, b3, b4⟩ := fits_int U25 (hp 10 25 p10 rfl rfl)
    have b1' : 0 ≤ a9 := b1
    have b3' : 0 ≤ a10 := b3
    obtain ⟨c9, rfl⟩ := Int.eq_ofNat_of_zero_le b1'
    obtain ⟨c10, rfl⟩ := Int.eq_ofNat_of_zero_le b3'
    exact ⟨⟨a0, a1, a2, a3, a4, a5, a6, a7, a8, c9, c10⟩, rfl⟩
end
end Go.Ab
end

section
/- The law LinerunChains answers true. -/
namespace Go.Ab
open V Go.Proofs
set_option maxHeartbeats 4000000
set_option maxRecDepth 10000
set_option linter.unusedSimpArgs false
set_option linter.unusedVariables false

section
variable {hd : HD} {H : Heap} {Q : A → Heap → Prop}
theorem bA_app (l m : List UInt8) : bA l ++ bA m = bA (l ++ m) := by simp [bA]
theorem bA_end : [V.int .u8 0, V.int .u8 1, V.int .u8 1] = bA seqEnd := rfl
theorem rA_app (l m : List RW) : rA l ++ rA m = rA (l ++ m) := by simp [rA]
end
end Go.Ab
end

section
/- The law LinerunMoves answers true. -/
namespace Go.Ab
open V Go.Proofs
set_option maxHeartbeats 4000000
set_option maxRecDepth 10000
set_option linter.unusedSimpArgs false
set_option linter.unusedVariables false

/-- The header of the law. -/
def HD.thirteen (hd : HD) : HD := { hd with codes := 13, lens := known }
theorem th_5 (hd : HD) : hd.cells.take 5 ++ [V.int .i64 13] ++ hd.cells.drop 6 = ({ hd with codes := 13 } : HD).cells := rfl
theorem th_6 (hd : HD) (l : List Int) : hd.cells.take 6 ++ [V.sl (iA l) none ()] ++ hd.cells.drop 7 = ({ hd with lens := l } : HD).cells := rfl

/-- The moves, without the end. -/
def pm (l : List Nat) : List UInt8 := l.flatMap fun n => 2 :: (putU n ++ [1])
theorem pm_prog (l : List Nat) : pm l ++ seqEnd = moveProg l := by
  induction l with
  | nil => rfl
  | cons n l ih => simp only [moveProg, ← ih, pm, List.flatMap_cons]; simp
theorem pm_snoc (l : List Nat) (n : Nat) : pm (l ++ [n]) = pm l ++ [2] ++ putU n ++ [1] := by simp [pm]
theorem sn1 (l : List UInt8) : bA l ++ ([V.int .u8 1] : List A) = bA (l ++ [1]) := by simp [bA]; rfl
theorem sn2 (l : List UInt8) : bA l ++ ([V.int .u8 2] : List A) = bA (l ++ [2]) := by simp [bA]; rfl
theorem pm_len (l : List Nat) (h : ∀ n ∈ l, n < 18446744073709551616) : (pm l).length ≤ 12 * l.length := by
  induction l with
  | nil => simp [pm]
  | cons n l ih =>
    have h1 := ih fun x hx => h x (by simp [hx])
    have h2 : (putU n).length ≤ 10 := by rw [putU_len]; exact parts_len (k := 9) (by have := h n (by simp); omega)
    simp only [pm, List.flatMap_cons, List.length_append, List.length_cons, List.length_nil] at h1 ⊢
    omega

section
variable {hd : HD} {H : Heap} {Q : A → Heap → Prop}
theorem LinerunMoves_spec {l : List Nat} {a b : Nat} (hll : l.length ≤ maxLen) (hl : ∀ n ∈ l, n < 18446744073709551616) (ha : a < 18446744073709551616) (hb : b < 18446744073709551616) (h : Q (.bool true) H) :
    AC Try.prog 5 [.agg hd.cells, .sl (uA l) none (), .int .u64 a, .int .u64 b] H Q := by
  refine AC.enter (E := env Try.prog 111 (fun t => if t == 37 || t == 47 || t == 50 then .take else .copy) (fun t => t == 55 || t == 64)) env_ok Try.func5 rfl rfl rfl (by simp only [List.length_cons, List.length_nil]; exact of_decide_eq_true rfl) ?_
  ((try simp only [go_sem, ↓reduceIte, reduceCtorEq, Nat.reduceLT, Nat.reduceEqDiff, Nat.reduceBEq, Nat.reduceAdd, Nat.reduceMul, Nat.reduceSub, Nat.reduceLeDiff, Int.reduceNeg, Int.reduceLT, Int.reduceLE, Int.reduceEq, Int.reduceAdd, Int.reduceToNat, get_last, set_last, hd_flagless]); repeat ((first | refine AW.seq ?_ | refine AW.region env_ok ?_ | refine AW.region envR_ok ?_ | refine AW.skip ?_ | refine AW.block ?_ | refine AW.exit ?_ | refine AW.ret ?_ | (refine AW.cond (b := true) ?_ ?_; simp only [ev, upd, ↓reduceIte, Nat.reduceEqDiff]; rw [if_pos rfl]) | (refine AW.cond (b := false) ?_ ?_; simp only [ev, upd, ↓reduceIte, Nat.reduceEqDiff]; rw [if_neg Bool.false_ne_true]) | fail) <;> try simp only [go_sem, ↓reduceIte, reduceCtorEq, Nat.reduceLT, Nat.reduceEqDiff, Nat.reduceBEq, Nat.reduceAdd, Nat.reduceMul, Nat.reduceSub, Nat.reduceLeDiff, Int.reduceNeg, Int.reduceLT, Int.reduceLE, Int.reduceEq, Int.reduceAdd, Int.reduceToNat, get_last, set_last, hd_flagless]))
  refine works_spec ?_
  ((try simp only [go_sem, ↓reduceIte, reduceCtorEq, Nat.reduceLT, Nat.reduceEqDiff, Nat.reduceBEq, Nat.reduceAdd, Nat.reduceMul, Nat.reduceSub, Nat.reduceLeDiff, Int.reduceNeg, Int.reduceLT, Int.reduceLE, Int.reduceEq, Int.reduceAdd, Int.reduceToNat, get_last, hd_flagless]); repeat ((first | refine AW.seq ?_ | refine AW.region env_ok ?_ | refine AW.region envR_ok ?_ | refine AW.skip ?_ | refine AW.block ?_ | refine AW.exit ?_ | refine AW.ret ?_ | (refine AW.cond (b := true) ?_ ?_; simp only [ev, upd, ↓reduceIte, Nat.reduceEqDiff]; rw [if_pos rfl]) | (refine AW.cond (b := false) ?_ ?_; simp only [ev, upd, ↓reduceIte, Nat.reduceEqDiff]; rw [if_neg Bool.false_ne_true]) | fail) <;> try simp only [go_sem, ↓reduceIte, reduceCtorEq, Nat.reduceLT, Nat.reduceEqDiff, Nat.reduceBEq, Nat.reduceAdd, Nat.reduceMul, Nat.reduceSub, Nat.reduceLeDiff, Int.reduceNeg, Int.reduceLT, Int.reduceLE, Int.reduceEq, Int.reduceAdd, Int.reduceToNat, get_last, hd_flagless]))
  refine Bulk_spec (by omega) ?_
  intro n hn
  by_cases c1 : n > 2000
  · ((try simp only [go_sem, ↓reduceIte, reduceCtorEq, Nat.reduceLT, Nat.reduceEqDiff, Nat.reduceBEq, Nat.reduceAdd, Nat.reduceMul, Nat.reduceSub, Nat.reduceLeDiff, Int.reduceNeg, Int.reduceLT, Int.reduceLE, Int.reduceEq, Int.reduceAdd, Int.reduceToNat, c1]); repeat ((first | refine AW.seq ?_ | refine AW.region env_ok ?_ | refine AW.region envR_ok ?_ | refine AW.skip ?_ | refine AW.block ?_ | refine AW.exit ?_ | refine AW.ret ?_ | (refine AW.cond (b := true) ?_ ?_; simp only [ev, upd, ↓reduceIte, Nat.reduceEqDiff]; rw [if_pos rfl]) | (refine AW.cond (b := false) ?_ ?_; simp only [ev, upd, ↓reduceIte, Nat.reduceEqDiff]; rw [if_neg Bool.false_ne_true]) | fail) <;> try simp only [go_sem, ↓reduceIte, reduceCtorEq, Nat.reduceLT, Nat.reduceEqDiff, Nat.reduceBEq, Nat.reduceAdd, Nat.reduceMul, Nat.reduceSub, Nat.reduceLeDiff, Int.reduceNeg, Int.reduceLT, Int.reduceLE, Int.reduceEq, Int.reduceAdd, Int.reduceToNat, c1]))
    exact .inr (by rw [cut1]; exact h)
  have hi := hn (by omega)
  have hbox : ∀ x y : Ob Unit, (H ++ [x, y])[H.length]? = some x := fun x y => two_0 ..
  have hcut : ∀ x y : Ob Unit, (H ++ [x, y]).take H.length = H := fun x y => two_t ..
  ((try simp only [go_sem, ↓reduceIte, reduceCtorEq, Nat.reduceLT, Nat.reduceEqDiff, Nat.reduceBEq, Nat.reduceAdd, Nat.reduceMul, Nat.reduceSub, Nat.reduceLeDiff, Int.reduceNeg, Int.reduceLT, Int.reduceLE, Int.reduceEq, Int.reduceAdd, Int.reduceToNat, c1, get_last, set_last, hd_flagless]); repeat ((first | refine AW.seq ?_ | refine AW.region env_ok ?_ | refine AW.region envR_ok ?_ | refine AW.skip ?_ | refine AW.block ?_ | refine AW.exit ?_ | refine AW.ret ?_ | (refine AW.cond (b := true) ?_ ?_; simp only [ev, upd, ↓reduceIte, Nat.reduceEqDiff]; rw [if_pos rfl]) | (refine AW.cond (b := false) ?_ ?_; simp only [ev, upd, ↓reduceIte, Nat.reduceEqDiff]; rw [if_neg Bool.false_ne_true]) | fail) <;> try simp only [go_sem, ↓reduceIte, reduceCtorEq, Nat.reduceLT, Nat.reduceEqDiff, Nat.reduceBEq, Nat.reduceAdd, Nat.reduceMul, Nat.reduceSub, Nat.reduceLeDiff, Int.reduceNeg, Int.reduceLT, Int.reduceLE, Int.reduceEq, Int.reduceAdd, Int.reduceToNat, c1, get_last, set_last, hd_flagless]))
  refine plainHead_spec ?_
  ((try simp only [go_sem, ↓reduceIte, reduceCtorEq, Nat.reduceLT, Nat.reduceEqDiff, Nat.reduceBEq, Nat.reduceAdd, Nat.reduceMul, Nat.reduceSub, Nat.reduceLeDiff, Int.reduceNeg, Int.reduceLT, Int.reduceLE, Int.reduceEq, Int.reduceAdd, Int.reduceToNat, get_last, set_last, hd_flagless, th_5, th_6]); repeat ((first | refine AW.seq ?_ | refine AW.region env_ok ?_ | refine AW.region envR_ok ?_ | refine AW.skip ?_ | refine AW.block ?_ | refine AW.exit ?_ | refine AW.ret ?_ | (refine AW.cond (b := true) ?_ ?_; simp only [ev, upd, ↓reduceIte, Nat.reduceEqDiff]; rw [if_pos rfl]) | (refine AW.cond (b := false) ?_ ?_; simp only [ev, upd, ↓reduceIte, Nat.reduceEqDiff]; rw [if_neg Bool.false_ne_true]) | fail) <;> try simp only [go_sem, ↓reduceIte, reduceCtorEq, Nat.reduceLT, Nat.reduceEqDiff, Nat.reduceBEq, Nat.reduceAdd, Nat.reduceMul, Nat.reduceSub, Nat.reduceLeDiff, Int.reduceNeg, Int.reduceLT, Int.reduceLE, Int.reduceEq, Int.reduceAdd, Int.reduceToNat, get_last, set_last, hd_flagless, th_5, th_6]))
  have hg : ({ ({ hd with codes := 13 } : HD) with lens := known } : HD) = hd.thirteen := rfl
  have hgi : hd.thirteen.In := ⟨by show 12 < _; omega, hi.2.1, hi.2.2.1, hi.2.2.2.1, hi.2.2.2.2⟩
  refine AW.loop2 (fun st => ∃ i : Nat, i ≤ l.length ∧ i ≤ 100 ∧ st.σ 11 = .int .i64 i ∧ st.σ 1 = .sl (uA l) none () ∧ st.σ 2 = .int .u64 a ∧ st.σ 3 = .int .u64 b ∧ st.σ 9 = .ptr (some (H.length + 1, 0)) ∧
      st.σ 10 = .sl (bA (pm (l.take i))) (some 0) () ∧ st.H = H ++ [.cells hd.cells, .cells hd.thirteen.cells])
    (fun st => match st.σ 11 with | .int _ i => 100 - i.toNat | _ => 0)
    (fun x st => x = .exit 0 ∧ st.σ 1 = .sl (uA l) none () ∧ st.σ 2 = .int .u64 a ∧ st.σ 3 = .int .u64 b ∧ st.σ 9 = .ptr (some (H.length + 1, 0)) ∧
      st.σ 10 = .sl (bA (pm (l.take 100))) (some 0) () ∧ st.H = H ++ [.cells hd.cells, .cells hd.thirteen.cells]) ⟨0, by omega, by omega, rfl, rfl, rfl, rfl, rfl, rfl, rfl⟩ ?_ ?_
  rotate_left
  · rintro x ⟨σ, H2⟩ ⟨rfl, s1, s2, s3, s9, s10, rfl⟩
    simp only at s1 s2 s3 s9 s10
    have hpl := pm_len (l.take 100) (fun x hx => hl x (List.mem_of_mem_take hx))
    have htl : (l.take 100).length ≤ 100 := by simp; omega
    have hse : seqEnd.length = 3 := rfl
    have hcap : decide ((pm (l.take 100)).length + seqEnd.length ≤ 140737488355328) = true := decide_eq_true (by omega)
    ((try simp only [go_sem, ↓reduceIte, reduceCtorEq, Nat.reduceLT, Nat.reduceEqDiff, Nat.reduceBEq, Nat.reduceAdd, Nat.reduceMul, Nat.reduceSub, Nat.reduceLeDiff, Int.reduceNeg, Int.reduceLT, Int.reduceLE, Int.reduceEq, Int.reduceAdd, Int.reduceToNat, s10, hcap, bA_end, bA_app, Nat.zero_le]); repeat ((first | refine AW.seq ?_ | refine AW.region env_ok ?_ | refine AW.region envR_ok ?_ | refine AW.skip ?_ | refine AW.block ?_ | refine AW.exit ?_ | refine AW.ret ?_ | (refine AW.cond (b := true) ?_ ?_; simp only [ev, upd, ↓reduceIte, Nat.reduceEqDiff]; rw [if_pos rfl]) | (refine AW.cond (b := false) ?_ ?_; simp only [ev, upd, ↓reduceIte, Nat.reduceEqDiff]; rw [if_neg Bool.false_ne_true]) | fail) <;> try simp only [go_sem, ↓reduceIte, reduceCtorEq, Nat.reduceLT, Nat.reduceEqDiff, Nat.reduceBEq, Nat.reduceAdd, Nat.reduceMul, Nat.reduceSub, Nat.reduceLeDiff, Int.reduceNeg, Int.reduceLT, Int.reduceLE, Int.reduceEq, Int.reduceAdd, Int.reduceToNat, s10, hcap, bA_end, bA_app, Nat.zero_le]))
    refine AW.strip 10 ?_
    rw [pm_prog]
    have hpp : (moveProg (l.take 100)).length ≤ 1203 := by rw [← pm_prog, List.length_append]; omega
    generalize hP : moveProg (l.take 100) = P at hpp ⊢
    simp only [go_sem, ↓reduceIte, reduceCtorEq, Nat.reduceLT, Nat.reduceEqDiff, Nat.reduceBEq, Nat.reduceAdd, Nat.reduceMul, Nat.reduceSub, Nat.reduceLeDiff, Int.reduceNeg, Int.reduceLT, Int.reduceLE, Int.reduceEq, Int.reduceAdd, Int.reduceToNat]
    refine AW.chain env_ok [0, 0, 2, 0, 14, 31, 63, 127, 127, 255, 1023] [0, 1, 3] [(2, [0, 3], []), (4, [0], []), (5, [], []), (6, [], [8]), (7, [8], []), (9, [8], []), (10, [], [])] mixed (by decide) ?_
    ((try simp only [go_sem, ↓reduceIte, reduceCtorEq, Nat.reduceLT, Nat.reduceEqDiff, Nat.reduceBEq, Nat.reduceAdd, Nat.reduceMul, Nat.reduceSub, Nat.reduceLeDiff, Int.reduceNeg, Int.reduceLT, Int.reduceLE, Int.reduceEq, Int.reduceAdd, Int.reduceToNat, s9, s2, hd_flagless]); repeat ((first | refine AW.seq ?_ | refine AW.region env_ok ?_ | refine AW.region envR_ok ?_ | refine AW.skip ?_ | refine AW.block ?_ | refine AW.exit ?_ | refine AW.ret ?_ | (refine AW.cond (b := true) ?_ ?_; simp only [ev, upd, ↓reduceIte, Nat.reduceEqDiff]; rw [if_pos rfl]) | (refine AW.cond (b := false) ?_ ?_; simp only [ev, upd, ↓reduceIte, Nat.reduceEqDiff]; rw [if_neg Bool.false_ne_true]) | fail) <;> try simp only [go_sem, ↓reduceIte, reduceCtorEq, Nat.reduceLT, Nat.reduceEqDiff, Nat.reduceBEq, Nat.reduceAdd, Nat.reduceMul, Nat.reduceSub, Nat.reduceLeDiff, Int.reduceNeg, Int.reduceLT, Int.reduceLE, Int.reduceEq, Int.reduceAdd, Int.reduceToNat, s9, s2, hd_flagless]))
    refine begin_spec ?_
    have hbl : ∀ c, (beginB c).length = 11 := fun c => by simp [beginB, leB_length]
    have hcapB : ∀ c, decide ((beginB c).length + P.length ≤ 140737488355328) = true := fun c => decide_eq_true (by rw [hbl]; omega)
    have hrl : ∀ c, (beginB c ++ P).length < 140737488355328 := fun c => by rw [List.length_append, hbl]; omega
    have hlim : ∀ n ∈ l.take 100, n < 18446744073709551616 := fun n hn => hl n (List.mem_of_mem_take hn)
    have hrun : ∀ c, c < 18446744073709551616 → hd.thirteen.Right → runR hd.thirteen (beginB c ++ P) = (moveRows hd.thirteen { RW.start hd.thirteen with addr := (c : Int) } (l.take 100), 0) := fun c hc hR => by
      rw [← hP]
      exact moves_run rfl hc hlim htl (by rw [hP]; have := hrl c; omega) hR
    have hnot : ∀ c, ¬ hd.thirteen.Right → runR hd.thirteen (beginB c ++ P) = ([], 2) := fun c hR => if_neg hR
    ((try simp only [go_sem, ↓reduceIte, reduceCtorEq, Nat.reduceLT, Nat.reduceEqDiff, Nat.reduceBEq, Nat.reduceAdd, Nat.reduceMul, Nat.reduceSub, Nat.reduceLeDiff, Int.reduceNeg, Int.reduceLT, Int.reduceLE, Int.reduceEq, Int.reduceAdd, Int.reduceToNat, hcapB, bA_app, Nat.zero_le, s9, s2, s3, hd_flagless]); repeat ((first | refine AW.seq ?_ | refine AW.region env_ok ?_ | refine AW.region envR_ok ?_ | refine AW.skip ?_ | refine AW.block ?_ | refine AW.exit ?_ | refine AW.ret ?_ | (refine AW.cond (b := true) ?_ ?_; simp only [ev, upd, ↓reduceIte, Nat.reduceEqDiff]; rw [if_pos rfl]) | (refine AW.cond (b := false) ?_ ?_; simp only [ev, upd, ↓reduceIte, Nat.reduceEqDiff]; rw [if_neg Bool.false_ne_true]) | fail) <;> try simp only [go_sem, ↓reduceIte, reduceCtorEq, Nat.reduceLT, Nat.reduceEqDiff, Nat.reduceBEq, Nat.reduceAdd, Nat.reduceMul, Nat.reduceSub, Nat.reduceLeDiff, Int.reduceNeg, Int.reduceLT, Int.reduceLE, Int.reduceEq, Int.reduceAdd, Int.reduceToNat, hcapB, bA_app, Nat.zero_le, s9, s2, s3, hd_flagless]))
    refine RunO_spec hgi (hrl a) ?_
    ((try simp only [go_sem, ↓reduceIte, reduceCtorEq, Nat.reduceLT, Nat.reduceEqDiff, Nat.reduceBEq, Nat.reduceAdd, Nat.reduceMul, Nat.reduceSub, Nat.reduceLeDiff, Int.reduceNeg, Int.reduceLT, Int.reduceLE, Int.reduceEq, Int.reduceAdd, Int.reduceToNat]); repeat ((first | refine AW.seq ?_ | refine AW.region env_ok ?_ | refine AW.region envR_ok ?_ | refine AW.skip ?_ | refine AW.block ?_ | refine AW.exit ?_ | refine AW.ret ?_ | (refine AW.cond (b := true) ?_ ?_; simp only [ev, upd, ↓reduceIte, Nat.reduceEqDiff]; rw [if_pos rfl]) | (refine AW.cond (b := false) ?_ ?_; simp only [ev, upd, ↓reduceIte, Nat.reduceEqDiff]; rw [if_neg Bool.false_ne_true]) | fail) <;> try simp only [go_sem, ↓reduceIte, reduceCtorEq, Nat.reduceLT, Nat.reduceEqDiff, Nat.reduceBEq, Nat.reduceAdd, Nat.reduceMul, Nat.reduceSub, Nat.reduceLeDiff, Int.reduceNeg, Int.reduceLT, Int.reduceLE, Int.reduceEq, Int.reduceAdd, Int.reduceToNat]))
    refine AW.chain env_ok [0, 0, 2, 0, 14, 31, 63, 127, 127, 255, 1023] [0, 1, 3] [(2, [0, 3], []), (4, [0], []), (5, [], [6, 7, 8]), (9, [8], []), (10, [], [])] mixed (by decide) ?_
    ((try simp only [go_sem, ↓reduceIte, reduceCtorEq, Nat.reduceLT, Nat.reduceEqDiff, Nat.reduceBEq, Nat.reduceAdd, Nat.reduceMul, Nat.reduceSub, Nat.reduceLeDiff, Int.reduceNeg, Int.reduceLT, Int.reduceLE, Int.reduceEq, Int.reduceAdd, Int.reduceToNat, s9, s3, hd_flagless]); repeat ((first | refine AW.seq ?_ | refine AW.region env_ok ?_ | refine AW.region envR_ok ?_ | refine AW.skip ?_ | refine AW.block ?_ | refine AW.exit ?_ | refine AW.ret ?_ | (refine AW.cond (b := true) ?_ ?_; simp only [ev, upd, ↓reduceIte, Nat.reduceEqDiff]; rw [if_pos rfl]) | (refine AW.cond (b := false) ?_ ?_; simp only [ev, upd, ↓reduceIte, Nat.reduceEqDiff]; rw [if_neg Bool.false_ne_true]) | fail) <;> try simp only [go_sem, ↓reduceIte, reduceCtorEq, Nat.reduceLT, Nat.reduceEqDiff, Nat.reduceBEq, Nat.reduceAdd, Nat.reduceMul, Nat.reduceSub, Nat.reduceLeDiff, Int.reduceNeg, Int.reduceLT, Int.reduceLE, Int.reduceEq, Int.reduceAdd, Int.reduceToNat, s9, s3, hd_flagless]))
    refine begin_spec ?_
    ((try simp only [go_sem, ↓reduceIte, reduceCtorEq, Nat.reduceLT, Nat.reduceEqDiff, Nat.reduceBEq, Nat.reduceAdd, Nat.reduceMul, Nat.reduceSub, Nat.reduceLeDiff, Int.reduceNeg, Int.reduceLT, Int.reduceLE, Int.reduceEq, Int.reduceAdd, Int.reduceToNat, hcapB, bA_app, Nat.zero_le, s9, s2, s3, hd_flagless]); repeat ((first | refine AW.seq ?_ | refine AW.region env_ok ?_ | refine AW.region envR_ok ?_ | refine AW.skip ?_ | refine AW.block ?_ | refine AW.exit ?_ | refine AW.ret ?_ | (refine AW.cond (b := true) ?_ ?_; simp only [ev, upd, ↓reduceIte, Nat.reduceEqDiff]; rw [if_pos rfl]) | (refine AW.cond (b := false) ?_ ?_; simp only [ev, upd, ↓reduceIte, Nat.reduceEqDiff]; rw [if_neg Bool.false_ne_true]) | fail) <;> try simp only [go_sem, ↓reduceIte, reduceCtorEq, Nat.reduceLT, Nat.reduceEqDiff, Nat.reduceBEq, Nat.reduceAdd, Nat.reduceMul, Nat.reduceSub, Nat.reduceLeDiff, Int.reduceNeg, Int.reduceLT, Int.reduceLE, Int.reduceEq, Int.reduceAdd, Int.reduceToNat, hcapB, bA_app, Nat.zero_le, s9, s2, s3, hd_flagless]))
    refine Run_spec hgi (hrl b) ?_
    have hmin : min ((l.length : Nat) : Int) 100 = (((l.take 100).length : Nat) : Int) := by rw [List.length_take]; omega
    have f1 : (runR hd.thirteen (beginB a ++ P)).2 = (runR hd.thirteen (beginB b ++ P)).2 := by
      by_cases hR : hd.thirteen.Right
      · rw [hrun a ha hR, hrun b hb hR]
      · rw [hnot a hR, hnot b hR]
    have f2 : (runR hd.thirteen (beginB a ++ P)).1.map (further (IntKind.u64.wrap ((b : Int) - a))) = (runR hd.thirteen (beginB b ++ P)).1 := by
      by_cases hR : hd.thirteen.Right
      · rw [hrun a ha hR, hrun b hb hR]; exact moves_further hb _
      · rw [hnot a hR, hnot b hR]; rfl
    have f3 : (runR hd.thirteen (beginB a ++ P)).2 = 0 → (runR hd.thirteen (beginB a ++ P)).1.length = (l.take 100).length + 1 := by
      by_cases hR : hd.thirteen.Right
      · rw [hrun a ha hR]; intro _; exact moveRows_len _ _
      · rw [hnot a hR]; intro h; simp at h
    have f4 := runR_len (hd := hd.thirteen) (b := beginB a ++ P) (by have := hrl a; omega)
    generalize runR hd.thirteen (beginB a ++ P) = RA at f1 f2 f3 f4 ⊢
    generalize runR hd.thirteen (beginB b ++ P) = RB at f1 f2 ⊢
    obtain ⟨xs, e⟩ := RA
    obtain ⟨ys, e'⟩ := RB
    simp only at f1 f2 f3 f4
    subst f1
    subst f2
    have ew : IntKind.i64.wrap (((l.take 100).length : Int) + 1) = (((l.take 100).length + 1 : Nat) : Int) := IntWalk.i64_in _ (by omega)
    simp only [go_sem, ↓reduceIte, reduceCtorEq, Nat.reduceLT, Nat.reduceEqDiff, Nat.reduceBEq, Nat.reduceAdd, Nat.reduceMul, Nat.reduceSub, Nat.reduceLeDiff, Int.reduceNeg, Int.reduceLT, Int.reduceLE, Int.reduceEq, Int.reduceAdd, Int.reduceToNat]
    refine AW.gen (fun st => st.σ 1 = .sl (uA l) none () ∧ st.σ 2 = .int .u64 a ∧ st.σ 3 = .int .u64 b ∧ st.σ 12 = .sl (rA xs) (some 0) () ∧ st.σ 13 = .int .i64 e ∧
      st.σ 14 = .sl (rA (xs.map (further (IntKind.u64.wrap ((b : Int) - a))))) none () ∧ st.σ 15 = .int .i64 e ∧ st.H = H ++ [.cells hd.cells, .cells hd.thirteen.cells]) ⟨s1, s2, s3, rfl, rfl, rfl, rfl, rfl⟩ ?_
    clear s1 s2 s3 s9 s10 σ
    rintro ⟨σ, H2⟩ ⟨s1, s2, s3, s12, s13, s14, s15, rfl⟩
    simp only at s1 s2 s3 s12 s13 s14 s15
    have hf5 : e ≠ 0 ∨ (e = 0 ∧ xs.length = (l.take 100).length + 1) := by
      by_cases e0 : e = 0
      · exact .inr ⟨e0, f3 e0⟩
      · exact .inl e0
    rcases hf5 with e0 | ⟨e0, f5⟩
    · ((try simp only [go_sem, ↓reduceIte, reduceCtorEq, Nat.reduceLT, Nat.reduceEqDiff, Nat.reduceBEq, Nat.reduceAdd, Nat.reduceMul, Nat.reduceSub, Nat.reduceLeDiff, Int.reduceNeg, Int.reduceLT, Int.reduceLE, Int.reduceEq, Int.reduceAdd, Int.reduceToNat, s1, s12, s13, s14, s15, e0, hmin, ew, List.length_map]); repeat ((first | refine AW.seq ?_ | refine AW.regionX env_ok (fun t => t == 72 || t == 82 || t == 91 || t == 96) ?_ | refine AW.regionX envR_ok (fun t => t == 72 || t == 82 || t == 91 || t == 96) ?_ | refine AW.skip ?_ | refine AW.block ?_ | refine AW.exit ?_ | refine AW.ret ?_ | (refine AW.cond (b := true) ?_ ?_; simp only [ev, upd, ↓reduceIte, Nat.reduceEqDiff]; rw [if_pos rfl]) | (refine AW.cond (b := false) ?_ ?_; simp only [ev, upd, ↓reduceIte, Nat.reduceEqDiff]; rw [if_neg Bool.false_ne_true]) | fail) <;> try simp only [go_sem, ↓reduceIte, reduceCtorEq, Nat.reduceLT, Nat.reduceEqDiff, Nat.reduceBEq, Nat.reduceAdd, Nat.reduceMul, Nat.reduceSub, Nat.reduceLeDiff, Int.reduceNeg, Int.reduceLT, Int.reduceLE, Int.reduceEq, Int.reduceAdd, Int.reduceToNat, s1, s12, s13, s14, s15, e0, hmin, ew, List.length_map]))
      refine AW.loop2 (fun st => ∃ i : Nat, i ≤ xs.length ∧ st.σ 93 = .int .i64 i ∧ st.σ 92 = .int .i64 xs.length ∧ st.σ 2 = .int .u64 a ∧ st.σ 3 = .int .u64 b ∧
          st.σ 12 = .sl (rA ((xs.take i).map (further (IntKind.u64.wrap ((b : Int) - a))) ++ xs.drop i)) (some 0) () ∧ st.σ 14 = .sl (rA (xs.map (further (IntKind.u64.wrap ((b : Int) - a))))) none () ∧ st.H = H ++ [.cells hd.cells, .cells hd.thirteen.cells])
        (fun st => match st.σ 93 with | .int _ i => xs.length - i.toNat | _ => 0)
        (fun x st => x = .exit 2 ∧ st.σ 12 = .sl (rA (xs.map (further (IntKind.u64.wrap ((b : Int) - a))))) (some 0) () ∧ st.σ 14 = .sl (rA (xs.map (further (IntKind.u64.wrap ((b : Int) - a))))) none () ∧ st.H = H ++ [.cells hd.cells, .cells hd.thirteen.cells])
        ⟨0, by omega, rfl, rfl, s2, s3, s12, s14, rfl⟩ ?_ ?_
      · rintro ⟨σ, H2⟩ ⟨i, hi1, s93, s92, s2, s3, s12, s14, rfl⟩
        simp only at s93 s92 s2 s3 s12 s14
        by_cases c : (i : Int) < xs.length
        · have hlt : i < xs.length := by omega
          have ew : IntKind.i64.wrap ((i : Int) + 1) = ((i + 1 : Nat) : Int) := IntWalk.i64_in _ (by omega)
          have g1 : ((xs.take i).map (further (IntKind.u64.wrap ((b : Int) - a))) ++ xs.drop i).length = xs.length := by simp; omega
          have g2 : ((xs.take i).map (further (IntKind.u64.wrap ((b : Int) - a))) ++ xs.drop i)[i]? = some xs[i] := by
            rw [List.getElem?_append_right (by simp; omega)]
            simp [show min i xs.length = i by omega, hlt]
          have g3 : ((xs.take i).map (further (IntKind.u64.wrap ((b : Int) - a))) ++ xs.drop i).set i (further (IntKind.u64.wrap ((b : Int) - a)) xs[i]) = (xs.take (i + 1)).map (further (IntKind.u64.wrap ((b : Int) - a))) ++ xs.drop (i + 1) := by
            rw [List.set_append_right _ _ (by simp; omega)]
            simp only [List.length_map, List.length_take, show min i xs.length = i by omega, Nat.sub_self]
            rw [List.drop_eq_getElem_cons hlt, List.set_cons_zero, List.take_succ_eq_append_getElem hlt, List.map_append, List.append_assoc]
            rfl
          generalize (xs.take i).map (further (IntKind.u64.wrap ((b : Int) - a))) ++ xs.drop i = M at s12 g1 g2 g3
          have e1 : (0 : Int) ≤ (i : Int) := by omega
          have e2 : (i : Int) < M.length := by omega
          have e3 : (rA M)[i]? = some (.agg xs[i].cells) := by simp [rA, g2]
          have e4 : xs[i].cells[0]? = some (.int .u64 xs[i].addr) := rfl
          have e5 : V.int IntKind.u64 (IntKind.u64.wrap (xs[i].addr + IntKind.u64.wrap ((b : Int) - a))) :: xs[i].cells.drop 1 = (further (IntKind.u64.wrap ((b : Int) - a)) xs[i]).cells := rfl
          have e6 : ∀ r : RW, (rA M).set i (.agg r.cells) = rA (M.set i r) := fun r => by simp [rA, List.map_set]
          ((try simp only [go_sem, ↓reduceIte, reduceCtorEq, Nat.reduceLT, Nat.reduceEqDiff, Nat.reduceBEq, Nat.reduceAdd, Nat.reduceMul, Nat.reduceSub, Nat.reduceLeDiff, Int.reduceNeg, Int.reduceLT, Int.reduceLE, Int.reduceEq, Int.reduceAdd, Int.reduceToNat, s93, s92, s2, s3, s12, c, ew, e1, e2, e3, e4, e5, e6, Nat.zero_le]); repeat ((first | refine AW.seq ?_ | refine AW.regionX env_ok (fun t => t == 72 || t == 82 || t == 91 || t == 96) ?_ | refine AW.regionX envR_ok (fun t => t == 72 || t == 82 || t == 91 || t == 96) ?_ | refine AW.skip ?_ | refine AW.block ?_ | refine AW.exit ?_ | refine AW.ret ?_ | (refine AW.cond (b := true) ?_ ?_; simp only [ev, upd, ↓reduceIte, Nat.reduceEqDiff]; rw [if_pos rfl]) | (refine AW.cond (b := false) ?_ ?_; simp only [ev, upd, ↓reduceIte, Nat.reduceEqDiff]; rw [if_neg Bool.false_ne_true]) | fail) <;> try simp only [go_sem, ↓reduceIte, reduceCtorEq, Nat.reduceLT, Nat.reduceEqDiff, Nat.reduceBEq, Nat.reduceAdd, Nat.reduceMul, Nat.reduceSub, Nat.reduceLeDiff, Int.reduceNeg, Int.reduceLT, Int.reduceLE, Int.reduceEq, Int.reduceAdd, Int.reduceToNat, s93, s92, s2, s3, s12, c, ew, e1, e2, e3, e4, e5, e6, Nat.zero_le]))
          exact ⟨⟨i + 1, by omega, rfl, by rw [g3], s14⟩, by omega⟩
        · have : i = xs.length := by omega
          rw [this, List.take_length, List.drop_length, List.append_nil] at s12
          ((try simp only [go_sem, ↓reduceIte, reduceCtorEq, Nat.reduceLT, Nat.reduceEqDiff, Nat.reduceBEq, Nat.reduceAdd, Nat.reduceMul, Nat.reduceSub, Nat.reduceLeDiff, Int.reduceNeg, Int.reduceLT, Int.reduceLE, Int.reduceEq, Int.reduceAdd, Int.reduceToNat, s93, s92, c]); repeat ((first | refine AW.seq ?_ | refine AW.regionX env_ok (fun t => t == 72 || t == 82 || t == 91 || t == 96) ?_ | refine AW.regionX envR_ok (fun t => t == 72 || t == 82 || t == 91 || t == 96) ?_ | refine AW.skip ?_ | refine AW.block ?_ | refine AW.exit ?_ | refine AW.ret ?_ | (refine AW.cond (b := true) ?_ ?_; simp only [ev, upd, ↓reduceIte, Nat.reduceEqDiff]; rw [if_pos rfl]) | (refine AW.cond (b := false) ?_ ?_; simp only [ev, upd, ↓reduceIte, Nat.reduceEqDiff]; rw [if_neg Bool.false_ne_true]) | fail) <;> try simp only [go_sem, ↓reduceIte, reduceCtorEq, Nat.reduceLT, Nat.reduceEqDiff, Nat.reduceBEq, Nat.reduceAdd, Nat.reduceMul, Nat.reduceSub, Nat.reduceLeDiff, Int.reduceNeg, Int.reduceLT, Int.reduceLE, Int.reduceEq, Int.reduceAdd, Int.reduceToNat, s93, s92, c]))
          exact ⟨s12, s14⟩
      · rintro x ⟨σ, H2⟩ ⟨rfl, s12, s14, rfl⟩
        simp only at s12 s14
        ((try simp only [go_sem, ↓reduceIte, reduceCtorEq, Nat.reduceLT, Nat.reduceEqDiff, Nat.reduceBEq, Nat.reduceAdd, Nat.reduceMul, Nat.reduceSub, Nat.reduceLeDiff, Int.reduceNeg, Int.reduceLT, Int.reduceLE, Int.reduceEq, Int.reduceAdd, Int.reduceToNat, s12, s14]); repeat ((first | refine AW.seq ?_ | refine AW.region env_ok ?_ | refine AW.region envR_ok ?_ | refine AW.skip ?_ | refine AW.block ?_ | refine AW.exit ?_ | refine AW.ret ?_ | (refine AW.cond (b := true) ?_ ?_; simp only [ev, upd, ↓reduceIte, Nat.reduceEqDiff]; rw [if_pos rfl]) | (refine AW.cond (b := false) ?_ ?_; simp only [ev, upd, ↓reduceIte, Nat.reduceEqDiff]; rw [if_neg Bool.false_ne_true]) | fail) <;> try simp only [go_sem, ↓reduceIte, reduceCtorEq, Nat.reduceLT, Nat.reduceEqDiff, Nat.reduceBEq, Nat.reduceAdd, Nat.reduceMul, Nat.reduceSub, Nat.reduceLeDiff, Int.reduceNeg, Int.reduceLT, Int.reduceLE, Int.reduceEq, Int.reduceAdd, Int.reduceToNat, s12, s14]))
        refine rSame_spec (by simp; omega) ?_
        rw [decide_eq_true rfl]
        ((try simp only [go_sem, ↓reduceIte, reduceCtorEq, Nat.reduceLT, Nat.reduceEqDiff, Nat.reduceBEq, Nat.reduceAdd, Nat.reduceMul, Nat.reduceSub, Nat.reduceLeDiff, Int.reduceNeg, Int.reduceLT, Int.reduceLE, Int.reduceEq, Int.reduceAdd, Int.reduceToNat]); repeat ((first | refine AW.seq ?_ | refine AW.region env_ok ?_ | refine AW.region envR_ok ?_ | refine AW.skip ?_ | refine AW.block ?_ | refine AW.exit ?_ | refine AW.ret ?_ | (refine AW.cond (b := true) ?_ ?_; simp only [ev, upd, ↓reduceIte, Nat.reduceEqDiff]; rw [if_pos rfl]) | (refine AW.cond (b := false) ?_ ?_; simp only [ev, upd, ↓reduceIte, Nat.reduceEqDiff]; rw [if_neg Bool.false_ne_true]) | fail) <;> try simp only [go_sem, ↓reduceIte, reduceCtorEq, Nat.reduceLT, Nat.reduceEqDiff, Nat.reduceBEq, Nat.reduceAdd, Nat.reduceMul, Nat.reduceSub, Nat.reduceLeDiff, Int.reduceNeg, Int.reduceLT, Int.reduceLE, Int.reduceEq, Int.reduceAdd, Int.reduceToNat]))
        exact .inr h
    · ((try simp only [go_sem, ↓reduceIte, reduceCtorEq, Nat.reduceLT, Nat.reduceEqDiff, Nat.reduceBEq, Nat.reduceAdd, Nat.reduceMul, Nat.reduceSub, Nat.reduceLeDiff, Int.reduceNeg, Int.reduceLT, Int.reduceLE, Int.reduceEq, Int.reduceAdd, Int.reduceToNat, s1, s12, s13, s14, s15, e0, hmin, ew, List.length_map, f5]); repeat ((first | refine AW.seq ?_ | refine AW.regionX env_ok (fun t => t == 72 || t == 82 || t == 91 || t == 96) ?_ | refine AW.regionX envR_ok (fun t => t == 72 || t == 82 || t == 91 || t == 96) ?_ | refine AW.skip ?_ | refine AW.block ?_ | refine AW.exit ?_ | refine AW.ret ?_ | (refine AW.cond (b := true) ?_ ?_; simp only [ev, upd, ↓reduceIte, Nat.reduceEqDiff]; rw [if_pos rfl]) | (refine AW.cond (b := false) ?_ ?_; simp only [ev, upd, ↓reduceIte, Nat.reduceEqDiff]; rw [if_neg Bool.false_ne_true]) | fail) <;> try simp only [go_sem, ↓reduceIte, reduceCtorEq, Nat.reduceLT, Nat.reduceEqDiff, Nat.reduceBEq, Nat.reduceAdd, Nat.reduceMul, Nat.reduceSub, Nat.reduceLeDiff, Int.reduceNeg, Int.reduceLT, Int.reduceLE, Int.reduceEq, Int.reduceAdd, Int.reduceToNat, s1, s12, s13, s14, s15, e0, hmin, ew, List.length_map, f5]))
      rw [← f5]
      refine AW.loop2 (fun st => ∃ i : Nat, i ≤ xs.length ∧ st.σ 93 = .int .i64 i ∧ st.σ 92 = .int .i64 xs.length ∧ st.σ 2 = .int .u64 a ∧ st.σ 3 = .int .u64 b ∧
          st.σ 12 = .sl (rA ((xs.take i).map (further (IntKind.u64.wrap ((b : Int) - a))) ++ xs.drop i)) (some 0) () ∧ st.σ 14 = .sl (rA (xs.map (further (IntKind.u64.wrap ((b : Int) - a))))) none () ∧ st.H = H ++ [.cells hd.cells, .cells hd.thirteen.cells])
        (fun st => match st.σ 93 with | .int _ i => xs.length - i.toNat | _ => 0)
        (fun x st => x = .exit 2 ∧ st.σ 12 = .sl (rA (xs.map (further (IntKind.u64.wrap ((b : Int) - a))))) (some 0) () ∧ st.σ 14 = .sl (rA (xs.map (further (IntKind.u64.wrap ((b : Int) - a))))) none () ∧ st.H = H ++ [.cells hd.cells, .cells hd.thirteen.cells])
        ⟨0, by omega, rfl, rfl, s2, s3, s12, s14, rfl⟩ ?_ ?_
      · rintro ⟨σ, H2⟩ ⟨i, hi1, s93, s92, s2, s3, s12, s14, rfl⟩
        simp only at s93 s92 s2 s3 s12 s14
        by_cases c : (i : Int) < xs.length
        · have hlt : i < xs.length := by omega
          have ew : IntKind.i64.wrap ((i : Int) + 1) = ((i + 1 : Nat) : Int) := IntWalk.i64_in _ (by omega)
          have g1 : ((xs.take i).map (further (IntKind.u64.wrap ((b : Int) - a))) ++ xs.drop i).length = xs.length := by simp; omega
          have g2 : ((xs.take i).map (further (IntKind.u64.wrap ((b : Int) - a))) ++ xs.drop i)[i]? = some xs[i] := by
            rw [List.getElem?_append_right (by simp; omega)]
            simp [show min i xs.length = i by omega, hlt]
          have g3 : ((xs.take i).map (further (IntKind.u64.wrap ((b : Int) - a))) ++ xs.drop i).set i (further (IntKind.u64.wrap ((b : Int) - a)) xs[i]) = (xs.take (i + 1)).map (further (IntKind.u64.wrap ((b : Int) - a))) ++ xs.drop (i + 1) := by
            rw [List.set_append_right _ _ (by simp; omega)]
            simp only [List.length_map, List.length_take, show min i xs.length = i by omega, Nat.sub_self]
            rw [List.drop_eq_getElem_cons hlt, List.set_cons_zero, List.take_succ_eq_append_getElem hlt, List.map_append, List.append_assoc]
            rfl
          generalize (xs.take i).map (further (IntKind.u64.wrap ((b : Int) - a))) ++ xs.drop i = M at s12 g1 g2 g3
          have e1 : (0 : Int) ≤ (i : Int) := by omega
          have e2 : (i : Int) < M.length := by omega
          have e3 : (rA M)[i]? = some (.agg xs[i].cells) := by simp [rA, g2]
          have e4 : xs[i].cells[0]? = some (.int .u64 xs[i].addr) := rfl
          have e5 : V.int IntKind.u64 (IntKind.u64.wrap (xs[i].addr + IntKind.u64.wrap ((b : Int) - a))) :: xs[i].cells.drop 1 = (further (IntKind.u64.wrap ((b : Int) - a)) xs[i]).cells := rfl
          have e6 : ∀ r : RW, (rA M).set i (.agg r.cells) = rA (M.set i r) := fun r => by simp [rA, List.map_set]
          ((try simp only [go_sem, ↓reduceIte, reduceCtorEq, Nat.reduceLT, Nat.reduceEqDiff, Nat.reduceBEq, Nat.reduceAdd, Nat.reduceMul, Nat.reduceSub, Nat.reduceLeDiff, Int.reduceNeg, Int.reduceLT, Int.reduceLE, Int.reduceEq, Int.reduceAdd, Int.reduceToNat, s93, s92, s2, s3, s12, c, ew, e1, e2, e3, e4, e5, e6, Nat.zero_le]); repeat ((first | refine AW.seq ?_ | refine AW.regionX env_ok (fun t => t == 72 || t == 82 || t == 91 || t == 96) ?_ | refine AW.regionX envR_ok (fun t => t == 72 || t == 82 || t == 91 || t == 96) ?_ | refine AW.skip ?_ | refine AW.block ?_ | refine AW.exit ?_ | refine AW.ret ?_ | (refine AW.cond (b := true) ?_ ?_; simp only [ev, upd, ↓reduceIte, Nat.reduceEqDiff]; rw [if_pos rfl]) | (refine AW.cond (b := false) ?_ ?_; simp only [ev, upd, ↓reduceIte, Nat.reduceEqDiff]; rw [if_neg Bool.false_ne_true]) | fail) <;> try simp only [go_sem, ↓reduceIte, reduceCtorEq, Nat.reduceLT, Nat.reduceEqDiff, Nat.reduceBEq, Nat.reduceAdd, Nat.reduceMul, Nat.reduceSub, Nat.reduceLeDiff, Int.reduceNeg, Int.reduceLT, Int.reduceLE, Int.reduceEq, Int.reduceAdd, Int.reduceToNat, s93, s92, s2, s3, s12, c, ew, e1, e2, e3, e4, e5, e6, Nat.zero_le]))
          exact ⟨⟨i + 1, by omega, rfl, by rw [g3], s14⟩, by omega⟩
        · have : i = xs.length := by omega
          rw [this, List.take_length, List.drop_length, List.append_nil] at s12
          ((try simp only [go_sem, ↓reduceIte, reduceCtorEq, Nat.reduceLT, Nat.reduceEqDiff, Nat.reduceBEq, Nat.reduceAdd, Nat.reduceMul, Nat.reduceSub, Nat.reduceLeDiff, Int.reduceNeg, Int.reduceLT, Int.reduceLE, Int.reduceEq, Int.reduceAdd, Int.reduceToNat, s93, s92, c]); repeat ((first | refine AW.seq ?_ | refine AW.regionX env_ok (fun t => t == 72 || t == 82 || t == 91 || t == 96) ?_ | refine AW.regionX envR_ok (fun t => t == 72 || t == 82 || t == 91 || t == 96) ?_ | refine AW.skip ?_ | refine AW.block ?_ | refine AW.exit ?_ | refine AW.ret ?_ | (refine AW.cond (b := true) ?_ ?_; simp only [ev, upd, ↓reduceIte, Nat.reduceEqDiff]; rw [if_pos rfl]) | (refine AW.cond (b := false) ?_ ?_; simp only [ev, upd, ↓reduceIte, Nat.reduceEqDiff]; rw [if_neg Bool.false_ne_true]) | fail) <;> try simp only [go_sem, ↓reduceIte, reduceCtorEq, Nat.reduceLT, Nat.reduceEqDiff, Nat.reduceBEq, Nat.reduceAdd, Nat.reduceMul, Nat.reduceSub, Nat.reduceLeDiff, Int.reduceNeg, Int.reduceLT, Int.reduceLE, Int.reduceEq, Int.reduceAdd, Int.reduceToNat, s93, s92, c]))
          exact ⟨s12, s14⟩
      · rintro x ⟨σ, H2⟩ ⟨rfl, s12, s14, rfl⟩
        simp only at s12 s14
        ((try simp only [go_sem, ↓reduceIte, reduceCtorEq, Nat.reduceLT, Nat.reduceEqDiff, Nat.reduceBEq, Nat.reduceAdd, Nat.reduceMul, Nat.reduceSub, Nat.reduceLeDiff, Int.reduceNeg, Int.reduceLT, Int.reduceLE, Int.reduceEq, Int.reduceAdd, Int.reduceToNat, s12, s14]); repeat ((first | refine AW.seq ?_ | refine AW.region env_ok ?_ | refine AW.region envR_ok ?_ | refine AW.skip ?_ | refine AW.block ?_ | refine AW.exit ?_ | refine AW.ret ?_ | (refine AW.cond (b := true) ?_ ?_; simp only [ev, upd, ↓reduceIte, Nat.reduceEqDiff]; rw [if_pos rfl]) | (refine AW.cond (b := false) ?_ ?_; simp only [ev, upd, ↓reduceIte, Nat.reduceEqDiff]; rw [if_neg Bool.false_ne_true]) | fail) <;> try simp only [go_sem, ↓reduceIte, reduceCtorEq, Nat.reduceLT, Nat.reduceEqDiff, Nat.reduceBEq, Nat.reduceAdd, Nat.reduceMul, Nat.reduceSub, Nat.reduceLeDiff, Int.reduceNeg, Int.reduceLT, Int.reduceLE, Int.reduceEq, Int.reduceAdd, Int.reduceToNat, s12, s14]))
        refine rSame_spec (by simp; omega) ?_
        rw [decide_eq_true rfl]
        ((try simp only [go_sem, ↓reduceIte, reduceCtorEq, Nat.reduceLT, Nat.reduceEqDiff, Nat.reduceBEq, Nat.reduceAdd, Nat.reduceMul, Nat.reduceSub, Nat.reduceLeDiff, Int.reduceNeg, Int.reduceLT, Int.reduceLE, Int.reduceEq, Int.reduceAdd, Int.reduceToNat]); repeat ((first | refine AW.seq ?_ | refine AW.region env_ok ?_ | refine AW.region envR_ok ?_ | refine AW.skip ?_ | refine AW.block ?_ | refine AW.exit ?_ | refine AW.ret ?_ | (refine AW.cond (b := true) ?_ ?_; simp only [ev, upd, ↓reduceIte, Nat.reduceEqDiff]; rw [if_pos rfl]) | (refine AW.cond (b := false) ?_ ?_; simp only [ev, upd, ↓reduceIte, Nat.reduceEqDiff]; rw [if_neg Bool.false_ne_true]) | fail) <;> try simp only [go_sem, ↓reduceIte, reduceCtorEq, Nat.reduceLT, Nat.reduceEqDiff, Nat.reduceBEq, Nat.reduceAdd, Nat.reduceMul, Nat.reduceSub, Nat.reduceLeDiff, Int.reduceNeg, Int.reduceLT, Int.reduceLE, Int.reduceEq, Int.reduceAdd, Int.reduceToNat]))
        exact .inr h
  rintro ⟨σ, H2⟩ ⟨i, hi1, hi2, s11, s1, s2, s3, s9, s10, rfl⟩
  simp only at s11 s1 s2 s3 s9 s10
  by_cases c2 : (i : Int) < l.length
  · by_cases c3 : (i : Int) < 100
    · have hlt : i < l.length := by omega
      have hbd : (0 : Int) ≤ (i : Int) ∧ (i : Int) < l.length := by omega
      ((try simp only [go_sem, ↓reduceIte, reduceCtorEq, Nat.reduceLT, Nat.reduceEqDiff, Nat.reduceBEq, Nat.reduceAdd, Nat.reduceMul, Nat.reduceSub, Nat.reduceLeDiff, Int.reduceNeg, Int.reduceLT, Int.reduceLE, Int.reduceEq, Int.reduceAdd, Int.reduceToNat, s11, s1, c2, c3]); repeat ((first | refine AW.seq ?_ | refine AW.region env_ok ?_ | refine AW.region envR_ok ?_ | refine AW.skip ?_ | refine AW.block ?_ | refine AW.exit ?_ | refine AW.ret ?_ | (refine AW.cond (b := true) ?_ ?_; simp only [ev, upd, ↓reduceIte, Nat.reduceEqDiff]; rw [if_pos rfl]) | (refine AW.cond (b := false) ?_ ?_; simp only [ev, upd, ↓reduceIte, Nat.reduceEqDiff]; rw [if_neg Bool.false_ne_true]) | fail) <;> try simp only [go_sem, ↓reduceIte, reduceCtorEq, Nat.reduceLT, Nat.reduceEqDiff, Nat.reduceBEq, Nat.reduceAdd, Nat.reduceMul, Nat.reduceSub, Nat.reduceLeDiff, Int.reduceNeg, Int.reduceLT, Int.reduceLE, Int.reduceEq, Int.reduceAdd, Int.reduceToNat, s11, s1, c2, c3]))
      refine AW.chain env_ok [0, 0, 3, 0, 0, 24, 56, 127, 0, 511, 1023] [1, 3, 4, 5, 6, 8] [(0, [1, 3, 4, 5, 6, 8], []), (2, [3, 4, 5, 6, 8], []), (7, [8], []), (9, [], []), (10, [], [])] mixed (by decide) ?_
      have hx := uA_at l i (V.undef ()) hlt
      have hln := hl (l.getD i 0) (by rw [List.getD_eq_getElem?_getD, List.getElem?_eq_getElem hlt]; exact List.getElem_mem hlt)
      have hpl := pm_len (l.take i) (fun x hx => hl x (List.mem_of_mem_take hx))
      have htl : (l.take i).length = i := by simp; omega
      have hcap : decide ((pm (l.take i)).length ≤ 140737488355327) = true := decide_eq_true (by omega)
      ((try simp only [go_sem, ↓reduceIte, reduceCtorEq, Nat.reduceLT, Nat.reduceEqDiff, Nat.reduceBEq, Nat.reduceAdd, Nat.reduceMul, Nat.reduceSub, Nat.reduceLeDiff, Int.reduceNeg, Int.reduceLT, Int.reduceLE, Int.reduceEq, Int.reduceAdd, Int.reduceToNat, s1, s10, s11, hbd, hx, hcap, sn2, uni_i1, Nat.zero_le]); repeat ((first | refine AW.seq ?_ | refine AW.region env_ok ?_ | refine AW.region envR_ok ?_ | refine AW.skip ?_ | refine AW.block ?_ | refine AW.exit ?_ | refine AW.ret ?_ | (refine AW.cond (b := true) ?_ ?_; simp only [ev, upd, ↓reduceIte, Nat.reduceEqDiff]; rw [if_pos rfl]) | (refine AW.cond (b := false) ?_ ?_; simp only [ev, upd, ↓reduceIte, Nat.reduceEqDiff]; rw [if_neg Bool.false_ne_true]) | fail) <;> try simp only [go_sem, ↓reduceIte, reduceCtorEq, Nat.reduceLT, Nat.reduceEqDiff, Nat.reduceBEq, Nat.reduceAdd, Nat.reduceMul, Nat.reduceSub, Nat.reduceLeDiff, Int.reduceNeg, Int.reduceLT, Int.reduceLE, Int.reduceEq, Int.reduceAdd, Int.reduceToNat, s1, s10, s11, hbd, hx, hcap, sn2, uni_i1, Nat.zero_le]))
      refine PutU_spec (b := pm (l.take i) ++ [2]) (by simp; omega) (Nat.zero_le _) hln ?_
      have hcap2 : decide ((pm (l.take i) ++ [2] ++ putU (l.getD i 0)).length ≤ 140737488355327) = true := decide_eq_true (by
        have := parts_len (k := 9) (n := l.getD i 0) (by omega)
        rw [← putU_len] at this
        simp only [List.length_append, List.length_cons, List.length_nil]; omega)
      ((try simp only [go_sem, ↓reduceIte, reduceCtorEq, Nat.reduceLT, Nat.reduceEqDiff, Nat.reduceBEq, Nat.reduceAdd, Nat.reduceMul, Nat.reduceSub, Nat.reduceLeDiff, Int.reduceNeg, Int.reduceLT, Int.reduceLE, Int.reduceEq, Int.reduceAdd, Int.reduceToNat, s11, hcap2, sn1, uni_i1, Nat.zero_le]); repeat ((first | refine AW.seq ?_ | refine AW.region env_ok ?_ | refine AW.region envR_ok ?_ | refine AW.skip ?_ | refine AW.block ?_ | refine AW.exit ?_ | refine AW.ret ?_ | (refine AW.cond (b := true) ?_ ?_; simp only [ev, upd, ↓reduceIte, Nat.reduceEqDiff]; rw [if_pos rfl]) | (refine AW.cond (b := false) ?_ ?_; simp only [ev, upd, ↓reduceIte, Nat.reduceEqDiff]; rw [if_neg Bool.false_ne_true]) | fail) <;> try simp only [go_sem, ↓reduceIte, reduceCtorEq, Nat.reduceLT, Nat.reduceEqDiff, Nat.reduceBEq, Nat.reduceAdd, Nat.reduceMul, Nat.reduceSub, Nat.reduceLeDiff, Int.reduceNeg, Int.reduceLT, Int.reduceLE, Int.reduceEq, Int.reduceAdd, Int.reduceToNat, s11, hcap2, sn1, uni_i1, Nat.zero_le]))
      have ew : IntKind.i64.wrap ((i : Int) + 1) = ((i + 1 : Nat) : Int) := IntWalk.i64_in _ (by omega)
      rw [ew]
      refine ⟨⟨i + 1, by omega, by omega, rfl, s1, s2, s3, s9, ?_⟩, by omega⟩
      rw [List.take_succ_eq_append_getElem hlt, pm_snoc, List.getD_eq_getElem?_getD, List.getElem?_eq_getElem hlt]; rfl
    · have : i = 100 := by omega
      rw [this] at s10
      ((try simp only [go_sem, ↓reduceIte, reduceCtorEq, Nat.reduceLT, Nat.reduceEqDiff, Nat.reduceBEq, Nat.reduceAdd, Nat.reduceMul, Nat.reduceSub, Nat.reduceLeDiff, Int.reduceNeg, Int.reduceLT, Int.reduceLE, Int.reduceEq, Int.reduceAdd, Int.reduceToNat, s11, s1, c2, c3]); repeat ((first | refine AW.seq ?_ | refine AW.region env_ok ?_ | refine AW.region envR_ok ?_ | refine AW.skip ?_ | refine AW.block ?_ | refine AW.exit ?_ | refine AW.ret ?_ | (refine AW.cond (b := true) ?_ ?_; simp only [ev, upd, ↓reduceIte, Nat.reduceEqDiff]; rw [if_pos rfl]) | (refine AW.cond (b := false) ?_ ?_; simp only [ev, upd, ↓reduceIte, Nat.reduceEqDiff]; rw [if_neg Bool.false_ne_true]) | fail) <;> try simp only [go_sem, ↓reduceIte, reduceCtorEq, Nat.reduceLT, Nat.reduceEqDiff, Nat.reduceBEq, Nat.reduceAdd, Nat.reduceMul, Nat.reduceSub, Nat.reduceLeDiff, Int.reduceNeg, Int.reduceLT, Int.reduceLE, Int.reduceEq, Int.reduceAdd, Int.reduceToNat, s11, s1, c2, c3]))
      exact ⟨s2, s3, s9, s10⟩
  · have : l.take i = l.take 100 := by rw [List.take_of_length_le (by omega), List.take_of_length_le (by omega)]
    rw [this] at s10
    ((try simp only [go_sem, ↓reduceIte, reduceCtorEq, Nat.reduceLT, Nat.reduceEqDiff, Nat.reduceBEq, Nat.reduceAdd, Nat.reduceMul, Nat.reduceSub, Nat.reduceLeDiff, Int.reduceNeg, Int.reduceLT, Int.reduceLE, Int.reduceEq, Int.reduceAdd, Int.reduceToNat, s11, s1, c2]); repeat ((first | refine AW.seq ?_ | refine AW.region env_ok ?_ | refine AW.region envR_ok ?_ | refine AW.skip ?_ | refine AW.block ?_ | refine AW.exit ?_ | refine AW.ret ?_ | (refine AW.cond (b := true) ?_ ?_; simp only [ev, upd, ↓reduceIte, Nat.reduceEqDiff]; rw [if_pos rfl]) | (refine AW.cond (b := false) ?_ ?_; simp only [ev, upd, ↓reduceIte, Nat.reduceEqDiff]; rw [if_neg Bool.false_ne_true]) | fail) <;> try simp only [go_sem, ↓reduceIte, reduceCtorEq, Nat.reduceLT, Nat.reduceEqDiff, Nat.reduceBEq, Nat.reduceAdd, Nat.reduceMul, Nat.reduceSub, Nat.reduceLeDiff, Int.reduceNeg, Int.reduceLT, Int.reduceLE, Int.reduceEq, Int.reduceAdd, Int.reduceToNat, s11, s1, c2]))
    exact ⟨s2, s3, s9, s10⟩
end
end Go.Ab
end
