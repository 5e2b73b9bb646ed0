/- Contracts of the functions that the law reaches. -/
import Derived.Test.YtmkeloggcfdmjaaMvPartD
import Derived.Test.YtmkeloggcfdmjaaMvPartC
set_option linter.all false
set_option linter.unusedSimpArgs false
set_option linter.unusedVariables false
set_option linter.unnecessarySimpa false
section
/- Package linerun: standard operations. -/
namespace Go.Ab
open V Go.Proofs
set_option maxHeartbeats 4000000
set_option maxRecDepth 10000
set_option linter.unusedSimpArgs false
set_option linter.unusedVariables false

section
variable {hd : HD} {H G : Heap} {Q : A → Heap → Prop} {m : MS} {pc pm k : Nat}

theorem standard_code_spec {code : Nat} (hi : hd.In) (hR : hd.Right) (hcode : code = 0 ∨ (code : Int) < hd.codes) (h0 : m.s.err = 0) (hs : m.s.Ok) (hb : m.s.b.length < 140737488355328) (hout : m.out.length ≤ 2000) (hk : k ≤ m.out.length)
    (h : Q (.tup []) (H ++ [.cells (m.standard hd code).s.cur, (m.standard hd code).ob hd H.length k])) :
    AC Try.prog 22 [.ptr (some (H.length + 1, 0)), .int .i64 code] (H ++ [.cells m.s.cur, m.ob hd H.length k]) Q := by
  obtain ⟨hr1, hr2, hr3, hr4, hr5, hr6, hr7⟩ := hR.1
  have hrange : hd.range ≠ 0 := by omega
  have hlt0 : H.length ≠ H.length + 1 := by omega
  refine AC.enter (E := env Try.prog 154 (fun _ => .copy) (fun _ => false)) env_ok Try.func22 rfl rfl rfl (by simp only [List.length_cons, List.length_nil]; exact of_decide_eq_true rfl) ?_
  by_cases e0 : code = 0
  · subst e0
    ((try simp only [go_sem, ↓reduceIte, reduceCtorEq, Nat.reduceLT, Nat.reduceEqDiff, Nat.reduceBEq, Nat.reduceAdd, Nat.reduceMul, Nat.reduceSub, Nat.reduceLeDiff, Int.reduceNeg, Int.reduceLT, Int.reduceLE, Int.reduceEq, Int.reduceAdd, Int.reduceToNat]); repeat ((first | refine AW.seq ?_ | refine AW.region env_ok ?_ | refine AW.region envR_ok ?_ | refine AW.skip ?_ | refine AW.block ?_ | refine AW.exit ?_ | refine AW.ret ?_ | (refine AW.cond (b := true) ?_ ?_; simp only [ev, upd, ↓reduceIte, Nat.reduceEqDiff]; rw [if_pos rfl]) | (refine AW.cond (b := false) ?_ ?_; simp only [ev, upd, ↓reduceIte, Nat.reduceEqDiff]; rw [if_neg Bool.false_ne_true]) | fail) <;> try simp only [go_sem, ↓reduceIte, reduceCtorEq, Nat.reduceLT, Nat.reduceEqDiff, Nat.reduceBEq, Nat.reduceAdd, Nat.reduceMul, Nat.reduceSub, Nat.reduceLeDiff, Int.reduceNeg, Int.reduceLT, Int.reduceLE, Int.reduceEq, Int.reduceAdd, Int.reduceToNat]))
    refine long_spec hs hb hout hk ?_
    ((try simp only [go_sem, ↓reduceIte, reduceCtorEq, Nat.reduceLT, Nat.reduceEqDiff, Nat.reduceBEq, Nat.reduceAdd, Nat.reduceMul, Nat.reduceSub, Nat.reduceLeDiff, Int.reduceNeg, Int.reduceLT, Int.reduceLE, Int.reduceEq, Int.reduceAdd, Int.reduceToNat]); repeat ((first | refine AW.seq ?_ | refine AW.region env_ok ?_ | refine AW.region envR_ok ?_ | refine AW.skip ?_ | refine AW.block ?_ | refine AW.exit ?_ | refine AW.ret ?_ | (refine AW.cond (b := true) ?_ ?_; simp only [ev, upd, ↓reduceIte, Nat.reduceEqDiff]; rw [if_pos rfl]) | (refine AW.cond (b := false) ?_ ?_; simp only [ev, upd, ↓reduceIte, Nat.reduceEqDiff]; rw [if_neg Bool.false_ne_true]) | fail) <;> try simp only [go_sem, ↓reduceIte, reduceCtorEq, Nat.reduceLT, Nat.reduceEqDiff, Nat.reduceBEq, Nat.reduceAdd, Nat.reduceMul, Nat.reduceSub, Nat.reduceLeDiff, Int.reduceNeg, Int.reduceLT, Int.reduceLE, Int.reduceEq, Int.reduceAdd, Int.reduceToNat]))
    exact .inl h
  by_cases e1 : code = 1
  · subst e1
    ((try simp only [go_sem, ↓reduceIte, reduceCtorEq, Nat.reduceLT, Nat.reduceEqDiff, Nat.reduceBEq, Nat.reduceAdd, Nat.reduceMul, Nat.reduceSub, Nat.reduceLeDiff, Int.reduceNeg, Int.reduceLT, Int.reduceLE, Int.reduceEq, Int.reduceAdd, Int.reduceToNat]); repeat ((first | refine AW.seq ?_ | refine AW.region env_ok ?_ | refine AW.region envR_ok ?_ | refine AW.skip ?_ | refine AW.block ?_ | refine AW.exit ?_ | refine AW.ret ?_ | (refine AW.cond (b := true) ?_ ?_; simp only [ev, upd, ↓reduceIte, Nat.reduceEqDiff]; rw [if_pos rfl]) | (refine AW.cond (b := false) ?_ ?_; simp only [ev, upd, ↓reduceIte, Nat.reduceEqDiff]; rw [if_neg Bool.false_ne_true]) | fail) <;> try simp only [go_sem, ↓reduceIte, reduceCtorEq, Nat.reduceLT, Nat.reduceEqDiff, Nat.reduceBEq, Nat.reduceAdd, Nat.reduceMul, Nat.reduceSub, Nat.reduceLeDiff, Int.reduceNeg, Int.reduceLT, Int.reduceLE, Int.reduceEq, Int.reduceAdd, Int.reduceToNat]))
    refine told_spec hlt0 h0 hout hk (two_0 ..) (two_1 ..) ?_
    ((try simp only [go_sem, ↓reduceIte, reduceCtorEq, Nat.reduceLT, Nat.reduceEqDiff, Nat.reduceBEq, Nat.reduceAdd, Nat.reduceMul, Nat.reduceSub, Nat.reduceLeDiff, Int.reduceNeg, Int.reduceLT, Int.reduceLE, Int.reduceEq, Int.reduceAdd, Int.reduceToNat]); repeat ((first | refine AW.seq ?_ | refine AW.region env_ok ?_ | refine AW.region envR_ok ?_ | refine AW.skip ?_ | refine AW.block ?_ | refine AW.exit ?_ | refine AW.ret ?_ | (refine AW.cond (b := true) ?_ ?_; simp only [ev, upd, ↓reduceIte, Nat.reduceEqDiff]; rw [if_pos rfl]) | (refine AW.cond (b := false) ?_ ?_; simp only [ev, upd, ↓reduceIte, Nat.reduceEqDiff]; rw [if_neg Bool.false_ne_true]) | fail) <;> try simp only [go_sem, ↓reduceIte, reduceCtorEq, Nat.reduceLT, Nat.reduceEqDiff, Nat.reduceBEq, Nat.reduceAdd, Nat.reduceMul, Nat.reduceSub, Nat.reduceLeDiff, Int.reduceNeg, Int.reduceLT, Int.reduceLE, Int.reduceEq, Int.reduceAdd, Int.reduceToNat]))
    exact .inl h
  by_cases e2 : code = 2
  · subst e2
    ((try simp only [go_sem, ↓reduceIte, reduceCtorEq, Nat.reduceLT, Nat.reduceEqDiff, Nat.reduceBEq, Nat.reduceAdd, Nat.reduceMul, Nat.reduceSub, Nat.reduceLeDiff, Int.reduceNeg, Int.reduceLT, Int.reduceLE, Int.reduceEq, Int.reduceAdd, Int.reduceToNat]); repeat ((first | refine AW.seq ?_ | refine AW.region env_ok ?_ | refine AW.region envR_ok ?_ | refine AW.skip ?_ | refine AW.block ?_ | refine AW.exit ?_ | refine AW.ret ?_ | (refine AW.cond (b := true) ?_ ?_; simp only [ev, upd, ↓reduceIte, Nat.reduceEqDiff]; rw [if_pos rfl]) | (refine AW.cond (b := false) ?_ ?_; simp only [ev, upd, ↓reduceIte, Nat.reduceEqDiff]; rw [if_neg Bool.false_ne_true]) | fail) <;> try simp only [go_sem, ↓reduceIte, reduceCtorEq, Nat.reduceLT, Nat.reduceEqDiff, Nat.reduceBEq, Nat.reduceAdd, Nat.reduceMul, Nat.reduceSub, Nat.reduceLeDiff, Int.reduceNeg, Int.reduceLT, Int.reduceLE, Int.reduceEq, Int.reduceAdd, Int.reduceToNat]))
    refine U_spec hs (two_0 ..) ?_
    ((try simp only [go_sem, ↓reduceIte, reduceCtorEq, Nat.reduceLT, Nat.reduceEqDiff, Nat.reduceBEq, Nat.reduceAdd, Nat.reduceMul, Nat.reduceSub, Nat.reduceLeDiff, Int.reduceNeg, Int.reduceLT, Int.reduceLE, Int.reduceEq, Int.reduceAdd, Int.reduceToNat]); repeat ((first | refine AW.seq ?_ | refine AW.region env_ok ?_ | refine AW.region envR_ok ?_ | refine AW.skip ?_ | refine AW.block ?_ | refine AW.exit ?_ | refine AW.ret ?_ | (refine AW.cond (b := true) ?_ ?_; simp only [ev, upd, ↓reduceIte, Nat.reduceEqDiff]; rw [if_pos rfl]) | (refine AW.cond (b := false) ?_ ?_; simp only [ev, upd, ↓reduceIte, Nat.reduceEqDiff]; rw [if_neg Bool.false_ne_true]) | fail) <;> try simp only [go_sem, ↓reduceIte, reduceCtorEq, Nat.reduceLT, Nat.reduceEqDiff, Nat.reduceBEq, Nat.reduceAdd, Nat.reduceMul, Nat.reduceSub, Nat.reduceLeDiff, Int.reduceNeg, Int.reduceLT, Int.reduceLE, Int.reduceEq, Int.reduceAdd, Int.reduceToNat]))
    refine by_spec (m := { m with s := m.s.uleb.2 }) (k := k) (two_1 ..) ?_
    ((try simp only [go_sem, ↓reduceIte, reduceCtorEq, Nat.reduceLT, Nat.reduceEqDiff, Nat.reduceBEq, Nat.reduceAdd, Nat.reduceMul, Nat.reduceSub, Nat.reduceLeDiff, Int.reduceNeg, Int.reduceLT, Int.reduceLE, Int.reduceEq, Int.reduceAdd, Int.reduceToNat]); repeat ((first | refine AW.seq ?_ | refine AW.region env_ok ?_ | refine AW.region envR_ok ?_ | refine AW.skip ?_ | refine AW.block ?_ | refine AW.exit ?_ | refine AW.ret ?_ | (refine AW.cond (b := true) ?_ ?_; simp only [ev, upd, ↓reduceIte, Nat.reduceEqDiff]; rw [if_pos rfl]) | (refine AW.cond (b := false) ?_ ?_; simp only [ev, upd, ↓reduceIte, Nat.reduceEqDiff]; rw [if_neg Bool.false_ne_true]) | fail) <;> try simp only [go_sem, ↓reduceIte, reduceCtorEq, Nat.reduceLT, Nat.reduceEqDiff, Nat.reduceBEq, Nat.reduceAdd, Nat.reduceMul, Nat.reduceSub, Nat.reduceLeDiff, Int.reduceNeg, Int.reduceLT, Int.reduceLE, Int.reduceEq, Int.reduceAdd, Int.reduceToNat]))
    exact .inl h
  by_cases e3 : code = 3
  · subst e3
    ((try simp only [go_sem, ↓reduceIte, reduceCtorEq, Nat.reduceLT, Nat.reduceEqDiff, Nat.reduceBEq, Nat.reduceAdd, Nat.reduceMul, Nat.reduceSub, Nat.reduceLeDiff, Int.reduceNeg, Int.reduceLT, Int.reduceLE, Int.reduceEq, Int.reduceAdd, Int.reduceToNat]); repeat ((first | refine AW.seq ?_ | refine AW.region env_ok ?_ | refine AW.region envR_ok ?_ | refine AW.skip ?_ | refine AW.block ?_ | refine AW.exit ?_ | refine AW.ret ?_ | (refine AW.cond (b := true) ?_ ?_; simp only [ev, upd, ↓reduceIte, Nat.reduceEqDiff]; rw [if_pos rfl]) | (refine AW.cond (b := false) ?_ ?_; simp only [ev, upd, ↓reduceIte, Nat.reduceEqDiff]; rw [if_neg Bool.false_ne_true]) | fail) <;> try simp only [go_sem, ↓reduceIte, reduceCtorEq, Nat.reduceLT, Nat.reduceEqDiff, Nat.reduceBEq, Nat.reduceAdd, Nat.reduceMul, Nat.reduceSub, Nat.reduceLeDiff, Int.reduceNeg, Int.reduceLT, Int.reduceLE, Int.reduceEq, Int.reduceAdd, Int.reduceToNat]))
    refine S_spec hs (two_0 ..) ?_
    ((try simp only [go_sem, ↓reduceIte, reduceCtorEq, Nat.reduceLT, Nat.reduceEqDiff, Nat.reduceBEq, Nat.reduceAdd, Nat.reduceMul, Nat.reduceSub, Nat.reduceLeDiff, Int.reduceNeg, Int.reduceLT, Int.reduceLE, Int.reduceEq, Int.reduceAdd, Int.reduceToNat]); repeat ((first | refine AW.seq ?_ | refine AW.region env_ok ?_ | refine AW.region envR_ok ?_ | refine AW.skip ?_ | refine AW.block ?_ | refine AW.exit ?_ | refine AW.ret ?_ | (refine AW.cond (b := true) ?_ ?_; simp only [ev, upd, ↓reduceIte, Nat.reduceEqDiff]; rw [if_pos rfl]) | (refine AW.cond (b := false) ?_ ?_; simp only [ev, upd, ↓reduceIte, Nat.reduceEqDiff]; rw [if_neg Bool.false_ne_true]) | fail) <;> try simp only [go_sem, ↓reduceIte, reduceCtorEq, Nat.reduceLT, Nat.reduceEqDiff, Nat.reduceBEq, Nat.reduceAdd, Nat.reduceMul, Nat.reduceSub, Nat.reduceLeDiff, Int.reduceNeg, Int.reduceLT, Int.reduceLE, Int.reduceEq, Int.reduceAdd, Int.reduceToNat]))
    refine line_spec (m := { m with s := m.s.sleb.2 }) (k := k) hlt0 (two_0 ..) (two_1 ..) ?_
    ((try simp only [go_sem, ↓reduceIte, reduceCtorEq, Nat.reduceLT, Nat.reduceEqDiff, Nat.reduceBEq, Nat.reduceAdd, Nat.reduceMul, Nat.reduceSub, Nat.reduceLeDiff, Int.reduceNeg, Int.reduceLT, Int.reduceLE, Int.reduceEq, Int.reduceAdd, Int.reduceToNat]); repeat ((first | refine AW.seq ?_ | refine AW.region env_ok ?_ | refine AW.region envR_ok ?_ | refine AW.skip ?_ | refine AW.block ?_ | refine AW.exit ?_ | refine AW.ret ?_ | (refine AW.cond (b := true) ?_ ?_; simp only [ev, upd, ↓reduceIte, Nat.reduceEqDiff]; rw [if_pos rfl]) | (refine AW.cond (b := false) ?_ ?_; simp only [ev, upd, ↓reduceIte, Nat.reduceEqDiff]; rw [if_neg Bool.false_ne_true]) | fail) <;> try simp only [go_sem, ↓reduceIte, reduceCtorEq, Nat.reduceLT, Nat.reduceEqDiff, Nat.reduceBEq, Nat.reduceAdd, Nat.reduceMul, Nat.reduceSub, Nat.reduceLeDiff, Int.reduceNeg, Int.reduceLT, Int.reduceLE, Int.reduceEq, Int.reduceAdd, Int.reduceToNat]))
    exact .inl h
  by_cases e4 : code = 4
  · subst e4
    ((try simp only [go_sem, ↓reduceIte, reduceCtorEq, Nat.reduceLT, Nat.reduceEqDiff, Nat.reduceBEq, Nat.reduceAdd, Nat.reduceMul, Nat.reduceSub, Nat.reduceLeDiff, Int.reduceNeg, Int.reduceLT, Int.reduceLE, Int.reduceEq, Int.reduceAdd, Int.reduceToNat]); repeat ((first | refine AW.seq ?_ | refine AW.region env_ok ?_ | refine AW.region envR_ok ?_ | refine AW.skip ?_ | refine AW.block ?_ | refine AW.exit ?_ | refine AW.ret ?_ | (refine AW.cond (b := true) ?_ ?_; simp only [ev, upd, ↓reduceIte, Nat.reduceEqDiff]; rw [if_pos rfl]) | (refine AW.cond (b := false) ?_ ?_; simp only [ev, upd, ↓reduceIte, Nat.reduceEqDiff]; rw [if_neg Bool.false_ne_true]) | fail) <;> try simp only [go_sem, ↓reduceIte, reduceCtorEq, Nat.reduceLT, Nat.reduceEqDiff, Nat.reduceBEq, Nat.reduceAdd, Nat.reduceMul, Nat.reduceSub, Nat.reduceLeDiff, Int.reduceNeg, Int.reduceLT, Int.reduceLE, Int.reduceEq, Int.reduceAdd, Int.reduceToNat]))
    refine U_spec hs (two_0 ..) ?_
    ((try simp only [go_sem, ↓reduceIte, reduceCtorEq, Nat.reduceLT, Nat.reduceEqDiff, Nat.reduceBEq, Nat.reduceAdd, Nat.reduceMul, Nat.reduceSub, Nat.reduceLeDiff, Int.reduceNeg, Int.reduceLT, Int.reduceLE, Int.reduceEq, Int.reduceAdd, Int.reduceToNat]); repeat ((first | refine AW.seq ?_ | refine AW.region env_ok ?_ | refine AW.region envR_ok ?_ | refine AW.skip ?_ | refine AW.block ?_ | refine AW.exit ?_ | refine AW.ret ?_ | (refine AW.cond (b := true) ?_ ?_; simp only [ev, upd, ↓reduceIte, Nat.reduceEqDiff]; rw [if_pos rfl]) | (refine AW.cond (b := false) ?_ ?_; simp only [ev, upd, ↓reduceIte, Nat.reduceEqDiff]; rw [if_neg Bool.false_ne_true]) | fail) <;> try simp only [go_sem, ↓reduceIte, reduceCtorEq, Nat.reduceLT, Nat.reduceEqDiff, Nat.reduceBEq, Nat.reduceAdd, Nat.reduceMul, Nat.reduceSub, Nat.reduceLeDiff, Int.reduceNeg, Int.reduceLT, Int.reduceLE, Int.reduceEq, Int.reduceAdd, Int.reduceToNat]))
    refine small_spec (m := { m with s := m.s.uleb.2 }) (k := k) (two_0 ..) (two_1 ..) ?_
    by_cases c : m.s.uleb.1 > 2147483647
    · ((try simp only [go_sem, ↓reduceIte, reduceCtorEq, Nat.reduceLT, Nat.reduceEqDiff, Nat.reduceBEq, Nat.reduceAdd, Nat.reduceMul, Nat.reduceSub, Nat.reduceLeDiff, Int.reduceNeg, Int.reduceLT, Int.reduceLE, Int.reduceEq, Int.reduceAdd, Int.reduceToNat, c]); repeat ((first | refine AW.seq ?_ | refine AW.region env_ok ?_ | refine AW.region envR_ok ?_ | refine AW.skip ?_ | refine AW.block ?_ | refine AW.exit ?_ | refine AW.ret ?_ | (refine AW.cond (b := true) ?_ ?_; simp only [ev, upd, ↓reduceIte, Nat.reduceEqDiff]; rw [if_pos rfl]) | (refine AW.cond (b := false) ?_ ?_; simp only [ev, upd, ↓reduceIte, Nat.reduceEqDiff]; rw [if_neg Bool.false_ne_true]) | fail) <;> try simp only [go_sem, ↓reduceIte, reduceCtorEq, Nat.reduceLT, Nat.reduceEqDiff, Nat.reduceBEq, Nat.reduceAdd, Nat.reduceMul, Nat.reduceSub, Nat.reduceLeDiff, Int.reduceNeg, Int.reduceLT, Int.reduceLE, Int.reduceEq, Int.reduceAdd, Int.reduceToNat, c]))
      have := h
      simp only [MS.standard, CS.small, if_pos c] at this
      exact .inl this
    · ((try simp only [go_sem, ↓reduceIte, reduceCtorEq, Nat.reduceLT, Nat.reduceEqDiff, Nat.reduceBEq, Nat.reduceAdd, Nat.reduceMul, Nat.reduceSub, Nat.reduceLeDiff, Int.reduceNeg, Int.reduceLT, Int.reduceLE, Int.reduceEq, Int.reduceAdd, Int.reduceToNat, c]); repeat ((first | refine AW.seq ?_ | refine AW.region env_ok ?_ | refine AW.region envR_ok ?_ | refine AW.skip ?_ | refine AW.block ?_ | refine AW.exit ?_ | refine AW.ret ?_ | (refine AW.cond (b := true) ?_ ?_; simp only [ev, upd, ↓reduceIte, Nat.reduceEqDiff]; rw [if_pos rfl]) | (refine AW.cond (b := false) ?_ ?_; simp only [ev, upd, ↓reduceIte, Nat.reduceEqDiff]; rw [if_neg Bool.false_ne_true]) | fail) <;> try simp only [go_sem, ↓reduceIte, reduceCtorEq, Nat.reduceLT, Nat.reduceEqDiff, Nat.reduceBEq, Nat.reduceAdd, Nat.reduceMul, Nat.reduceSub, Nat.reduceLeDiff, Int.reduceNeg, Int.reduceLT, Int.reduceLE, Int.reduceEq, Int.reduceAdd, Int.reduceToNat, c]))
      have := h
      simp only [MS.standard, CS.small, if_neg c] at this
      exact .inl this
  by_cases e5 : code = 5
  · subst e5
    ((try simp only [go_sem, ↓reduceIte, reduceCtorEq, Nat.reduceLT, Nat.reduceEqDiff, Nat.reduceBEq, Nat.reduceAdd, Nat.reduceMul, Nat.reduceSub, Nat.reduceLeDiff, Int.reduceNeg, Int.reduceLT, Int.reduceLE, Int.reduceEq, Int.reduceAdd, Int.reduceToNat]); repeat ((first | refine AW.seq ?_ | refine AW.region env_ok ?_ | refine AW.region envR_ok ?_ | refine AW.skip ?_ | refine AW.block ?_ | refine AW.exit ?_ | refine AW.ret ?_ | (refine AW.cond (b := true) ?_ ?_; simp only [ev, upd, ↓reduceIte, Nat.reduceEqDiff]; rw [if_pos rfl]) | (refine AW.cond (b := false) ?_ ?_; simp only [ev, upd, ↓reduceIte, Nat.reduceEqDiff]; rw [if_neg Bool.false_ne_true]) | fail) <;> try simp only [go_sem, ↓reduceIte, reduceCtorEq, Nat.reduceLT, Nat.reduceEqDiff, Nat.reduceBEq, Nat.reduceAdd, Nat.reduceMul, Nat.reduceSub, Nat.reduceLeDiff, Int.reduceNeg, Int.reduceLT, Int.reduceLE, Int.reduceEq, Int.reduceAdd, Int.reduceToNat]))
    refine U_spec hs (two_0 ..) ?_
    ((try simp only [go_sem, ↓reduceIte, reduceCtorEq, Nat.reduceLT, Nat.reduceEqDiff, Nat.reduceBEq, Nat.reduceAdd, Nat.reduceMul, Nat.reduceSub, Nat.reduceLeDiff, Int.reduceNeg, Int.reduceLT, Int.reduceLE, Int.reduceEq, Int.reduceAdd, Int.reduceToNat]); repeat ((first | refine AW.seq ?_ | refine AW.region env_ok ?_ | refine AW.region envR_ok ?_ | refine AW.skip ?_ | refine AW.block ?_ | refine AW.exit ?_ | refine AW.ret ?_ | (refine AW.cond (b := true) ?_ ?_; simp only [ev, upd, ↓reduceIte, Nat.reduceEqDiff]; rw [if_pos rfl]) | (refine AW.cond (b := false) ?_ ?_; simp only [ev, upd, ↓reduceIte, Nat.reduceEqDiff]; rw [if_neg Bool.false_ne_true]) | fail) <;> try simp only [go_sem, ↓reduceIte, reduceCtorEq, Nat.reduceLT, Nat.reduceEqDiff, Nat.reduceBEq, Nat.reduceAdd, Nat.reduceMul, Nat.reduceSub, Nat.reduceLeDiff, Int.reduceNeg, Int.reduceLT, Int.reduceLE, Int.reduceEq, Int.reduceAdd, Int.reduceToNat]))
    refine small_spec (m := { m with s := m.s.uleb.2 }) (k := k) (two_0 ..) (two_1 ..) ?_
    by_cases c : m.s.uleb.1 > 2147483647
    · ((try simp only [go_sem, ↓reduceIte, reduceCtorEq, Nat.reduceLT, Nat.reduceEqDiff, Nat.reduceBEq, Nat.reduceAdd, Nat.reduceMul, Nat.reduceSub, Nat.reduceLeDiff, Int.reduceNeg, Int.reduceLT, Int.reduceLE, Int.reduceEq, Int.reduceAdd, Int.reduceToNat, c]); repeat ((first | refine AW.seq ?_ | refine AW.region env_ok ?_ | refine AW.region envR_ok ?_ | refine AW.skip ?_ | refine AW.block ?_ | refine AW.exit ?_ | refine AW.ret ?_ | (refine AW.cond (b := true) ?_ ?_; simp only [ev, upd, ↓reduceIte, Nat.reduceEqDiff]; rw [if_pos rfl]) | (refine AW.cond (b := false) ?_ ?_; simp only [ev, upd, ↓reduceIte, Nat.reduceEqDiff]; rw [if_neg Bool.false_ne_true]) | fail) <;> try simp only [go_sem, ↓reduceIte, reduceCtorEq, Nat.reduceLT, Nat.reduceEqDiff, Nat.reduceBEq, Nat.reduceAdd, Nat.reduceMul, Nat.reduceSub, Nat.reduceLeDiff, Int.reduceNeg, Int.reduceLT, Int.reduceLE, Int.reduceEq, Int.reduceAdd, Int.reduceToNat, c]))
      have := h
      simp only [MS.standard, CS.small, if_pos c] at this
      exact .inl this
    · ((try simp only [go_sem, ↓reduceIte, reduceCtorEq, Nat.reduceLT, Nat.reduceEqDiff, Nat.reduceBEq, Nat.reduceAdd, Nat.reduceMul, Nat.reduceSub, Nat.reduceLeDiff, Int.reduceNeg, Int.reduceLT, Int.reduceLE, Int.reduceEq, Int.reduceAdd, Int.reduceToNat, c]); repeat ((first | refine AW.seq ?_ | refine AW.region env_ok ?_ | refine AW.region envR_ok ?_ | refine AW.skip ?_ | refine AW.block ?_ | refine AW.exit ?_ | refine AW.ret ?_ | (refine AW.cond (b := true) ?_ ?_; simp only [ev, upd, ↓reduceIte, Nat.reduceEqDiff]; rw [if_pos rfl]) | (refine AW.cond (b := false) ?_ ?_; simp only [ev, upd, ↓reduceIte, Nat.reduceEqDiff]; rw [if_neg Bool.false_ne_true]) | fail) <;> try simp only [go_sem, ↓reduceIte, reduceCtorEq, Nat.reduceLT, Nat.reduceEqDiff, Nat.reduceBEq, Nat.reduceAdd, Nat.reduceMul, Nat.reduceSub, Nat.reduceLeDiff, Int.reduceNeg, Int.reduceLT, Int.reduceLE, Int.reduceEq, Int.reduceAdd, Int.reduceToNat, c]))
      have := h
      simp only [MS.standard, CS.small, if_neg c] at this
      exact .inl this
  by_cases e6 : code = 6
  · subst e6
    ((try simp only [go_sem, ↓reduceIte, reduceCtorEq, Nat.reduceLT, Nat.reduceEqDiff, Nat.reduceBEq, Nat.reduceAdd, Nat.reduceMul, Nat.reduceSub, Nat.reduceLeDiff, Int.reduceNeg, Int.reduceLT, Int.reduceLE, Int.reduceEq, Int.reduceAdd, Int.reduceToNat]); repeat ((first | refine AW.seq ?_ | refine AW.region env_ok ?_ | refine AW.region envR_ok ?_ | refine AW.skip ?_ | refine AW.block ?_ | refine AW.exit ?_ | refine AW.ret ?_ | (refine AW.cond (b := true) ?_ ?_; simp only [ev, upd, ↓reduceIte, Nat.reduceEqDiff]; rw [if_pos rfl]) | (refine AW.cond (b := false) ?_ ?_; simp only [ev, upd, ↓reduceIte, Nat.reduceEqDiff]; rw [if_neg Bool.false_ne_true]) | fail) <;> try simp only [go_sem, ↓reduceIte, reduceCtorEq, Nat.reduceLT, Nat.reduceEqDiff, Nat.reduceBEq, Nat.reduceAdd, Nat.reduceMul, Nat.reduceSub, Nat.reduceLeDiff, Int.reduceNeg, Int.reduceLT, Int.reduceLE, Int.reduceEq, Int.reduceAdd, Int.reduceToNat]))
    exact .inl h
  by_cases e8 : code = 8
  · subst e8
    ((try simp only [go_sem, ↓reduceIte, reduceCtorEq, Nat.reduceLT, Nat.reduceEqDiff, Nat.reduceBEq, Nat.reduceAdd, Nat.reduceMul, Nat.reduceSub, Nat.reduceLeDiff, Int.reduceNeg, Int.reduceLT, Int.reduceLE, Int.reduceEq, Int.reduceAdd, Int.reduceToNat]); repeat ((first | refine AW.seq ?_ | refine AW.region env_ok ?_ | refine AW.region envR_ok ?_ | refine AW.skip ?_ | refine AW.block ?_ | refine AW.exit ?_ | refine AW.ret ?_ | (refine AW.cond (b := true) ?_ ?_; simp only [ev, upd, ↓reduceIte, Nat.reduceEqDiff]; rw [if_pos rfl]) | (refine AW.cond (b := false) ?_ ?_; simp only [ev, upd, ↓reduceIte, Nat.reduceEqDiff]; rw [if_neg Bool.false_ne_true]) | fail) <;> try simp only [go_sem, ↓reduceIte, reduceCtorEq, Nat.reduceLT, Nat.reduceEqDiff, Nat.reduceBEq, Nat.reduceAdd, Nat.reduceMul, Nat.reduceSub, Nat.reduceLeDiff, Int.reduceNeg, Int.reduceLT, Int.reduceLE, Int.reduceEq, Int.reduceAdd, Int.reduceToNat]))
    refine AW.chain env_ok [0, 0, 2, 6, 14, 30, 62, 0, 128, 384, 896, 1920, 4094, 8190, 16383] [0, 1, 2, 3, 4, 5, 6, 7, 8, 9, 10, 11, 12, 13] [(14, [], [])] mixed (by decide) ?_
    ((try simp only [go_sem, ↓reduceIte, reduceCtorEq, Nat.reduceLT, Nat.reduceEqDiff, Nat.reduceBEq, Nat.reduceAdd, Nat.reduceMul, Nat.reduceSub, Nat.reduceLeDiff, Int.reduceNeg, Int.reduceLT, Int.reduceLE, Int.reduceEq, Int.reduceAdd, Int.reduceToNat, hrange]); repeat ((first | refine AW.seq ?_ | refine AW.region env_ok ?_ | refine AW.region envR_ok ?_ | refine AW.skip ?_ | refine AW.block ?_ | refine AW.exit ?_ | refine AW.ret ?_ | (refine AW.cond (b := true) ?_ ?_; simp only [ev, upd, ↓reduceIte, Nat.reduceEqDiff]; rw [if_pos rfl]) | (refine AW.cond (b := false) ?_ ?_; simp only [ev, upd, ↓reduceIte, Nat.reduceEqDiff]; rw [if_neg Bool.false_ne_true]) | fail) <;> try simp only [go_sem, ↓reduceIte, reduceCtorEq, Nat.reduceLT, Nat.reduceEqDiff, Nat.reduceBEq, Nat.reduceAdd, Nat.reduceMul, Nat.reduceSub, Nat.reduceLeDiff, Int.reduceNeg, Int.reduceLT, Int.reduceLE, Int.reduceEq, Int.reduceAdd, Int.reduceToNat, hrange]))
    refine by_spec (m := m) (k := k) (two_1 ..) ?_
    ((try simp only [go_sem, ↓reduceIte, reduceCtorEq, Nat.reduceLT, Nat.reduceEqDiff, Nat.reduceBEq, Nat.reduceAdd, Nat.reduceMul, Nat.reduceSub, Nat.reduceLeDiff, Int.reduceNeg, Int.reduceLT, Int.reduceLE, Int.reduceEq, Int.reduceAdd, Int.reduceToNat]); repeat ((first | refine AW.seq ?_ | refine AW.region env_ok ?_ | refine AW.region envR_ok ?_ | refine AW.skip ?_ | refine AW.block ?_ | refine AW.exit ?_ | refine AW.ret ?_ | (refine AW.cond (b := true) ?_ ?_; simp only [ev, upd, ↓reduceIte, Nat.reduceEqDiff]; rw [if_pos rfl]) | (refine AW.cond (b := false) ?_ ?_; simp only [ev, upd, ↓reduceIte, Nat.reduceEqDiff]; rw [if_neg Bool.false_ne_true]) | fail) <;> try simp only [go_sem, ↓reduceIte, reduceCtorEq, Nat.reduceLT, Nat.reduceEqDiff, Nat.reduceBEq, Nat.reduceAdd, Nat.reduceMul, Nat.reduceSub, Nat.reduceLeDiff, Int.reduceNeg, Int.reduceLT, Int.reduceLE, Int.reduceEq, Int.reduceAdd, Int.reduceToNat]))
    exact .inl h
  by_cases e9 : code = 9
  · subst e9
    ((try simp only [go_sem, ↓reduceIte, reduceCtorEq, Nat.reduceLT, Nat.reduceEqDiff, Nat.reduceBEq, Nat.reduceAdd, Nat.reduceMul, Nat.reduceSub, Nat.reduceLeDiff, Int.reduceNeg, Int.reduceLT, Int.reduceLE, Int.reduceEq, Int.reduceAdd, Int.reduceToNat]); repeat ((first | refine AW.seq ?_ | refine AW.region env_ok ?_ | refine AW.region envR_ok ?_ | refine AW.skip ?_ | refine AW.block ?_ | refine AW.exit ?_ | refine AW.ret ?_ | (refine AW.cond (b := true) ?_ ?_; simp only [ev, upd, ↓reduceIte, Nat.reduceEqDiff]; rw [if_pos rfl]) | (refine AW.cond (b := false) ?_ ?_; simp only [ev, upd, ↓reduceIte, Nat.reduceEqDiff]; rw [if_neg Bool.false_ne_true]) | fail) <;> try simp only [go_sem, ↓reduceIte, reduceCtorEq, Nat.reduceLT, Nat.reduceEqDiff, Nat.reduceBEq, Nat.reduceAdd, Nat.reduceMul, Nat.reduceSub, Nat.reduceLeDiff, Int.reduceNeg, Int.reduceLT, Int.reduceLE, Int.reduceEq, Int.reduceAdd, Int.reduceToNat]))
    refine AW.chain env_ok [0, 1, 3, 7, 15, 0, 32, 96, 224, 480, 1023, 2047, 4095, 8191, 16383] [0, 1, 2, 3, 4, 5, 6, 7, 8] [(9, [0, 1, 2, 3, 4], [10, 11, 12, 13]), (14, [], [])] mixed (by decide) ?_
    ((try simp only [go_sem, ↓reduceIte, reduceCtorEq, Nat.reduceLT, Nat.reduceEqDiff, Nat.reduceBEq, Nat.reduceAdd, Nat.reduceMul, Nat.reduceSub, Nat.reduceLeDiff, Int.reduceNeg, Int.reduceLT, Int.reduceLE, Int.reduceEq, Int.reduceAdd, Int.reduceToNat]); repeat ((first | refine AW.seq ?_ | refine AW.region env_ok ?_ | refine AW.region envR_ok ?_ | refine AW.skip ?_ | refine AW.block ?_ | refine AW.exit ?_ | refine AW.ret ?_ | (refine AW.cond (b := true) ?_ ?_; simp only [ev, upd, ↓reduceIte, Nat.reduceEqDiff]; rw [if_pos rfl]) | (refine AW.cond (b := false) ?_ ?_; simp only [ev, upd, ↓reduceIte, Nat.reduceEqDiff]; rw [if_neg Bool.false_ne_true]) | fail) <;> try simp only [go_sem, ↓reduceIte, reduceCtorEq, Nat.reduceLT, Nat.reduceEqDiff, Nat.reduceBEq, Nat.reduceAdd, Nat.reduceMul, Nat.reduceSub, Nat.reduceLeDiff, Int.reduceNeg, Int.reduceLT, Int.reduceLE, Int.reduceEq, Int.reduceAdd, Int.reduceToNat]))
    refine U16_spec hs (two_0 ..) ?_
    ((try simp only [go_sem, ↓reduceIte, reduceCtorEq, Nat.reduceLT, Nat.reduceEqDiff, Nat.reduceBEq, Nat.reduceAdd, Nat.reduceMul, Nat.reduceSub, Nat.reduceLeDiff, Int.reduceNeg, Int.reduceLT, Int.reduceLE, Int.reduceEq, Int.reduceAdd, Int.reduceToNat]); repeat ((first | refine AW.seq ?_ | refine AW.region env_ok ?_ | refine AW.region envR_ok ?_ | refine AW.skip ?_ | refine AW.block ?_ | refine AW.exit ?_ | refine AW.ret ?_ | (refine AW.cond (b := true) ?_ ?_; simp only [ev, upd, ↓reduceIte, Nat.reduceEqDiff]; rw [if_pos rfl]) | (refine AW.cond (b := false) ?_ ?_; simp only [ev, upd, ↓reduceIte, Nat.reduceEqDiff]; rw [if_neg Bool.false_ne_true]) | fail) <;> try simp only [go_sem, ↓reduceIte, reduceCtorEq, Nat.reduceLT, Nat.reduceEqDiff, Nat.reduceBEq, Nat.reduceAdd, Nat.reduceMul, Nat.reduceSub, Nat.reduceLeDiff, Int.reduceNeg, Int.reduceLT, Int.reduceLE, Int.reduceEq, Int.reduceAdd, Int.reduceToNat]))
    exact .inl h
  by_cases e12 : code = 12
  · subst e12
    ((try simp only [go_sem, ↓reduceIte, reduceCtorEq, Nat.reduceLT, Nat.reduceEqDiff, Nat.reduceBEq, Nat.reduceAdd, Nat.reduceMul, Nat.reduceSub, Nat.reduceLeDiff, Int.reduceNeg, Int.reduceLT, Int.reduceLE, Int.reduceEq, Int.reduceAdd, Int.reduceToNat]); repeat ((first | refine AW.seq ?_ | refine AW.region env_ok ?_ | refine AW.region envR_ok ?_ | refine AW.skip ?_ | refine AW.block ?_ | refine AW.exit ?_ | refine AW.ret ?_ | (refine AW.cond (b := true) ?_ ?_; simp only [ev, upd, ↓reduceIte, Nat.reduceEqDiff]; rw [if_pos rfl]) | (refine AW.cond (b := false) ?_ ?_; simp only [ev, upd, ↓reduceIte, Nat.reduceEqDiff]; rw [if_neg Bool.false_ne_true]) | fail) <;> try simp only [go_sem, ↓reduceIte, reduceCtorEq, Nat.reduceLT, Nat.reduceEqDiff, Nat.reduceBEq, Nat.reduceAdd, Nat.reduceMul, Nat.reduceSub, Nat.reduceLeDiff, Int.reduceNeg, Int.reduceLT, Int.reduceLE, Int.reduceEq, Int.reduceAdd, Int.reduceToNat]))
    refine U_spec hs (two_0 ..) ?_
    ((try simp only [go_sem, ↓reduceIte, reduceCtorEq, Nat.reduceLT, Nat.reduceEqDiff, Nat.reduceBEq, Nat.reduceAdd, Nat.reduceMul, Nat.reduceSub, Nat.reduceLeDiff, Int.reduceNeg, Int.reduceLT, Int.reduceLE, Int.reduceEq, Int.reduceAdd, Int.reduceToNat]); repeat ((first | refine AW.seq ?_ | refine AW.region env_ok ?_ | refine AW.region envR_ok ?_ | refine AW.skip ?_ | refine AW.block ?_ | refine AW.exit ?_ | refine AW.ret ?_ | (refine AW.cond (b := true) ?_ ?_; simp only [ev, upd, ↓reduceIte, Nat.reduceEqDiff]; rw [if_pos rfl]) | (refine AW.cond (b := false) ?_ ?_; simp only [ev, upd, ↓reduceIte, Nat.reduceEqDiff]; rw [if_neg Bool.false_ne_true]) | fail) <;> try simp only [go_sem, ↓reduceIte, reduceCtorEq, Nat.reduceLT, Nat.reduceEqDiff, Nat.reduceBEq, Nat.reduceAdd, Nat.reduceMul, Nat.reduceSub, Nat.reduceLeDiff, Int.reduceNeg, Int.reduceLT, Int.reduceLE, Int.reduceEq, Int.reduceAdd, Int.reduceToNat]))
    exact .inl h
  by_cases e11 : code = 11
  · subst e11
    ((try simp only [go_sem, ↓reduceIte, reduceCtorEq, Nat.reduceLT, Nat.reduceEqDiff, Nat.reduceBEq, Nat.reduceAdd, Nat.reduceMul, Nat.reduceSub, Nat.reduceLeDiff, Int.reduceNeg, Int.reduceLT, Int.reduceLE, Int.reduceEq, Int.reduceAdd, Int.reduceToNat]); repeat ((first | refine AW.seq ?_ | refine AW.region env_ok ?_ | refine AW.region envR_ok ?_ | refine AW.skip ?_ | refine AW.block ?_ | refine AW.exit ?_ | refine AW.ret ?_ | (refine AW.cond (b := true) ?_ ?_; simp only [ev, upd, ↓reduceIte, Nat.reduceEqDiff]; rw [if_pos rfl]) | (refine AW.cond (b := false) ?_ ?_; simp only [ev, upd, ↓reduceIte, Nat.reduceEqDiff]; rw [if_neg Bool.false_ne_true]) | fail) <;> try simp only [go_sem, ↓reduceIte, reduceCtorEq, Nat.reduceLT, Nat.reduceEqDiff, Nat.reduceBEq, Nat.reduceAdd, Nat.reduceMul, Nat.reduceSub, Nat.reduceLeDiff, Int.reduceNeg, Int.reduceLT, Int.reduceLE, Int.reduceEq, Int.reduceAdd, Int.reduceToNat]))
    exact .inl h
  by_cases e10 : code = 10
  · subst e10
    ((try simp only [go_sem, ↓reduceIte, reduceCtorEq, Nat.reduceLT, Nat.reduceEqDiff, Nat.reduceBEq, Nat.reduceAdd, Nat.reduceMul, Nat.reduceSub, Nat.reduceLeDiff, Int.reduceNeg, Int.reduceLT, Int.reduceLE, Int.reduceEq, Int.reduceAdd, Int.reduceToNat]); repeat ((first | refine AW.seq ?_ | refine AW.region env_ok ?_ | refine AW.region envR_ok ?_ | refine AW.skip ?_ | refine AW.block ?_ | refine AW.exit ?_ | refine AW.ret ?_ | (refine AW.cond (b := true) ?_ ?_; simp only [ev, upd, ↓reduceIte, Nat.reduceEqDiff]; rw [if_pos rfl]) | (refine AW.cond (b := false) ?_ ?_; simp only [ev, upd, ↓reduceIte, Nat.reduceEqDiff]; rw [if_neg Bool.false_ne_true]) | fail) <;> try simp only [go_sem, ↓reduceIte, reduceCtorEq, Nat.reduceLT, Nat.reduceEqDiff, Nat.reduceBEq, Nat.reduceAdd, Nat.reduceMul, Nat.reduceSub, Nat.reduceLeDiff, Int.reduceNeg, Int.reduceLT, Int.reduceLE, Int.reduceEq, Int.reduceAdd, Int.reduceToNat]))
    exact .inl h
  by_cases e7 : code = 7
  · subst e7
    ((try simp only [go_sem, ↓reduceIte, reduceCtorEq, Nat.reduceLT, Nat.reduceEqDiff, Nat.reduceBEq, Nat.reduceAdd, Nat.reduceMul, Nat.reduceSub, Nat.reduceLeDiff, Int.reduceNeg, Int.reduceLT, Int.reduceLE, Int.reduceEq, Int.reduceAdd, Int.reduceToNat]); repeat ((first | refine AW.seq ?_ | refine AW.region env_ok ?_ | refine AW.region envR_ok ?_ | refine AW.skip ?_ | refine AW.block ?_ | refine AW.exit ?_ | refine AW.ret ?_ | (refine AW.cond (b := true) ?_ ?_; simp only [ev, upd, ↓reduceIte, Nat.reduceEqDiff]; rw [if_pos rfl]) | (refine AW.cond (b := false) ?_ ?_; simp only [ev, upd, ↓reduceIte, Nat.reduceEqDiff]; rw [if_neg Bool.false_ne_true]) | fail) <;> try simp only [go_sem, ↓reduceIte, reduceCtorEq, Nat.reduceLT, Nat.reduceEqDiff, Nat.reduceBEq, Nat.reduceAdd, Nat.reduceMul, Nat.reduceSub, Nat.reduceLeDiff, Int.reduceNeg, Int.reduceLT, Int.reduceLE, Int.reduceEq, Int.reduceAdd, Int.reduceToNat]))
    exact .inl h
  have f0 : ¬ (code : Int) = 0 := by omega
  have f1 : ¬ (code : Int) = 1 := by omega
  have f2 : ¬ (code : Int) = 2 := by omega
  have f3 : ¬ (code : Int) = 3 := by omega
  have f4 : ¬ (code : Int) = 4 := by omega
  have f5 : ¬ (code : Int) = 5 := by omega
  have f6 : ¬ (code : Int) = 6 := by omega
  have f7 : ¬ (code : Int) = 7 := by omega
  have f8 : ¬ (code : Int) = 8 := by omega
  have f9 : ¬ (code : Int) = 9 := by omega
  have f10 : ¬ (code : Int) = 10 := by omega
  have f11 : ¬ (code : Int) = 11 := by omega
  have f12 : ¬ (code : Int) = 12 := by omega
  have hcl : code - 1 < hd.lens.length := by omega
  have ew : IntKind.i64.wrap ((code : Int) - 1) = ((code - 1 : Nat) : Int) := by rw [IntWalk.i64_in _ (by omega)]; omega
  have hb1 : (0 : Int) ≤ ((code - 1 : Nat) : Int) ∧ ((code - 1 : Nat) : Int) < hd.lens.length := by omega
  have hx := hR.2.1 (code - 1) _ (List.getElem?_eq_getElem hcl)
  have hst : m.standard hd code = { m with s := ulebs (hd.lens[code - 1]).toNat m.s } := by
    obtain ⟨c, rfl⟩ : ∃ c, code = c + 13 := ⟨code - 13, by omega⟩
    show ({ m with s := ulebs (hd.lens.getD (c + 13 - 1) 0).toNat m.s } : MS) = _
    rw [List.getD_eq_getElem?_getD, List.getElem?_eq_getElem hcl]
    rfl
  rw [hst] at h
  ((try simp only [go_sem, ↓reduceIte, reduceCtorEq, Nat.reduceLT, Nat.reduceEqDiff, Nat.reduceBEq, Nat.reduceAdd, Nat.reduceMul, Nat.reduceSub, Nat.reduceLeDiff, Int.reduceNeg, Int.reduceLT, Int.reduceLE, Int.reduceEq, Int.reduceAdd, Int.reduceToNat, f0, f1, f2, f3, f4, f5, f6, f7, f8, f9, f10, f11, f12, ew, hb1, iA_at _ _ _ hcl]); repeat ((first | refine AW.seq ?_ | refine AW.region env_ok ?_ | refine AW.region envR_ok ?_ | refine AW.skip ?_ | refine AW.block ?_ | refine AW.exit ?_ | refine AW.ret ?_ | (refine AW.cond (b := true) ?_ ?_; simp only [ev, upd, ↓reduceIte, Nat.reduceEqDiff]; rw [if_pos rfl]) | (refine AW.cond (b := false) ?_ ?_; simp only [ev, upd, ↓reduceIte, Nat.reduceEqDiff]; rw [if_neg Bool.false_ne_true]) | fail) <;> try simp only [go_sem, ↓reduceIte, reduceCtorEq, Nat.reduceLT, Nat.reduceEqDiff, Nat.reduceBEq, Nat.reduceAdd, Nat.reduceMul, Nat.reduceSub, Nat.reduceLeDiff, Int.reduceNeg, Int.reduceLT, Int.reduceLE, Int.reduceEq, Int.reduceAdd, Int.reduceToNat, f0, f1, f2, f3, f4, f5, f6, f7, f8, f9, f10, f11, f12, ew, hb1, iA_at _ _ _ hcl]))
  refine AW.loop (fun st => ∃ (j : Nat) (s' : CS), j ≤ (hd.lens[code - 1]).toNat ∧ s'.Ok ∧ ulebs ((hd.lens[code - 1]).toNat - j) s' = ulebs (hd.lens[code - 1]).toNat m.s ∧ st.σ 20 = .int .i64 j ∧ st.σ 19 = .int .i64 hd.lens[code - 1] ∧
      st.σ 0 = .ptr (some (H.length + 1, 0)) ∧ st.H = H ++ [.cells s'.cur, .cells (mcells hd H.length m.row (.sl (rA m.out) (some k) ()))])
    (fun st => match st.σ 20 with | .int _ i => (hd.lens[code - 1]).toNat - i.toNat | _ => 0) ⟨0, m.s, by omega, hs, by simp, rfl, rfl, rfl, rfl⟩ ?_
  rintro ⟨σ, H2⟩ ⟨j, s', hj, hs', hu, h20, h19, hp, rfl⟩
  simp only at h20 h19 hp
  by_cases e : (j : Int) < hd.lens[code - 1]
  · have ew2 : IntKind.i64.wrap ((j : Int) + 1) = ((j + 1 : Nat) : Int) := IntWalk.i64_in _ (by omega)
    ((try simp only [go_sem, ↓reduceIte, reduceCtorEq, Nat.reduceLT, Nat.reduceEqDiff, Nat.reduceBEq, Nat.reduceAdd, Nat.reduceMul, Nat.reduceSub, Nat.reduceLeDiff, Int.reduceNeg, Int.reduceLT, Int.reduceLE, Int.reduceEq, Int.reduceAdd, Int.reduceToNat, h20, h19, hp, e]); repeat ((first | refine AW.seq ?_ | refine AW.region env_ok ?_ | refine AW.region envR_ok ?_ | refine AW.skip ?_ | refine AW.block ?_ | refine AW.exit ?_ | refine AW.ret ?_ | (refine AW.cond (b := true) ?_ ?_; simp only [ev, upd, ↓reduceIte, Nat.reduceEqDiff]; rw [if_pos rfl]) | (refine AW.cond (b := false) ?_ ?_; simp only [ev, upd, ↓reduceIte, Nat.reduceEqDiff]; rw [if_neg Bool.false_ne_true]) | fail) <;> try simp only [go_sem, ↓reduceIte, reduceCtorEq, Nat.reduceLT, Nat.reduceEqDiff, Nat.reduceBEq, Nat.reduceAdd, Nat.reduceMul, Nat.reduceSub, Nat.reduceLeDiff, Int.reduceNeg, Int.reduceLT, Int.reduceLE, Int.reduceEq, Int.reduceAdd, Int.reduceToNat, h20, h19, hp, e]))
    refine U_spec hs' (two_0 ..) ?_
    ((try simp only [go_sem, ↓reduceIte, reduceCtorEq, Nat.reduceLT, Nat.reduceEqDiff, Nat.reduceBEq, Nat.reduceAdd, Nat.reduceMul, Nat.reduceSub, Nat.reduceLeDiff, Int.reduceNeg, Int.reduceLT, Int.reduceLE, Int.reduceEq, Int.reduceAdd, Int.reduceToNat, h20, h19, hp, ew2]); repeat ((first | refine AW.seq ?_ | refine AW.region env_ok ?_ | refine AW.region envR_ok ?_ | refine AW.skip ?_ | refine AW.block ?_ | refine AW.exit ?_ | refine AW.ret ?_ | (refine AW.cond (b := true) ?_ ?_; simp only [ev, upd, ↓reduceIte, Nat.reduceEqDiff]; rw [if_pos rfl]) | (refine AW.cond (b := false) ?_ ?_; simp only [ev, upd, ↓reduceIte, Nat.reduceEqDiff]; rw [if_neg Bool.false_ne_true]) | fail) <;> try simp only [go_sem, ↓reduceIte, reduceCtorEq, Nat.reduceLT, Nat.reduceEqDiff, Nat.reduceBEq, Nat.reduceAdd, Nat.reduceMul, Nat.reduceSub, Nat.reduceLeDiff, Int.reduceNeg, Int.reduceLT, Int.reduceLE, Int.reduceEq, Int.reduceAdd, Int.reduceToNat, h20, h19, hp, ew2]))
    refine ⟨⟨j + 1, s'.uleb.2, by omega, hs'.uleb, ?_, rfl, rfl⟩, by omega⟩
    rw [← hu, show (hd.lens[code - 1]).toNat - j = (hd.lens[code - 1]).toNat - (j + 1) + 1 by omega]
    rfl
  · ((try simp only [go_sem, ↓reduceIte, reduceCtorEq, Nat.reduceLT, Nat.reduceEqDiff, Nat.reduceBEq, Nat.reduceAdd, Nat.reduceMul, Nat.reduceSub, Nat.reduceLeDiff, Int.reduceNeg, Int.reduceLT, Int.reduceLE, Int.reduceEq, Int.reduceAdd, Int.reduceToNat, h20, h19, hp, e]); repeat ((first | refine AW.seq ?_ | refine AW.region env_ok ?_ | refine AW.region envR_ok ?_ | refine AW.skip ?_ | refine AW.block ?_ | refine AW.exit ?_ | refine AW.ret ?_ | (refine AW.cond (b := true) ?_ ?_; simp only [ev, upd, ↓reduceIte, Nat.reduceEqDiff]; rw [if_pos rfl]) | (refine AW.cond (b := false) ?_ ?_; simp only [ev, upd, ↓reduceIte, Nat.reduceEqDiff]; rw [if_neg Bool.false_ne_true]) | fail) <;> try simp only [go_sem, ↓reduceIte, reduceCtorEq, Nat.reduceLT, Nat.reduceEqDiff, Nat.reduceBEq, Nat.reduceAdd, Nat.reduceMul, Nat.reduceSub, Nat.reduceLeDiff, Int.reduceNeg, Int.reduceLT, Int.reduceLE, Int.reduceEq, Int.reduceAdd, Int.reduceToNat, h20, h19, hp, e]))
    have hj2 : (hd.lens[code - 1]).toNat - j = 0 := by omega
    rw [hj2] at hu
    rw [show s' = ulebs (hd.lens[code - 1]).toNat m.s from hu]
    exact .inl h
end
end Go.Ab
end

section
/- Package linerun: line programs that are run. -/
namespace Go.Ab
open V Go.Proofs
set_option maxHeartbeats 4000000
set_option maxRecDepth 10000
set_option linter.unusedSimpArgs false
set_option linter.unusedVariables false

section
variable {hd : HD} {H G : Heap} {Q : A → Heap → Prop} {m : MS} {pc pm k : Nat}

theorem two_of_three (H : Heap) (a b c : Ob Unit) : H ++ [a, b, c] = (H ++ [a]) ++ [b, c] := by simp

theorem rw_8 (r : RW) : r.cells[8]? = some (.bool r.stop) := rfl
theorem rw_df (r : RW) : flaglessL (r.cells.drop 8) = true := rfl
theorem rw_d8 (r : RW) : (r.cells.drop 8)[0]? = some (.bool r.stop) := rfl
theorem hb_1 (hd : HD) (l : List A) : (hd.cells ++ l).take 11 = hd.cells := rfl
theorem hb_2 (hd : HD) (l : List A) : (hd.cells ++ l).drop 12 = l.drop 1 := rfl
theorem hb_3 (hd : HD) (l : List A) : (hd.cells ++ l).length = l.length + 11 := by rw [List.length_append, hd_len]; omega
theorem hb_4 (hd : HD) (x : A) (l : List A) : (hd.cells ++ [x] ++ l).take 12 = hd.cells ++ [x] := rfl
theorem hb_5 (hd : HD) (x : A) (l : List A) : (hd.cells ++ [x] ++ l).drop 23 = l.drop 11 := rfl
theorem hb_6 (hd : HD) (x : A) (l : List A) : (hd.cells ++ [x] ++ l).length = l.length + 12 := by rw [List.length_append, hb_3]; simp; omega
theorem hb_7 (hd : HD) (c : Nat) (r : RW) (v : A) : hd.cells ++ [V.ptr (some (c, 0))] ++ r.cells ++ [v] = mcells hd c r v := rfl
theorem mc_solid (hd : HD) (c : Nat) (r : RW) (v : A) : (mcells hd c r v).all solid = solid v := by
  unfold mcells
  rw [List.all_append, List.all_cons, List.all_append, List.all_cons, List.all_nil, hd_solid, rw_solid]
  simp [solid]
theorem mc_flag (hd : HD) (c : Nat) (r : RW) (v : A) : flaglessL (mcells hd c r v) = v.flagless := by
  rw [flaglessL_all]
  unfold mcells
  rw [List.all_append, List.all_cons, List.all_append, List.all_cons, List.all_nil, ← flaglessL_all, ← flaglessL_all, hd_flagless, rw_flagless]
  simp [flagless]
/-- How many bytes are left, by the cursor's cells. -/
def leftOf : Option (Ob Unit) → Nat
  | some (.cells [.sl xs _ _, .int _ p, _, .int _ e]) => if e = 0 then xs.length - p.toNat else 0
  | _ => 0
theorem leftOf_cur (s : CS) : leftOf (some (.cells s.cur)) = s.left := by
  show (if s.err = 0 then (bA s.b).length - (s.pos : Int).toNat else 0) = s.left
  rw [bA_length]; rfl
open Classical in
theorem RunO_spec {b : List UInt8} (hi : hd.In) (hb : b.length < 140737488355328) (h : Q (.tup [.sl (rA (runR hd b).1) (some 0) (), .int .i64 (runR hd b).2]) H) :
    AC Try.prog 8 [.agg hd.cells, .sl (bA b) none ()] H Q := by
  refine AC.enter (E := env Try.prog 77 (fun t => if t == 76 then .take else .copy) (fun _ => false)) env_ok Try.func8 rfl rfl rfl (by simp only [List.length_cons, List.length_nil]; exact of_decide_eq_true rfl) ?_
  ((try simp only [go_sem, ↓reduceIte, reduceCtorEq, Nat.reduceLT, Nat.reduceEqDiff, Nat.reduceBEq, Nat.reduceAdd, Nat.reduceMul, Nat.reduceSub, Nat.reduceLeDiff, Int.reduceNeg, Int.reduceLT, Int.reduceLE, Int.reduceEq, Int.reduceAdd, Int.reduceToNat, get_last, set_last]); repeat ((first | refine AW.seq ?_ | refine AW.region env_ok ?_ | refine AW.region envR_ok ?_ | refine AW.skip ?_ | refine AW.block ?_ | refine AW.exit ?_ | refine AW.ret ?_ | (refine AW.cond (b := true) ?_ ?_; simp only [ev, upd, ↓reduceIte, Nat.reduceEqDiff]; rw [if_pos rfl]) | (refine AW.cond (b := false) ?_ ?_; simp only [ev, upd, ↓reduceIte, Nat.reduceEqDiff]; rw [if_neg Bool.false_ne_true]) | fail) <;> try simp only [go_sem, ↓reduceIte, reduceCtorEq, Nat.reduceLT, Nat.reduceEqDiff, Nat.reduceBEq, Nat.reduceAdd, Nat.reduceMul, Nat.reduceSub, Nat.reduceLeDiff, Int.reduceNeg, Int.reduceLT, Int.reduceLE, Int.reduceEq, Int.reduceAdd, Int.reduceToNat, get_last, set_last]))
  refine headRight_spec hi ?_
  by_cases hR : hd.Right
  case neg =>
    have e : runR hd b = ([], 2) := if_neg hR
    rw [e] at h
    rw [decide_eq_false hR]
    ((try simp only [go_sem, ↓reduceIte, reduceCtorEq, Nat.reduceLT, Nat.reduceEqDiff, Nat.reduceBEq, Nat.reduceAdd, Nat.reduceMul, Nat.reduceSub, Nat.reduceLeDiff, Int.reduceNeg, Int.reduceLT, Int.reduceLE, Int.reduceEq, Int.reduceAdd, Int.reduceToNat]); repeat ((first | refine AW.seq ?_ | refine AW.region env_ok ?_ | refine AW.region envR_ok ?_ | refine AW.skip ?_ | refine AW.block ?_ | refine AW.exit ?_ | refine AW.ret ?_ | (refine AW.cond (b := true) ?_ ?_; simp only [ev, upd, ↓reduceIte, Nat.reduceEqDiff]; rw [if_pos rfl]) | (refine AW.cond (b := false) ?_ ?_; simp only [ev, upd, ↓reduceIte, Nat.reduceEqDiff]; rw [if_neg Bool.false_ne_true]) | fail) <;> try simp only [go_sem, ↓reduceIte, reduceCtorEq, Nat.reduceLT, Nat.reduceEqDiff, Nat.reduceBEq, Nat.reduceAdd, Nat.reduceMul, Nat.reduceSub, Nat.reduceLeDiff, Int.reduceNeg, Int.reduceLT, Int.reduceLE, Int.reduceEq, Int.reduceAdd, Int.reduceToNat]))
    exact .inr (by rw [cut1]; exact h)
  rw [decide_eq_true hR]
  ((try simp only [go_sem, ↓reduceIte, reduceCtorEq, Nat.reduceLT, Nat.reduceEqDiff, Nat.reduceBEq, Nat.reduceAdd, Nat.reduceMul, Nat.reduceSub, Nat.reduceLeDiff, Int.reduceNeg, Int.reduceLT, Int.reduceLE, Int.reduceEq, Int.reduceAdd, Int.reduceToNat]); repeat ((first | refine AW.seq ?_ | refine AW.region env_ok ?_ | refine AW.region envR_ok ?_ | refine AW.skip ?_ | refine AW.block ?_ | refine AW.exit ?_ | refine AW.ret ?_ | (refine AW.cond (b := true) ?_ ?_; simp only [ev, upd, ↓reduceIte, Nat.reduceEqDiff]; rw [if_pos rfl]) | (refine AW.cond (b := false) ?_ ?_; simp only [ev, upd, ↓reduceIte, Nat.reduceEqDiff]; rw [if_neg Bool.false_ne_true]) | fail) <;> try simp only [go_sem, ↓reduceIte, reduceCtorEq, Nat.reduceLT, Nat.reduceEqDiff, Nat.reduceBEq, Nat.reduceAdd, Nat.reduceMul, Nat.reduceSub, Nat.reduceLeDiff, Int.reduceNeg, Int.reduceLT, Int.reduceLE, Int.reduceEq, Int.reduceAdd, Int.reduceToNat]))
  refine AW.chain env_ok [0, 0, 2, 0, 14, 31, 63, 127] [0, 1, 3] [(2, [0, 3], [4, 5]), (6, [], []), (7, [], [])] mixed (by decide) ?_
  ((try simp only [go_sem, ↓reduceIte, reduceCtorEq, Nat.reduceLT, Nat.reduceEqDiff, Nat.reduceBEq, Nat.reduceAdd, Nat.reduceMul, Nat.reduceSub, Nat.reduceLeDiff, Int.reduceNeg, Int.reduceLT, Int.reduceLE, Int.reduceEq, Int.reduceAdd, Int.reduceToNat, get_last]); repeat ((first | refine AW.seq ?_ | refine AW.region env_ok ?_ | refine AW.region envR_ok ?_ | refine AW.skip ?_ | refine AW.block ?_ | refine AW.exit ?_ | refine AW.ret ?_ | (refine AW.cond (b := true) ?_ ?_; simp only [ev, upd, ↓reduceIte, Nat.reduceEqDiff]; rw [if_pos rfl]) | (refine AW.cond (b := false) ?_ ?_; simp only [ev, upd, ↓reduceIte, Nat.reduceEqDiff]; rw [if_neg Bool.false_ne_true]) | fail) <;> try simp only [go_sem, ↓reduceIte, reduceCtorEq, Nat.reduceLT, Nat.reduceEqDiff, Nat.reduceBEq, Nat.reduceAdd, Nat.reduceMul, Nat.reduceSub, Nat.reduceLeDiff, Int.reduceNeg, Int.reduceLT, Int.reduceLE, Int.reduceEq, Int.reduceAdd, Int.reduceToNat, get_last]))
  refine New_spec hb ?_
  ((try simp only [go_sem, ↓reduceIte, reduceCtorEq, Nat.reduceLT, Nat.reduceEqDiff, Nat.reduceBEq, Nat.reduceAdd, Nat.reduceMul, Nat.reduceSub, Nat.reduceLeDiff, Int.reduceNeg, Int.reduceLT, Int.reduceLE, Int.reduceEq, Int.reduceAdd, Int.reduceToNat]); repeat ((first | refine AW.seq ?_ | refine AW.region env_ok ?_ | refine AW.region envR_ok ?_ | refine AW.skip ?_ | refine AW.block ?_ | refine AW.exit ?_ | refine AW.ret ?_ | (refine AW.cond (b := true) ?_ ?_; simp only [ev, upd, ↓reduceIte, Nat.reduceEqDiff]; rw [if_pos rfl]) | (refine AW.cond (b := false) ?_ ?_; simp only [ev, upd, ↓reduceIte, Nat.reduceEqDiff]; rw [if_neg Bool.false_ne_true]) | fail) <;> try simp only [go_sem, ↓reduceIte, reduceCtorEq, Nat.reduceLT, Nat.reduceEqDiff, Nat.reduceBEq, Nat.reduceAdd, Nat.reduceMul, Nat.reduceSub, Nat.reduceLeDiff, Int.reduceNeg, Int.reduceLT, Int.reduceLE, Int.reduceEq, Int.reduceAdd, Int.reduceToNat]))
  have hl1 : (H ++ [Ob.cells hd.cells] ++ [Ob.cells (CS.mk b 0 0).cur])[H.length]? = some (.cells hd.cells) := by simp
  ((try simp only [go_sem, ↓reduceIte, reduceCtorEq, Nat.reduceLT, Nat.reduceEqDiff, Nat.reduceBEq, Nat.reduceAdd, Nat.reduceMul, Nat.reduceSub, Nat.reduceLeDiff, Int.reduceNeg, Int.reduceLT, Int.reduceLE, Int.reduceEq, Int.reduceAdd, Int.reduceToNat, get_last, hl1, rw_flagless, hd_flagless]); repeat ((first | refine AW.seq ?_ | refine AW.region env_ok ?_ | refine AW.region envR_ok ?_ | refine AW.skip ?_ | refine AW.block ?_ | refine AW.exit ?_ | refine AW.ret ?_ | (refine AW.cond (b := true) ?_ ?_; simp only [ev, upd, ↓reduceIte, Nat.reduceEqDiff]; rw [if_pos rfl]) | (refine AW.cond (b := false) ?_ ?_; simp only [ev, upd, ↓reduceIte, Nat.reduceEqDiff]; rw [if_neg Bool.false_ne_true]) | fail) <;> try simp only [go_sem, ↓reduceIte, reduceCtorEq, Nat.reduceLT, Nat.reduceEqDiff, Nat.reduceBEq, Nat.reduceAdd, Nat.reduceMul, Nat.reduceSub, Nat.reduceLeDiff, Int.reduceNeg, Int.reduceLT, Int.reduceLE, Int.reduceEq, Int.reduceAdd, Int.reduceToNat, get_last, hl1, rw_flagless, hd_flagless]))
  refine QC.mk (Start_spec ⟨rfl, rfl⟩) ?_
  ((try simp only [go_sem, ↓reduceIte, reduceCtorEq, Nat.reduceLT, Nat.reduceEqDiff, Nat.reduceBEq, Nat.reduceAdd, Nat.reduceMul, Nat.reduceSub, Nat.reduceLeDiff, Int.reduceNeg, Int.reduceLT, Int.reduceLE, Int.reduceEq, Int.reduceAdd, Int.reduceToNat, get_last, hl1, hb_1, hb_2, hb_3, hb_4, hb_5, hb_6, hb_7, mc_solid, mc_flag, one_app, len_one]); repeat ((first | refine AW.seq ?_ | refine AW.region env_ok ?_ | refine AW.region envR_ok ?_ | refine AW.skip ?_ | refine AW.block ?_ | refine AW.exit ?_ | refine AW.ret ?_ | (refine AW.cond (b := true) ?_ ?_; simp only [ev, upd, ↓reduceIte, Nat.reduceEqDiff]; rw [if_pos rfl]) | (refine AW.cond (b := false) ?_ ?_; simp only [ev, upd, ↓reduceIte, Nat.reduceEqDiff]; rw [if_neg Bool.false_ne_true]) | fail) <;> try simp only [go_sem, ↓reduceIte, reduceCtorEq, Nat.reduceLT, Nat.reduceEqDiff, Nat.reduceBEq, Nat.reduceAdd, Nat.reduceMul, Nat.reduceSub, Nat.reduceLeDiff, Int.reduceNeg, Int.reduceLT, Int.reduceLE, Int.reduceEq, Int.reduceAdd, Int.reduceToNat, get_last, hl1, hb_1, hb_2, hb_3, hb_4, hb_5, hb_6, hb_7, mc_solid, mc_flag, one_app, len_one]))
  rw [two_of_three, show H.length + 1 = (H ++ [Ob.cells hd.cells]).length by simp, show H.length + 2 = (H ++ [Ob.cells hd.cells]).length + 1 by simp]
  have hbox : ∀ x y, ((H ++ [Ob.cells hd.cells]) ++ [x, y])[H.length]? = some (.cells hd.cells) := fun x y => by simp
  have hcut : ∀ x y, ((H ++ [Ob.cells hd.cells]) ++ [x, y]).take H.length = H := fun x y => by simp
  have hrr : runR hd b = (if (runs hd b.length (MS.init hd b)).s.err ≠ 0 then ([], (runs hd b.length (MS.init hd b)).s.err)
     else if lastBad (runs hd b.length (MS.init hd b)).out = true then ([], 48) else ((runs hd b.length (MS.init hd b)).out, 0)) := if_pos hR
  rw [hrr] at h
  generalize hB : H ++ [Ob.cells hd.cells] = B at hbox hcut ⊢
  refine AW.loop (fun st => ∃ (m : MS), m.s.Ok ∧ m.s.b = b ∧ m.out.length ≤ 2000 ∧ runs hd b.length m = runs hd b.length (MS.init hd b) ∧ st.σ 6 = .ptr (some (B.length + 1, 0)) ∧ st.σ 2 = .ptr (some (H.length, 0)) ∧
      st.σ 5 = .int .i64 0 ∧ st.H = B ++ [.cells m.s.cur, m.ob hd B.length 0])
    (fun st => leftOf (st.H[B.length]?)) ⟨MS.init hd b, by unfold CS.Ok MS.init; simp only; omega, rfl, by simp [MS.init], rfl, rfl, rfl, rfl, rfl⟩ ?_
  rintro ⟨σ, H2⟩ ⟨m, hs, hmb, hout, hrun, h6, h2, h5, rfl⟩
  simp only at h6 h2 h5
  have hb2 : m.s.b.length < 140737488355328 := by rw [hmb]; exact hb
  have hm1 : leftOf ((B ++ [.cells m.s.cur, m.ob hd B.length 0])[B.length]?) = m.s.left := by rw [two_0, leftOf_cur]
  simp only [hm1]
  ((try simp only [go_sem, ↓reduceIte, reduceCtorEq, Nat.reduceLT, Nat.reduceEqDiff, Nat.reduceBEq, Nat.reduceAdd, Nat.reduceMul, Nat.reduceSub, Nat.reduceLeDiff, Int.reduceNeg, Int.reduceLT, Int.reduceLE, Int.reduceEq, Int.reduceAdd, Int.reduceToNat, h6, h2]); repeat ((first | refine AW.seq ?_ | refine AW.region env_ok ?_ | refine AW.region envR_ok ?_ | refine AW.skip ?_ | refine AW.block ?_ | refine AW.exit ?_ | refine AW.ret ?_ | (refine AW.cond (b := true) ?_ ?_; simp only [ev, upd, ↓reduceIte, Nat.reduceEqDiff]; rw [if_pos rfl]) | (refine AW.cond (b := false) ?_ ?_; simp only [ev, upd, ↓reduceIte, Nat.reduceEqDiff]; rw [if_neg Bool.false_ne_true]) | fail) <;> try simp only [go_sem, ↓reduceIte, reduceCtorEq, Nat.reduceLT, Nat.reduceEqDiff, Nat.reduceBEq, Nat.reduceAdd, Nat.reduceMul, Nat.reduceSub, Nat.reduceLeDiff, Int.reduceNeg, Int.reduceLT, Int.reduceLE, Int.reduceEq, Int.reduceAdd, Int.reduceToNat, h6, h2]))
  refine Left_spec hs (two_0 ..) ?_
  by_cases hl : (m.s.left : Int) > 0
  · have hl' : m.s.left > 0 := by omega
    obtain ⟨hst1, hst2, hst3, hst4⟩ := step_less (hd := hd) hs hl'
    obtain ⟨htl, hte⟩ := take_less hl'
    have hrun2 : runs hd b.length (m.step hd) = runs hd b.length (MS.init hd b) := by
      rw [← hrun]
      exact (runs_step hs hl' (by unfold CS.left; rw [hmb]; split <;> omega)).symm
    have hle := le1 m.s
    have ew : IntKind.i64.wrap ((le (m.s.take 1).1 : Nat) : Int) = (le (m.s.take 1).1 : Nat) := IntWalk.i64_in _ (by omega)
    ((try simp only [go_sem, ↓reduceIte, reduceCtorEq, Nat.reduceLT, Nat.reduceEqDiff, Nat.reduceBEq, Nat.reduceAdd, Nat.reduceMul, Nat.reduceSub, Nat.reduceLeDiff, Int.reduceNeg, Int.reduceLT, Int.reduceLE, Int.reduceEq, Int.reduceAdd, Int.reduceToNat, h6, h2, hl]); repeat ((first | refine AW.seq ?_ | refine AW.region env_ok ?_ | refine AW.region envR_ok ?_ | refine AW.skip ?_ | refine AW.block ?_ | refine AW.exit ?_ | refine AW.ret ?_ | (refine AW.cond (b := true) ?_ ?_; simp only [ev, upd, ↓reduceIte, Nat.reduceEqDiff]; rw [if_pos rfl]) | (refine AW.cond (b := false) ?_ ?_; simp only [ev, upd, ↓reduceIte, Nat.reduceEqDiff]; rw [if_neg Bool.false_ne_true]) | fail) <;> try simp only [go_sem, ↓reduceIte, reduceCtorEq, Nat.reduceLT, Nat.reduceEqDiff, Nat.reduceBEq, Nat.reduceAdd, Nat.reduceMul, Nat.reduceSub, Nat.reduceLeDiff, Int.reduceNeg, Int.reduceLT, Int.reduceLE, Int.reduceEq, Int.reduceAdd, Int.reduceToNat, h6, h2, hl]))
    refine U8_spec hs (two_0 ..) ?_
    have hm2 : MLe m { m with s := (m.s.take 1).2 } := mle_s (cle_take hs 1)
    by_cases c : ((le (m.s.take 1).1 : Nat) : Int) ≥ hd.codes
    · have c2 : ((le (m.s.take 1).1 : Nat) : Int) > 0 := by have := hR.1.2.2.2.1; omega
      have hstep : m.step hd = ({ m with s := (m.s.take 1).2 } : MS).special hd (le (m.s.take 1).1 : Nat) := if_pos ⟨c, c2⟩
      ((try simp only [go_sem, ↓reduceIte, reduceCtorEq, Nat.reduceLT, Nat.reduceEqDiff, Nat.reduceBEq, Nat.reduceAdd, Nat.reduceMul, Nat.reduceSub, Nat.reduceLeDiff, Int.reduceNeg, Int.reduceLT, Int.reduceLE, Int.reduceEq, Int.reduceAdd, Int.reduceToNat, h6, h2, ew, hbox, c, c2]); repeat ((first | refine AW.seq ?_ | refine AW.region env_ok ?_ | refine AW.region envR_ok ?_ | refine AW.skip ?_ | refine AW.block ?_ | refine AW.exit ?_ | refine AW.ret ?_ | (refine AW.cond (b := true) ?_ ?_; simp only [ev, upd, ↓reduceIte, Nat.reduceEqDiff]; rw [if_pos rfl]) | (refine AW.cond (b := false) ?_ ?_; simp only [ev, upd, ↓reduceIte, Nat.reduceEqDiff]; rw [if_neg Bool.false_ne_true]) | fail) <;> try simp only [go_sem, ↓reduceIte, reduceCtorEq, Nat.reduceLT, Nat.reduceEqDiff, Nat.reduceBEq, Nat.reduceAdd, Nat.reduceMul, Nat.reduceSub, Nat.reduceLeDiff, Int.reduceNeg, Int.reduceLT, Int.reduceLE, Int.reduceEq, Int.reduceAdd, Int.reduceToNat, h6, h2, ew, hbox, c, c2]))
      refine special_spec (m := { m with s := (m.s.take 1).2 }) (by omega) (by have := hR.1.2.2.1; omega) hle hout (Nat.zero_le _) (two_0 ..) (two_1 ..) ?_
      rw [← hstep]
      ((try simp only [go_sem, ↓reduceIte, reduceCtorEq, Nat.reduceLT, Nat.reduceEqDiff, Nat.reduceBEq, Nat.reduceAdd, Nat.reduceMul, Nat.reduceSub, Nat.reduceLeDiff, Int.reduceNeg, Int.reduceLT, Int.reduceLE, Int.reduceEq, Int.reduceAdd, Int.reduceToNat, h6, h2, h5]); repeat ((first | refine AW.seq ?_ | refine AW.region env_ok ?_ | refine AW.region envR_ok ?_ | refine AW.skip ?_ | refine AW.block ?_ | refine AW.exit ?_ | refine AW.ret ?_ | (refine AW.cond (b := true) ?_ ?_; simp only [ev, upd, ↓reduceIte, Nat.reduceEqDiff]; rw [if_pos rfl]) | (refine AW.cond (b := false) ?_ ?_; simp only [ev, upd, ↓reduceIte, Nat.reduceEqDiff]; rw [if_neg Bool.false_ne_true]) | fail) <;> try simp only [go_sem, ↓reduceIte, reduceCtorEq, Nat.reduceLT, Nat.reduceEqDiff, Nat.reduceBEq, Nat.reduceAdd, Nat.reduceMul, Nat.reduceSub, Nat.reduceLeDiff, Int.reduceNeg, Int.reduceLT, Int.reduceLE, Int.reduceEq, Int.reduceAdd, Int.reduceToNat, h6, h2, h5]))
      exact ⟨⟨m.step hd, hst2, hst3.trans hmb, hst4 hout, hrun2, rfl⟩, by rw [leftOf_cur]; exact hst1⟩
    · have hstep : m.step hd = ({ m with s := (m.s.take 1).2 } : MS).standard hd (le (m.s.take 1).1) := if_neg (by rintro ⟨c', _⟩; exact c c')
      ((try simp only [go_sem, ↓reduceIte, reduceCtorEq, Nat.reduceLT, Nat.reduceEqDiff, Nat.reduceBEq, Nat.reduceAdd, Nat.reduceMul, Nat.reduceSub, Nat.reduceLeDiff, Int.reduceNeg, Int.reduceLT, Int.reduceLE, Int.reduceEq, Int.reduceAdd, Int.reduceToNat, h6, h2, ew, hbox, c]); repeat ((first | refine AW.seq ?_ | refine AW.region env_ok ?_ | refine AW.region envR_ok ?_ | refine AW.skip ?_ | refine AW.block ?_ | refine AW.exit ?_ | refine AW.ret ?_ | (refine AW.cond (b := true) ?_ ?_; simp only [ev, upd, ↓reduceIte, Nat.reduceEqDiff]; rw [if_pos rfl]) | (refine AW.cond (b := false) ?_ ?_; simp only [ev, upd, ↓reduceIte, Nat.reduceEqDiff]; rw [if_neg Bool.false_ne_true]) | fail) <;> try simp only [go_sem, ↓reduceIte, reduceCtorEq, Nat.reduceLT, Nat.reduceEqDiff, Nat.reduceBEq, Nat.reduceAdd, Nat.reduceMul, Nat.reduceSub, Nat.reduceLeDiff, Int.reduceNeg, Int.reduceLT, Int.reduceLE, Int.reduceEq, Int.reduceAdd, Int.reduceToNat, h6, h2, ew, hbox, c]))
      refine standard_code_spec (m := { m with s := (m.s.take 1).2 }) hi hR (.inr (by omega)) hte (hs.take 1) (by rw [CS.take_b]; exact hb2) hout (Nat.zero_le _) ?_
      rw [← hstep]
      ((try simp only [go_sem, ↓reduceIte, reduceCtorEq, Nat.reduceLT, Nat.reduceEqDiff, Nat.reduceBEq, Nat.reduceAdd, Nat.reduceMul, Nat.reduceSub, Nat.reduceLeDiff, Int.reduceNeg, Int.reduceLT, Int.reduceLE, Int.reduceEq, Int.reduceAdd, Int.reduceToNat, h6, h2, h5]); repeat ((first | refine AW.seq ?_ | refine AW.region env_ok ?_ | refine AW.region envR_ok ?_ | refine AW.skip ?_ | refine AW.block ?_ | refine AW.exit ?_ | refine AW.ret ?_ | (refine AW.cond (b := true) ?_ ?_; simp only [ev, upd, ↓reduceIte, Nat.reduceEqDiff]; rw [if_pos rfl]) | (refine AW.cond (b := false) ?_ ?_; simp only [ev, upd, ↓reduceIte, Nat.reduceEqDiff]; rw [if_neg Bool.false_ne_true]) | fail) <;> try simp only [go_sem, ↓reduceIte, reduceCtorEq, Nat.reduceLT, Nat.reduceEqDiff, Nat.reduceBEq, Nat.reduceAdd, Nat.reduceMul, Nat.reduceSub, Nat.reduceLeDiff, Int.reduceNeg, Int.reduceLT, Int.reduceLE, Int.reduceEq, Int.reduceAdd, Int.reduceToNat, h6, h2, h5]))
      exact ⟨⟨m.step hd, hst2, hst3.trans hmb, hst4 hout, hrun2, rfl⟩, by rw [leftOf_cur]; exact hst1⟩
  · have hl0 : m.s.left = 0 := by omega
    rw [runs_none hl0] at hrun
    rw [← hrun] at h
    ((try simp only [go_sem, ↓reduceIte, reduceCtorEq, Nat.reduceLT, Nat.reduceEqDiff, Nat.reduceBEq, Nat.reduceAdd, Nat.reduceMul, Nat.reduceSub, Nat.reduceLeDiff, Int.reduceNeg, Int.reduceLT, Int.reduceLE, Int.reduceEq, Int.reduceAdd, Int.reduceToNat, h6, h2, hl]); repeat ((first | refine AW.seq ?_ | refine AW.region env_ok ?_ | refine AW.region envR_ok ?_ | refine AW.skip ?_ | refine AW.block ?_ | refine AW.exit ?_ | refine AW.ret ?_ | (refine AW.cond (b := true) ?_ ?_; simp only [ev, upd, ↓reduceIte, Nat.reduceEqDiff]; rw [if_pos rfl]) | (refine AW.cond (b := false) ?_ ?_; simp only [ev, upd, ↓reduceIte, Nat.reduceEqDiff]; rw [if_neg Bool.false_ne_true]) | fail) <;> try simp only [go_sem, ↓reduceIte, reduceCtorEq, Nat.reduceLT, Nat.reduceEqDiff, Nat.reduceBEq, Nat.reduceAdd, Nat.reduceMul, Nat.reduceSub, Nat.reduceLeDiff, Int.reduceNeg, Int.reduceLT, Int.reduceLE, Int.reduceEq, Int.reduceAdd, Int.reduceToNat, h6, h2, hl]))
    refine Err_spec (two_0 ..) ?_
    by_cases e : m.s.err = 0
    · rw [if_neg (by simpa using e)] at h
      by_cases n0 : (m.out.length : Int) > 0
      · have hlast := lastBad_spec m.out (by omega)
        have ew : IntKind.i64.wrap ((m.out.length : Int) - 1) = ((m.out.length - 1 : Nat) : Int) := by rw [IntWalk.i64_in _ (by omega)]; omega
        have hb1 : (0 : Int) ≤ ((m.out.length - 1 : Nat) : Int) ∧ ((m.out.length - 1 : Nat) : Int) < m.out.length := by omega
        have hat := rA_at m.out (m.out.length - 1) (V.undef ()) (by omega)
        have hgx : (rA m.out)[m.out.length - 1]? = some (.agg (m.out[m.out.length - 1]).cells) := by simp [rA, show m.out.length - 1 < m.out.length by omega]
        cases hstop : (m.out[m.out.length - 1]).stop with
        | false =>
          ((try simp only [go_sem, ↓reduceIte, reduceCtorEq, Nat.reduceLT, Nat.reduceEqDiff, Nat.reduceBEq, Nat.reduceAdd, Nat.reduceMul, Nat.reduceSub, Nat.reduceLeDiff, Int.reduceNeg, Int.reduceLT, Int.reduceLE, Int.reduceEq, Int.reduceAdd, Int.reduceToNat, h6, e, n0, ew, hb1, hat, rw_df, rw_d8, rw_8, hstop, hgx]); repeat ((first | refine AW.seq ?_ | refine AW.regionX env_ok (fun t => t == 57 || t == 65) ?_ | refine AW.regionX envR_ok (fun t => t == 57 || t == 65) ?_ | refine AW.skip ?_ | refine AW.block ?_ | refine AW.exit ?_ | refine AW.ret ?_ | (refine AW.cond (b := true) ?_ ?_; simp only [ev, upd, ↓reduceIte, Nat.reduceEqDiff]; rw [if_pos rfl]) | (refine AW.cond (b := false) ?_ ?_; simp only [ev, upd, ↓reduceIte, Nat.reduceEqDiff]; rw [if_neg Bool.false_ne_true]) | fail) <;> try simp only [go_sem, ↓reduceIte, reduceCtorEq, Nat.reduceLT, Nat.reduceEqDiff, Nat.reduceBEq, Nat.reduceAdd, Nat.reduceMul, Nat.reduceSub, Nat.reduceLeDiff, Int.reduceNeg, Int.reduceLT, Int.reduceLE, Int.reduceEq, Int.reduceAdd, Int.reduceToNat, h6, e, n0, ew, hb1, hat, rw_df, rw_d8, rw_8, hstop, hgx]))
          rw [hlast, hstop, if_pos (by rfl)] at h
          exact .inr (by rw [hcut]; exact h)
        | true =>
          ((try simp only [go_sem, ↓reduceIte, reduceCtorEq, Nat.reduceLT, Nat.reduceEqDiff, Nat.reduceBEq, Nat.reduceAdd, Nat.reduceMul, Nat.reduceSub, Nat.reduceLeDiff, Int.reduceNeg, Int.reduceLT, Int.reduceLE, Int.reduceEq, Int.reduceAdd, Int.reduceToNat, h6, e, n0, ew, hb1, hat, rw_df, rw_d8, rw_8, hstop, hgx]); repeat ((first | refine AW.seq ?_ | refine AW.regionX env_ok (fun t => t == 57 || t == 65) ?_ | refine AW.regionX envR_ok (fun t => t == 57 || t == 65) ?_ | refine AW.skip ?_ | refine AW.block ?_ | refine AW.exit ?_ | refine AW.ret ?_ | (refine AW.cond (b := true) ?_ ?_; simp only [ev, upd, ↓reduceIte, Nat.reduceEqDiff]; rw [if_pos rfl]) | (refine AW.cond (b := false) ?_ ?_; simp only [ev, upd, ↓reduceIte, Nat.reduceEqDiff]; rw [if_neg Bool.false_ne_true]) | fail) <;> try simp only [go_sem, ↓reduceIte, reduceCtorEq, Nat.reduceLT, Nat.reduceEqDiff, Nat.reduceBEq, Nat.reduceAdd, Nat.reduceMul, Nat.reduceSub, Nat.reduceLeDiff, Int.reduceNeg, Int.reduceLT, Int.reduceLE, Int.reduceEq, Int.reduceAdd, Int.reduceToNat, h6, e, n0, ew, hb1, hat, rw_df, rw_d8, rw_8, hstop, hgx]))
          rw [hlast, hstop, if_neg (by simp)] at h
          exact .inr (by rw [hcut]; exact h)
      · have hnil : m.out = [] := List.eq_nil_of_length_eq_zero (by omega)
        ((try simp only [go_sem, ↓reduceIte, reduceCtorEq, Nat.reduceLT, Nat.reduceEqDiff, Nat.reduceBEq, Nat.reduceAdd, Nat.reduceMul, Nat.reduceSub, Nat.reduceLeDiff, Int.reduceNeg, Int.reduceLT, Int.reduceLE, Int.reduceEq, Int.reduceAdd, Int.reduceToNat, h6, e, n0, h5]); repeat ((first | refine AW.seq ?_ | refine AW.regionX env_ok (fun t => t == 57 || t == 65) ?_ | refine AW.regionX envR_ok (fun t => t == 57 || t == 65) ?_ | refine AW.skip ?_ | refine AW.block ?_ | refine AW.exit ?_ | refine AW.ret ?_ | (refine AW.cond (b := true) ?_ ?_; simp only [ev, upd, ↓reduceIte, Nat.reduceEqDiff]; rw [if_pos rfl]) | (refine AW.cond (b := false) ?_ ?_; simp only [ev, upd, ↓reduceIte, Nat.reduceEqDiff]; rw [if_neg Bool.false_ne_true]) | fail) <;> try simp only [go_sem, ↓reduceIte, reduceCtorEq, Nat.reduceLT, Nat.reduceEqDiff, Nat.reduceBEq, Nat.reduceAdd, Nat.reduceMul, Nat.reduceSub, Nat.reduceLeDiff, Int.reduceNeg, Int.reduceLT, Int.reduceLE, Int.reduceEq, Int.reduceAdd, Int.reduceToNat, h6, e, n0, h5]))
        rw [hnil] at h ⊢
        exact .inr (by rw [hcut]; exact h)
    · rw [if_pos e] at h
      ((try simp only [go_sem, ↓reduceIte, reduceCtorEq, Nat.reduceLT, Nat.reduceEqDiff, Nat.reduceBEq, Nat.reduceAdd, Nat.reduceMul, Nat.reduceSub, Nat.reduceLeDiff, Int.reduceNeg, Int.reduceLT, Int.reduceLE, Int.reduceEq, Int.reduceAdd, Int.reduceToNat, h6, e]); repeat ((first | refine AW.seq ?_ | refine AW.region env_ok ?_ | refine AW.region envR_ok ?_ | refine AW.skip ?_ | refine AW.block ?_ | refine AW.exit ?_ | refine AW.ret ?_ | (refine AW.cond (b := true) ?_ ?_; simp only [ev, upd, ↓reduceIte, Nat.reduceEqDiff]; rw [if_pos rfl]) | (refine AW.cond (b := false) ?_ ?_; simp only [ev, upd, ↓reduceIte, Nat.reduceEqDiff]; rw [if_neg Bool.false_ne_true]) | fail) <;> try simp only [go_sem, ↓reduceIte, reduceCtorEq, Nat.reduceLT, Nat.reduceEqDiff, Nat.reduceBEq, Nat.reduceAdd, Nat.reduceMul, Nat.reduceSub, Nat.reduceLeDiff, Int.reduceNeg, Int.reduceLT, Int.reduceLE, Int.reduceEq, Int.reduceAdd, Int.reduceToNat, h6, e]))
      exact .inr (by rw [hcut]; exact h)
theorem Run_spec {b : List UInt8} (hi : hd.In) (hb : b.length < 140737488355328) (h : Q (.tup [.sl (rA (runR hd b).1) none (), .int .i64 (runR hd b).2]) H) :
    AC Try.prog 8 [.agg hd.cells, .sl (bA b) none ()] H Q := by
  refine AC.strip (E := env Try.prog 0 (fun _ => .copy) (fun _ => false)) env_ok (RunO_spec hi hb ?_)
  simp only [V.strip, stripL, rA_strip]
  exact h
end
end Go.Ab
end

section
/- Rows that are alike. -/
namespace Go.Ab
open V Go.Proofs
set_option maxHeartbeats 4000000
set_option maxRecDepth 10000
set_option linter.unusedSimpArgs false
set_option linter.unusedVariables false

section
variable {H : Heap} {Q : A → Heap → Prop}

theorem eqRW (a b : RW) : eqA (tyFrom Try.prog) 3 41 (.agg a.cells) (.agg b.cells) = some (decide (a = b)) := by
  have h : eqA (tyFrom Try.prog) 3 41 (.agg a.cells) (.agg b.cells) = some (decide (a.addr = b.addr) && (decide (a.file = b.file) && (decide (a.line = b.line) && (decide (a.col = b.col) && ((a.stmt == b.stmt) && ((a.blk == b.blk) && ((a.pro == b.pro) && ((a.epi == b.epi) && ((a.stop == b.stop) && (decide (a.isa = b.isa) && (decide (a.disc = b.disc) && true))))))))))) := by
    simp only [eqA, dOf, plainOf, T41, T25, T3, T4, RW.cells, List.foldr_cons, List.foldr_nil, TyD.agg, if_true, List.getElem?_cons_zero, List.getElem?_cons_succ, Bool.false_eq_true, if_false, true_and]
  rw [h]
  congr 1
  obtain ⟨a1, a2, a3, a4, a5, a6, a7, a8, a9, a10, a11⟩ := a
  obtain ⟨b1, b2, b3, b4, b5, b6, b7, b8, b9, b10, b11⟩ := b
  rw [Bool.eq_iff_iff]
  simp

attribute [go_sem] eqRW
theorem take_ne {l m : List RW} {i : Nat} (h1 : i < l.length) (h2 : i < m.length) (h : l[i] ≠ m[i]) : l ≠ m := by
  rintro rfl; exact h rfl

theorem rSame_spec {l m : List RW} (hl : l.length < 4611686018427387904) (h : Q (.bool (decide (l = m))) H) : AC Try.prog 9 [.sl (rA l) none (), .sl (rA m) none ()] H Q := by
  refine AC.enter (E := env Try.prog 26 (fun _ => .copy) (fun _ => false)) env_ok Try.func9 rfl rfl rfl (by simp only [List.length_cons, List.length_nil]; exact of_decide_eq_true rfl) ?_
  by_cases e : (l.length : Int) = m.length
  case neg =>
    rw [decide_eq_false (fun c => e (by rw [c]))] at h
    ((try simp only [go_sem, ↓reduceIte, reduceCtorEq, Nat.reduceLT, Nat.reduceEqDiff, Nat.reduceBEq, Nat.reduceAdd, Nat.reduceMul, Nat.reduceSub, Nat.reduceLeDiff, Int.reduceNeg, Int.reduceLT, Int.reduceLE, Int.reduceEq, Int.reduceAdd, Int.reduceToNat, e]); repeat ((first | refine AW.seq ?_ | refine AW.region env_ok ?_ | refine AW.region envR_ok ?_ | refine AW.skip ?_ | refine AW.block ?_ | refine AW.exit ?_ | refine AW.ret ?_ | (refine AW.cond (b := true) ?_ ?_; simp only [ev, upd, ↓reduceIte, Nat.reduceEqDiff]; rw [if_pos rfl]) | (refine AW.cond (b := false) ?_ ?_; simp only [ev, upd, ↓reduceIte, Nat.reduceEqDiff]; rw [if_neg Bool.false_ne_true]) | fail) <;> try simp only [go_sem, ↓reduceIte, reduceCtorEq, Nat.reduceLT, Nat.reduceEqDiff, Nat.reduceBEq, Nat.reduceAdd, Nat.reduceMul, Nat.reduceSub, Nat.reduceLeDiff, Int.reduceNeg, Int.reduceLT, Int.reduceLE, Int.reduceEq, Int.reduceAdd, Int.reduceToNat, e]))
    exact .inl h
  ((try simp only [go_sem, ↓reduceIte, reduceCtorEq, Nat.reduceLT, Nat.reduceEqDiff, Nat.reduceBEq, Nat.reduceAdd, Nat.reduceMul, Nat.reduceSub, Nat.reduceLeDiff, Int.reduceNeg, Int.reduceLT, Int.reduceLE, Int.reduceEq, Int.reduceAdd, Int.reduceToNat, e]); repeat ((first | refine AW.seq ?_ | refine AW.region env_ok ?_ | refine AW.region envR_ok ?_ | refine AW.skip ?_ | refine AW.block ?_ | refine AW.exit ?_ | refine AW.ret ?_ | (refine AW.cond (b := true) ?_ ?_; simp only [ev, upd, ↓reduceIte, Nat.reduceEqDiff]; rw [if_pos rfl]) | (refine AW.cond (b := false) ?_ ?_; simp only [ev, upd, ↓reduceIte, Nat.reduceEqDiff]; rw [if_neg Bool.false_ne_true]) | fail) <;> try simp only [go_sem, ↓reduceIte, reduceCtorEq, Nat.reduceLT, Nat.reduceEqDiff, Nat.reduceBEq, Nat.reduceAdd, Nat.reduceMul, Nat.reduceSub, Nat.reduceLeDiff, Int.reduceNeg, Int.reduceLT, Int.reduceLE, Int.reduceEq, Int.reduceAdd, Int.reduceToNat, e]))
  refine AW.loop (fun st => ∃ i : Nat, i ≤ l.length ∧ st.σ 5 = .int .i64 i ∧ st.σ 0 = .sl (rA l) none () ∧ st.σ 1 = .sl (rA m) none () ∧ l.take i = m.take i ∧ st.H = H)
    (fun st => match st.σ 5 with | .int _ i => l.length - i.toNat | _ => 0) ⟨0, by omega, rfl, rfl, rfl, rfl, rfl⟩ ?_
  rintro ⟨σ, H2⟩ ⟨i, hi, h5, h0, h1, hz, rfl⟩
  simp only at h5 h0 h1
  by_cases c : (i : Int) < l.length
  · have hlt : i < l.length := by omega
    have hlt2 : i < m.length := by omega
    have hb1 : (0 : Int) ≤ i ∧ (i : Int) < l.length := by omega
    have hb2 : (0 : Int) ≤ i ∧ (i : Int) < m.length := by omega
    have ew : IntKind.i64.wrap ((i : Int) + 1) = ((i + 1 : Nat) : Int) := IntWalk.i64_in _ (by omega)
    have hl' := rA_at l i (V.undef ()) hlt
    have hm' := rA_at m i (V.undef ()) hlt2
    ((try simp only [go_sem, ↓reduceIte, reduceCtorEq, Nat.reduceLT, Nat.reduceEqDiff, Nat.reduceBEq, Nat.reduceAdd, Nat.reduceMul, Nat.reduceSub, Nat.reduceLeDiff, Int.reduceNeg, Int.reduceLT, Int.reduceLE, Int.reduceEq, Int.reduceAdd, Int.reduceToNat, h5, h0, h1, c]); repeat ((first | refine AW.seq ?_ | refine AW.region env_ok ?_ | refine AW.region envR_ok ?_ | refine AW.skip ?_ | refine AW.block ?_ | refine AW.exit ?_ | refine AW.ret ?_ | (refine AW.cond (b := true) ?_ ?_; simp only [ev, upd, ↓reduceIte, Nat.reduceEqDiff]; rw [if_pos rfl]) | (refine AW.cond (b := false) ?_ ?_; simp only [ev, upd, ↓reduceIte, Nat.reduceEqDiff]; rw [if_neg Bool.false_ne_true]) | fail) <;> try simp only [go_sem, ↓reduceIte, reduceCtorEq, Nat.reduceLT, Nat.reduceEqDiff, Nat.reduceBEq, Nat.reduceAdd, Nat.reduceMul, Nat.reduceSub, Nat.reduceLeDiff, Int.reduceNeg, Int.reduceLT, Int.reduceLE, Int.reduceEq, Int.reduceAdd, Int.reduceToNat, h5, h0, h1, c]))
    refine AW.chain env_ok [0, 0, 3, 7, 0, 0, 48, 112, 255] [0, 1, 2, 3, 4, 5, 6, 7, 8] [] mixed (by decide) ?_
    by_cases d : l[i] = m[i]
    · have d' : decide (l[i] = m[i]) = true := decide_eq_true d
      ((try simp only [go_sem, ↓reduceIte, reduceCtorEq, Nat.reduceLT, Nat.reduceEqDiff, Nat.reduceBEq, Nat.reduceAdd, Nat.reduceMul, Nat.reduceSub, Nat.reduceLeDiff, Int.reduceNeg, Int.reduceLT, Int.reduceLE, Int.reduceEq, Int.reduceAdd, Int.reduceToNat, h5, h0, h1, c, hb1, hb2, hl', hm', d', ew]); repeat ((first | refine AW.seq ?_ | refine AW.region env_ok ?_ | refine AW.region envR_ok ?_ | refine AW.skip ?_ | refine AW.block ?_ | refine AW.exit ?_ | refine AW.ret ?_ | (refine AW.cond (b := true) ?_ ?_; simp only [ev, upd, ↓reduceIte, Nat.reduceEqDiff]; rw [if_pos rfl]) | (refine AW.cond (b := false) ?_ ?_; simp only [ev, upd, ↓reduceIte, Nat.reduceEqDiff]; rw [if_neg Bool.false_ne_true]) | fail) <;> try simp only [go_sem, ↓reduceIte, reduceCtorEq, Nat.reduceLT, Nat.reduceEqDiff, Nat.reduceBEq, Nat.reduceAdd, Nat.reduceMul, Nat.reduceSub, Nat.reduceLeDiff, Int.reduceNeg, Int.reduceLT, Int.reduceLE, Int.reduceEq, Int.reduceAdd, Int.reduceToNat, h5, h0, h1, c, hb1, hb2, hl', hm', d', ew]))
      exact ⟨⟨i + 1, by omega, rfl, by rw [List.take_succ_eq_append_getElem hlt, List.take_succ_eq_append_getElem hlt2, hz, d]⟩, by omega⟩
    · have d' : decide (l[i] = m[i]) = false := decide_eq_false d
      ((try simp only [go_sem, ↓reduceIte, reduceCtorEq, Nat.reduceLT, Nat.reduceEqDiff, Nat.reduceBEq, Nat.reduceAdd, Nat.reduceMul, Nat.reduceSub, Nat.reduceLeDiff, Int.reduceNeg, Int.reduceLT, Int.reduceLE, Int.reduceEq, Int.reduceAdd, Int.reduceToNat, h5, h0, h1, c, hb1, hb2, hl', hm', d', ew]); repeat ((first | refine AW.seq ?_ | refine AW.region env_ok ?_ | refine AW.region envR_ok ?_ | refine AW.skip ?_ | refine AW.block ?_ | refine AW.exit ?_ | refine AW.ret ?_ | (refine AW.cond (b := true) ?_ ?_; simp only [ev, upd, ↓reduceIte, Nat.reduceEqDiff]; rw [if_pos rfl]) | (refine AW.cond (b := false) ?_ ?_; simp only [ev, upd, ↓reduceIte, Nat.reduceEqDiff]; rw [if_neg Bool.false_ne_true]) | fail) <;> try simp only [go_sem, ↓reduceIte, reduceCtorEq, Nat.reduceLT, Nat.reduceEqDiff, Nat.reduceBEq, Nat.reduceAdd, Nat.reduceMul, Nat.reduceSub, Nat.reduceLeDiff, Int.reduceNeg, Int.reduceLT, Int.reduceLE, Int.reduceEq, Int.reduceAdd, Int.reduceToNat, h5, h0, h1, c, hb1, hb2, hl', hm', d', ew]))
      rw [decide_eq_false (take_ne hlt hlt2 d)] at h
      exact .inl h
  · ((try simp only [go_sem, ↓reduceIte, reduceCtorEq, Nat.reduceLT, Nat.reduceEqDiff, Nat.reduceBEq, Nat.reduceAdd, Nat.reduceMul, Nat.reduceSub, Nat.reduceLeDiff, Int.reduceNeg, Int.reduceLT, Int.reduceLE, Int.reduceEq, Int.reduceAdd, Int.reduceToNat, h5, h0, h1, c]); repeat ((first | refine AW.seq ?_ | refine AW.region env_ok ?_ | refine AW.region envR_ok ?_ | refine AW.skip ?_ | refine AW.block ?_ | refine AW.exit ?_ | refine AW.ret ?_ | (refine AW.cond (b := true) ?_ ?_; simp only [ev, upd, ↓reduceIte, Nat.reduceEqDiff]; rw [if_pos rfl]) | (refine AW.cond (b := false) ?_ ?_; simp only [ev, upd, ↓reduceIte, Nat.reduceEqDiff]; rw [if_neg Bool.false_ne_true]) | fail) <;> try simp only [go_sem, ↓reduceIte, reduceCtorEq, Nat.reduceLT, Nat.reduceEqDiff, Nat.reduceBEq, Nat.reduceAdd, Nat.reduceMul, Nat.reduceSub, Nat.reduceLeDiff, Int.reduceNeg, Int.reduceLT, Int.reduceLE, Int.reduceEq, Int.reduceAdd, Int.reduceToNat, h5, h0, h1, c]))
    have : l = m := by
      have h1 : l.take i = l := List.take_of_length_le (by omega)
      have h2 : m.take i = m := List.take_of_length_le (by omega)
      rw [← h1, hz, h2]
    rw [decide_eq_true this] at h
    exact .inl h

theorem Equal_spec {l m : List RW} (hl : l.length < 4611686018427387904) (h : Q (.bool (decide (l = m))) H) : AC Try.prog 26 [.sl (rA l) none (), .sl (rA m) none ()] H Q := by
  refine AC.enter (E := env Try.prog 26 (fun _ => .copy) (fun _ => false)) env_ok Try.func26 rfl rfl rfl (by simp only [List.length_cons, List.length_nil]; exact of_decide_eq_true rfl) ?_
  by_cases e : (l.length : Int) = m.length
  case neg =>
    rw [decide_eq_false (fun c => e (by rw [c]))] at h
    ((try simp only [go_sem, ↓reduceIte, reduceCtorEq, Nat.reduceLT, Nat.reduceEqDiff, Nat.reduceBEq, Nat.reduceAdd, Nat.reduceMul, Nat.reduceSub, Nat.reduceLeDiff, Int.reduceNeg, Int.reduceLT, Int.reduceLE, Int.reduceEq, Int.reduceAdd, Int.reduceToNat, e]); repeat ((first | refine AW.seq ?_ | refine AW.region env_ok ?_ | refine AW.region envR_ok ?_ | refine AW.skip ?_ | refine AW.block ?_ | refine AW.exit ?_ | refine AW.ret ?_ | (refine AW.cond (b := true) ?_ ?_; simp only [ev, upd, ↓reduceIte, Nat.reduceEqDiff]; rw [if_pos rfl]) | (refine AW.cond (b := false) ?_ ?_; simp only [ev, upd, ↓reduceIte, Nat.reduceEqDiff]; rw [if_neg Bool.false_ne_true]) | fail) <;> try simp only [go_sem, ↓reduceIte, reduceCtorEq, Nat.reduceLT, Nat.reduceEqDiff, Nat.reduceBEq, Nat.reduceAdd, Nat.reduceMul, Nat.reduceSub, Nat.reduceLeDiff, Int.reduceNeg, Int.reduceLT, Int.reduceLE, Int.reduceEq, Int.reduceAdd, Int.reduceToNat, e]))
    exact .inl h
  ((try simp only [go_sem, ↓reduceIte, reduceCtorEq, Nat.reduceLT, Nat.reduceEqDiff, Nat.reduceBEq, Nat.reduceAdd, Nat.reduceMul, Nat.reduceSub, Nat.reduceLeDiff, Int.reduceNeg, Int.reduceLT, Int.reduceLE, Int.reduceEq, Int.reduceAdd, Int.reduceToNat, e]); repeat ((first | refine AW.seq ?_ | refine AW.region env_ok ?_ | refine AW.region envR_ok ?_ | refine AW.skip ?_ | refine AW.block ?_ | refine AW.exit ?_ | refine AW.ret ?_ | (refine AW.cond (b := true) ?_ ?_; simp only [ev, upd, ↓reduceIte, Nat.reduceEqDiff]; rw [if_pos rfl]) | (refine AW.cond (b := false) ?_ ?_; simp only [ev, upd, ↓reduceIte, Nat.reduceEqDiff]; rw [if_neg Bool.false_ne_true]) | fail) <;> try simp only [go_sem, ↓reduceIte, reduceCtorEq, Nat.reduceLT, Nat.reduceEqDiff, Nat.reduceBEq, Nat.reduceAdd, Nat.reduceMul, Nat.reduceSub, Nat.reduceLeDiff, Int.reduceNeg, Int.reduceLT, Int.reduceLE, Int.reduceEq, Int.reduceAdd, Int.reduceToNat, e]))
  refine AW.loop (fun st => ∃ i : Nat, i ≤ l.length ∧ st.σ 13 = .int .i64 i ∧ st.σ 12 = .int .i64 l.length ∧ st.σ 0 = .sl (rA l) none () ∧ st.σ 1 = .sl (rA m) none () ∧ l.take i = m.take i ∧ st.H = H)
    (fun st => match st.σ 13 with | .int _ i => l.length - i.toNat | _ => 0) ⟨0, by omega, rfl, by first | rfl | (rw [e]; rfl), rfl, rfl, rfl, rfl⟩ ?_
  rintro ⟨σ, H2⟩ ⟨i, hi, h5, h12, h0, h1, hz, rfl⟩
  simp only at h5 h12 h0 h1
  by_cases c : (i : Int) < l.length
  · have hlt : i < l.length := by omega
    have hlt2 : i < m.length := by omega
    have hb1 : (0 : Int) ≤ i ∧ (i : Int) < l.length := by omega
    have hb2 : (0 : Int) ≤ i ∧ (i : Int) < m.length := by omega
    have ew : IntKind.i64.wrap ((i : Int) + 1) = ((i + 1 : Nat) : Int) := IntWalk.i64_in _ (by omega)
    have hl' := rA_at l i (V.undef ()) hlt
    have hm' := rA_at m i (V.undef ()) hlt2
    ((try simp only [go_sem, ↓reduceIte, reduceCtorEq, Nat.reduceLT, Nat.reduceEqDiff, Nat.reduceBEq, Nat.reduceAdd, Nat.reduceMul, Nat.reduceSub, Nat.reduceLeDiff, Int.reduceNeg, Int.reduceLT, Int.reduceLE, Int.reduceEq, Int.reduceAdd, Int.reduceToNat, h5, h12, h0, h1, c]); repeat ((first | refine AW.seq ?_ | refine AW.region env_ok ?_ | refine AW.region envR_ok ?_ | refine AW.skip ?_ | refine AW.block ?_ | refine AW.exit ?_ | refine AW.ret ?_ | (refine AW.cond (b := true) ?_ ?_; simp only [ev, upd, ↓reduceIte, Nat.reduceEqDiff]; rw [if_pos rfl]) | (refine AW.cond (b := false) ?_ ?_; simp only [ev, upd, ↓reduceIte, Nat.reduceEqDiff]; rw [if_neg Bool.false_ne_true]) | fail) <;> try simp only [go_sem, ↓reduceIte, reduceCtorEq, Nat.reduceLT, Nat.reduceEqDiff, Nat.reduceBEq, Nat.reduceAdd, Nat.reduceMul, Nat.reduceSub, Nat.reduceLeDiff, Int.reduceNeg, Int.reduceLT, Int.reduceLE, Int.reduceEq, Int.reduceAdd, Int.reduceToNat, h5, h12, h0, h1, c]))
    refine AW.chain env_ok [0, 0, 3, 7, 0, 0, 48, 112, 255] [0, 1, 2, 3, 4, 5, 6, 7, 8] [] mixed (by decide) ?_
    by_cases d : l[i] = m[i]
    · have d' : decide (l[i] = m[i]) = true := decide_eq_true d
      ((try simp only [go_sem, ↓reduceIte, reduceCtorEq, Nat.reduceLT, Nat.reduceEqDiff, Nat.reduceBEq, Nat.reduceAdd, Nat.reduceMul, Nat.reduceSub, Nat.reduceLeDiff, Int.reduceNeg, Int.reduceLT, Int.reduceLE, Int.reduceEq, Int.reduceAdd, Int.reduceToNat, h5, h12, h0, h1, c, hb1, hb2, hl', hm', d', ew]); repeat ((first | refine AW.seq ?_ | refine AW.region env_ok ?_ | refine AW.region envR_ok ?_ | refine AW.skip ?_ | refine AW.block ?_ | refine AW.exit ?_ | refine AW.ret ?_ | (refine AW.cond (b := true) ?_ ?_; simp only [ev, upd, ↓reduceIte, Nat.reduceEqDiff]; rw [if_pos rfl]) | (refine AW.cond (b := false) ?_ ?_; simp only [ev, upd, ↓reduceIte, Nat.reduceEqDiff]; rw [if_neg Bool.false_ne_true]) | fail) <;> try simp only [go_sem, ↓reduceIte, reduceCtorEq, Nat.reduceLT, Nat.reduceEqDiff, Nat.reduceBEq, Nat.reduceAdd, Nat.reduceMul, Nat.reduceSub, Nat.reduceLeDiff, Int.reduceNeg, Int.reduceLT, Int.reduceLE, Int.reduceEq, Int.reduceAdd, Int.reduceToNat, h5, h12, h0, h1, c, hb1, hb2, hl', hm', d', ew]))
      exact ⟨⟨i + 1, by omega, rfl, by rw [List.take_succ_eq_append_getElem hlt, List.take_succ_eq_append_getElem hlt2, hz, d]⟩, by omega⟩
    · have d' : decide (l[i] = m[i]) = false := decide_eq_false d
      ((try simp only [go_sem, ↓reduceIte, reduceCtorEq, Nat.reduceLT, Nat.reduceEqDiff, Nat.reduceBEq, Nat.reduceAdd, Nat.reduceMul, Nat.reduceSub, Nat.reduceLeDiff, Int.reduceNeg, Int.reduceLT, Int.reduceLE, Int.reduceEq, Int.reduceAdd, Int.reduceToNat, h5, h12, h0, h1, c, hb1, hb2, hl', hm', d', ew]); repeat ((first | refine AW.seq ?_ | refine AW.region env_ok ?_ | refine AW.region envR_ok ?_ | refine AW.skip ?_ | refine AW.block ?_ | refine AW.exit ?_ | refine AW.ret ?_ | (refine AW.cond (b := true) ?_ ?_; simp only [ev, upd, ↓reduceIte, Nat.reduceEqDiff]; rw [if_pos rfl]) | (refine AW.cond (b := false) ?_ ?_; simp only [ev, upd, ↓reduceIte, Nat.reduceEqDiff]; rw [if_neg Bool.false_ne_true]) | fail) <;> try simp only [go_sem, ↓reduceIte, reduceCtorEq, Nat.reduceLT, Nat.reduceEqDiff, Nat.reduceBEq, Nat.reduceAdd, Nat.reduceMul, Nat.reduceSub, Nat.reduceLeDiff, Int.reduceNeg, Int.reduceLT, Int.reduceLE, Int.reduceEq, Int.reduceAdd, Int.reduceToNat, h5, h12, h0, h1, c, hb1, hb2, hl', hm', d', ew]))
      rw [decide_eq_false (take_ne hlt hlt2 d)] at h
      exact .inl h
  · ((try simp only [go_sem, ↓reduceIte, reduceCtorEq, Nat.reduceLT, Nat.reduceEqDiff, Nat.reduceBEq, Nat.reduceAdd, Nat.reduceMul, Nat.reduceSub, Nat.reduceLeDiff, Int.reduceNeg, Int.reduceLT, Int.reduceLE, Int.reduceEq, Int.reduceAdd, Int.reduceToNat, h5, h12, h0, h1, c]); repeat ((first | refine AW.seq ?_ | refine AW.region env_ok ?_ | refine AW.region envR_ok ?_ | refine AW.skip ?_ | refine AW.block ?_ | refine AW.exit ?_ | refine AW.ret ?_ | (refine AW.cond (b := true) ?_ ?_; simp only [ev, upd, ↓reduceIte, Nat.reduceEqDiff]; rw [if_pos rfl]) | (refine AW.cond (b := false) ?_ ?_; simp only [ev, upd, ↓reduceIte, Nat.reduceEqDiff]; rw [if_neg Bool.false_ne_true]) | fail) <;> try simp only [go_sem, ↓reduceIte, reduceCtorEq, Nat.reduceLT, Nat.reduceEqDiff, Nat.reduceBEq, Nat.reduceAdd, Nat.reduceMul, Nat.reduceSub, Nat.reduceLeDiff, Int.reduceNeg, Int.reduceLT, Int.reduceLE, Int.reduceEq, Int.reduceAdd, Int.reduceToNat, h5, h12, h0, h1, c]))
    have : l = m := by
      have h1 : l.take i = l := List.take_of_length_le (by omega)
      have h2 : m.take i = m := List.take_of_length_le (by omega)
      rw [← h1, hz, h2]
    rw [decide_eq_true this] at h
    exact .inl h

theorem Same_spec {l m : List RW} (hl : l.length < 4611686018427387904) (h : Q (.bool (decide (l = m))) H) : AC Try.prog 13 [.sl (rA l) none (), .sl (rA m) none ()] H Q := by
  refine AC.enter (E := env Try.prog 8 (fun _ => .copy) (fun _ => false)) env_ok Try.func13 rfl rfl rfl (by simp only [List.length_cons, List.length_nil]; exact of_decide_eq_true rfl) ?_
  ((try simp only [go_sem, ↓reduceIte, reduceCtorEq, Nat.reduceLT, Nat.reduceEqDiff, Nat.reduceBEq, Nat.reduceAdd, Nat.reduceMul, Nat.reduceSub, Nat.reduceLeDiff, Int.reduceNeg, Int.reduceLT, Int.reduceLE, Int.reduceEq, Int.reduceAdd, Int.reduceToNat]); repeat ((first | refine AW.seq ?_ | refine AW.region env_ok ?_ | refine AW.region envR_ok ?_ | refine AW.skip ?_ | refine AW.block ?_ | refine AW.exit ?_ | refine AW.ret ?_ | (refine AW.cond (b := true) ?_ ?_; simp only [ev, upd, ↓reduceIte, Nat.reduceEqDiff]; rw [if_pos rfl]) | (refine AW.cond (b := false) ?_ ?_; simp only [ev, upd, ↓reduceIte, Nat.reduceEqDiff]; rw [if_neg Bool.false_ne_true]) | fail) <;> try simp only [go_sem, ↓reduceIte, reduceCtorEq, Nat.reduceLT, Nat.reduceEqDiff, Nat.reduceBEq, Nat.reduceAdd, Nat.reduceMul, Nat.reduceSub, Nat.reduceLeDiff, Int.reduceNeg, Int.reduceLT, Int.reduceLE, Int.reduceEq, Int.reduceAdd, Int.reduceToNat]))
  refine Equal_spec hl ?_
  ((try simp only [go_sem, ↓reduceIte, reduceCtorEq, Nat.reduceLT, Nat.reduceEqDiff, Nat.reduceBEq, Nat.reduceAdd, Nat.reduceMul, Nat.reduceSub, Nat.reduceLeDiff, Int.reduceNeg, Int.reduceLT, Int.reduceLE, Int.reduceEq, Int.reduceAdd, Int.reduceToNat]); repeat ((first | refine AW.seq ?_ | refine AW.region env_ok ?_ | refine AW.region envR_ok ?_ | refine AW.skip ?_ | refine AW.block ?_ | refine AW.exit ?_ | refine AW.ret ?_ | (refine AW.cond (b := true) ?_ ?_; simp only [ev, upd, ↓reduceIte, Nat.reduceEqDiff]; rw [if_pos rfl]) | (refine AW.cond (b := false) ?_ ?_; simp only [ev, upd, ↓reduceIte, Nat.reduceEqDiff]; rw [if_neg Bool.false_ne_true]) | fail) <;> try simp only [go_sem, ↓reduceIte, reduceCtorEq, Nat.reduceLT, Nat.reduceEqDiff, Nat.reduceBEq, Nat.reduceAdd, Nat.reduceMul, Nat.reduceSub, Nat.reduceLeDiff, Int.reduceNeg, Int.reduceLT, Int.reduceLE, Int.reduceEq, Int.reduceAdd, Int.reduceToNat]))
  exact .inl h
end
end Go.Ab
end

section
/- The chapter's example. -/
namespace Go.Ab
open V Go.Proofs
set_option maxHeartbeats 4000000
set_option maxRecDepth 10000
set_option linter.unusedSimpArgs false
set_option linter.unusedVariables false

def slash : ByteArray := ⟨#[47]⟩
def plainH : HD := ⟨false, false, 1, -5, 14, 13, known, [slash], [], 0, 0⟩
def example1 : List UInt8 := [0, 9, 2, 0, 16, 0, 0, 0, 0, 0, 0, 20, 2, 4, 0, 1, 1]

theorem plain_in : plainH.In := by
  refine ⟨by decide, by decide, by decide, ?_, ?_⟩
  · intro d hd'; rw [List.mem_singleton.1 hd']; decide
  · intro f hf; cases hf
theorem plain_right : plainH.Right := by
  refine ⟨by unfold HD.nums; decide, ?_, ?_, ?_⟩
  · intro i x hx
    have hi : i < 12 := (List.getElem?_eq_some_iff.1 hx).1
    have hx' : known[i]? = some x := hx
    have hk : x = known.getD i 0 := by rw [List.getD_eq_getElem?_getD, hx']; rfl
    refine ⟨?_, ?_, fun _ => hk⟩
    all_goals
      have : ∀ i, i < 12 → 0 ≤ known.getD i 0 ∧ known.getD i 0 ≤ 255 := by decide
      rw [hk]
      first | exact (this i hi).1 | exact (this i hi).2
  · intro d hd'; rw [List.mem_singleton.1 hd']; decide
  · intro f hf; cases hf
theorem example_runs : (runs plainH 17 (MS.init plainH example1)).s.err = 0 ∧ (runs plainH 17 (MS.init plainH example1)).out = [⟨4096, 1, 3, 0, false, false, false, false, false, 0, 0⟩, ⟨4100, 1, 3, 0, false, false, false, false, true, 0, 0⟩] := by
  constructor <;> kernel_rfl
theorem example_runR : runR plainH example1 = ([⟨4096, 1, 3, 0, false, false, false, false, false, 0, 0⟩, ⟨4100, 1, 3, 0, false, false, false, false, true, 0, 0⟩], 0) := by
  unfold runR
  rw [if_pos plain_right, show example1.length = 17 from rfl, if_neg (by rw [example_runs.1]; simp), example_runs.2, if_neg (by decide)]

section
variable {H : Heap} {Q : A → Heap → Prop}
theorem plainHead_spec (h : Q (.agg plainH.cells) H) : AC Try.prog 14 [] H Q := by
  refine AC.enter (E := env Try.prog 4 (fun _ => .copy) (fun t => t == 3)) env_ok Try.func14 rfl rfl rfl (by simp only [List.length_cons, List.length_nil]; exact of_decide_eq_true rfl) ?_
  ((try simp only [go_sem, ↓reduceIte, reduceCtorEq, Nat.reduceLT, Nat.reduceEqDiff, Nat.reduceBEq, Nat.reduceAdd, Nat.reduceMul, Nat.reduceSub, Nat.reduceLeDiff, Int.reduceNeg, Int.reduceLT, Int.reduceLE, Int.reduceEq, Int.reduceAdd, Int.reduceToNat, get_last, set_last]); repeat ((first | refine AW.seq ?_ | refine AW.region env_ok ?_ | refine AW.region envR_ok ?_ | refine AW.skip ?_ | refine AW.block ?_ | refine AW.exit ?_ | refine AW.ret ?_ | (refine AW.cond (b := true) ?_ ?_; simp only [ev, upd, ↓reduceIte, Nat.reduceEqDiff]; rw [if_pos rfl]) | (refine AW.cond (b := false) ?_ ?_; simp only [ev, upd, ↓reduceIte, Nat.reduceEqDiff]; rw [if_neg Bool.false_ne_true]) | fail) <;> try simp only [go_sem, ↓reduceIte, reduceCtorEq, Nat.reduceLT, Nat.reduceEqDiff, Nat.reduceBEq, Nat.reduceAdd, Nat.reduceMul, Nat.reduceSub, Nat.reduceLeDiff, Int.reduceNeg, Int.reduceLT, Int.reduceLE, Int.reduceEq, Int.reduceAdd, Int.reduceToNat, get_last, set_last]))
  refine .inr ?_
  rw [cut1]
  exact h

theorem works_spec (h : Q (.bool true) H) : AC Try.prog 6 [] H Q := by
  refine AC.enter (E := env Try.prog 57 (fun _ => .copy) (fun t => t == 5)) env_ok Try.func6 rfl rfl rfl (by simp only [List.length_cons, List.length_nil]; exact of_decide_eq_true rfl) ?_
  ((try simp only [go_sem, ↓reduceIte, reduceCtorEq, Nat.reduceLT, Nat.reduceEqDiff, Nat.reduceBEq, Nat.reduceAdd, Nat.reduceMul, Nat.reduceSub, Nat.reduceLeDiff, Int.reduceNeg, Int.reduceLT, Int.reduceLE, Int.reduceEq, Int.reduceAdd, Int.reduceToNat]); repeat ((first | refine AW.seq ?_ | refine AW.region env_ok ?_ | refine AW.region envR_ok ?_ | refine AW.skip ?_ | refine AW.block ?_ | refine AW.exit ?_ | refine AW.ret ?_ | (refine AW.cond (b := true) ?_ ?_; simp only [ev, upd, ↓reduceIte, Nat.reduceEqDiff]; rw [if_pos rfl]) | (refine AW.cond (b := false) ?_ ?_; simp only [ev, upd, ↓reduceIte, Nat.reduceEqDiff]; rw [if_neg Bool.false_ne_true]) | fail) <;> try simp only [go_sem, ↓reduceIte, reduceCtorEq, Nat.reduceLT, Nat.reduceEqDiff, Nat.reduceBEq, Nat.reduceAdd, Nat.reduceMul, Nat.reduceSub, Nat.reduceLeDiff, Int.reduceNeg, Int.reduceLT, Int.reduceLE, Int.reduceEq, Int.reduceAdd, Int.reduceToNat]))
  refine plainHead_spec ?_
  ((try simp only [go_sem, ↓reduceIte, reduceCtorEq, Nat.reduceLT, Nat.reduceEqDiff, Nat.reduceBEq, Nat.reduceAdd, Nat.reduceMul, Nat.reduceSub, Nat.reduceLeDiff, Int.reduceNeg, Int.reduceLT, Int.reduceLE, Int.reduceEq, Int.reduceAdd, Int.reduceToNat, hd_flagless]); repeat ((first | refine AW.seq ?_ | refine AW.region env_ok ?_ | refine AW.region envR_ok ?_ | refine AW.skip ?_ | refine AW.block ?_ | refine AW.exit ?_ | refine AW.ret ?_ | (refine AW.cond (b := true) ?_ ?_; simp only [ev, upd, ↓reduceIte, Nat.reduceEqDiff]; rw [if_pos rfl]) | (refine AW.cond (b := false) ?_ ?_; simp only [ev, upd, ↓reduceIte, Nat.reduceEqDiff]; rw [if_neg Bool.false_ne_true]) | fail) <;> try simp only [go_sem, ↓reduceIte, reduceCtorEq, Nat.reduceLT, Nat.reduceEqDiff, Nat.reduceBEq, Nat.reduceAdd, Nat.reduceMul, Nat.reduceSub, Nat.reduceLeDiff, Int.reduceNeg, Int.reduceLT, Int.reduceLE, Int.reduceEq, Int.reduceAdd, Int.reduceToNat, hd_flagless]))
  refine Run_spec (b := example1) plain_in (by decide) ?_
  rw [example_runR]
  generalize hex : ([⟨4096, 1, 3, 0, false, false, false, false, false, 0, 0⟩, ⟨4100, 1, 3, 0, false, false, false, false, true, 0, 0⟩] : List RW) = ex
  have hl : ex.length = 2 := by rw [← hex]; rfl
  have h0 : (rA ex).getD 0 (V.undef ()) = .agg [.int .u64 4096, .int .i64 1, .int .i64 3, .int .i64 0, .bool false, .bool false, .bool false, .bool false, .bool false, .int .u64 0, .int .u64 0] := by rw [← hex]; rfl
  have h1 : (rA ex).getD 1 (V.undef ()) = .agg [.int .u64 4100, .int .i64 1, .int .i64 3, .int .i64 0, .bool false, .bool false, .bool false, .bool false, .bool true, .int .u64 0, .int .u64 0] := by rw [← hex]; rfl
  ((try simp only [go_sem, ↓reduceIte, reduceCtorEq, Nat.reduceLT, Nat.reduceEqDiff, Nat.reduceBEq, Nat.reduceAdd, Nat.reduceMul, Nat.reduceSub, Nat.reduceLeDiff, Int.reduceNeg, Int.reduceLT, Int.reduceLE, Int.reduceEq, Int.reduceAdd, Int.reduceToNat, hl, h0, h1]); repeat ((first | refine AW.seq ?_ | refine AW.region env_ok ?_ | refine AW.region envR_ok ?_ | refine AW.skip ?_ | refine AW.block ?_ | refine AW.exit ?_ | refine AW.ret ?_ | (refine AW.cond (b := true) ?_ ?_; simp only [ev, upd, ↓reduceIte, Nat.reduceEqDiff]; rw [if_pos rfl]) | (refine AW.cond (b := false) ?_ ?_; simp only [ev, upd, ↓reduceIte, Nat.reduceEqDiff]; rw [if_neg Bool.false_ne_true]) | fail) <;> try simp only [go_sem, ↓reduceIte, reduceCtorEq, Nat.reduceLT, Nat.reduceEqDiff, Nat.reduceBEq, Nat.reduceAdd, Nat.reduceMul, Nat.reduceSub, Nat.reduceLeDiff, Int.reduceNeg, Int.reduceLT, Int.reduceLE, Int.reduceEq, Int.reduceAdd, Int.reduceToNat, hl, h0, h1]))
  exact .inl h
end
end Go.Ab
end

section
/- The law LinerunMoves: what begins a sequence. -/
namespace Go.Ab
open V Go.Proofs
set_option maxHeartbeats 4000000
set_option maxRecDepth 10000
set_option linter.unusedSimpArgs false
set_option linter.unusedVariables false

theorem shr8 (n : Nat) : (n : Int).fdiv (2 ^ min 8 64) = ((n / 256 : Nat) : Int) := by
  rw [show min 8 64 = 8 by decide, Int.fdiv_eq_ediv_of_nonneg _ (by decide)]; omega
theorem u8_nat (n : Nat) : IntKind.u8.wrap (n : Int) = ((n % 256 : Nat) : Int) := by rw [IntKind.wrap_u8]; omega
theorem bA_snoc (l : List UInt8) (n : Nat) (h : n < 256) : bA l ++ ([V.int .u8 (n : Int)] : List A) = bA (l ++ [UInt8.ofNat n]) := by
  simp only [bA, List.map_append, List.map_cons, List.map_nil, byteA]
  rw [show (UInt8.ofNat n).toNat = n by simp; omega]

theorem begin_spec {a : Nat} {H : Heap} {Q : A → Heap → Prop} (h : Q (.sl (bA (beginB a)) (some 0) ()) H) : AC Try.prog 16 [.int .u64 a] H Q := by
  refine AC.enter (E := env Try.prog 16 (fun t => if t == 7 || t == 15 then .take else .copy) (fun _ => false)) env_ok Try.func16 rfl rfl rfl (by simp only [List.length_cons, List.length_nil]; exact of_decide_eq_true rfl) ?_
  ((try simp only [go_sem, ↓reduceIte, reduceCtorEq, Nat.reduceLT, Nat.reduceEqDiff, Nat.reduceBEq, Nat.reduceAdd, Nat.reduceMul, Nat.reduceSub, Nat.reduceLeDiff, Int.reduceNeg, Int.reduceLT, Int.reduceLE, Int.reduceEq, Int.reduceAdd, Int.reduceToNat]); repeat ((first | refine AW.seq ?_ | refine AW.region env_ok ?_ | refine AW.region envR_ok ?_ | refine AW.skip ?_ | refine AW.block ?_ | refine AW.exit ?_ | refine AW.ret ?_ | (refine AW.cond (b := true) ?_ ?_; simp only [ev, upd, ↓reduceIte, Nat.reduceEqDiff]; rw [if_pos rfl]) | (refine AW.cond (b := false) ?_ ?_; simp only [ev, upd, ↓reduceIte, Nat.reduceEqDiff]; rw [if_neg Bool.false_ne_true]) | fail) <;> try simp only [go_sem, ↓reduceIte, reduceCtorEq, Nat.reduceLT, Nat.reduceEqDiff, Nat.reduceBEq, Nat.reduceAdd, Nat.reduceMul, Nat.reduceSub, Nat.reduceLeDiff, Int.reduceNeg, Int.reduceLT, Int.reduceLE, Int.reduceEq, Int.reduceAdd, Int.reduceToNat]))
  refine AW.loop (fun st => ∃ (i c : Nat) (pre : List UInt8), i ≤ 8 ∧ st.σ 5 = .int .i64 i ∧ st.σ 0 = .int .u64 c ∧ st.σ 3 = .sl (bA pre) (some 0) () ∧ st.H = H ∧ pre.length = 3 + i ∧ pre ++ leB (8 - i) c = beginB a)
    (fun st => match st.σ 5 with | .int _ i => 8 - i.toNat | _ => 0) ⟨0, a, [0, 9, 2], by omega, rfl, rfl, rfl, rfl, rfl, rfl⟩ ?_
  rintro ⟨σ, H2⟩ ⟨i, c, pre, hi, h5, h0, h3, rfl, hl, hp⟩
  simp only at h5 h0 h3
  by_cases c1 : (i : Int) < 8
  · have hlt : i < 8 := by omega
    have ew : IntKind.i64.wrap ((i : Int) + 1) = ((i + 1 : Nat) : Int) := IntWalk.i64_in _ (by omega)
    have hsn := bA_snoc pre (c % 256) (Nat.mod_lt _ (by omega))
    have hcap : decide (pre.length ≤ 140737488355327) = true := decide_eq_true (by omega)
    ((try simp only [go_sem, ↓reduceIte, reduceCtorEq, Nat.reduceLT, Nat.reduceEqDiff, Nat.reduceBEq, Nat.reduceAdd, Nat.reduceMul, Nat.reduceSub, Nat.reduceLeDiff, Int.reduceNeg, Int.reduceLT, Int.reduceLE, Int.reduceEq, Int.reduceAdd, Int.reduceToNat, h5, h0, h3, c1, ew, shr8, u8_nat, uni_i1, hsn, hcap, Nat.zero_le]); repeat ((first | refine AW.seq ?_ | refine AW.region env_ok ?_ | refine AW.region envR_ok ?_ | refine AW.skip ?_ | refine AW.block ?_ | refine AW.exit ?_ | refine AW.ret ?_ | (refine AW.cond (b := true) ?_ ?_; simp only [ev, upd, ↓reduceIte, Nat.reduceEqDiff]; rw [if_pos rfl]) | (refine AW.cond (b := false) ?_ ?_; simp only [ev, upd, ↓reduceIte, Nat.reduceEqDiff]; rw [if_neg Bool.false_ne_true]) | fail) <;> try simp only [go_sem, ↓reduceIte, reduceCtorEq, Nat.reduceLT, Nat.reduceEqDiff, Nat.reduceBEq, Nat.reduceAdd, Nat.reduceMul, Nat.reduceSub, Nat.reduceLeDiff, Int.reduceNeg, Int.reduceLT, Int.reduceLE, Int.reduceEq, Int.reduceAdd, Int.reduceToNat, h5, h0, h3, c1, ew, shr8, u8_nat, uni_i1, hsn, hcap, Nat.zero_le]))
    refine ⟨⟨i + 1, c / 256, pre ++ [UInt8.ofNat (c % 256)], by omega, rfl, rfl, rfl, by simp [hl]; omega, ?_⟩, by omega⟩
    rw [← hp, show 8 - i = (8 - (i + 1)) + 1 by omega]
    simp [leB]
  · have : i = 8 := by omega
    subst this
    simp only [Nat.sub_self, leB, List.append_nil] at hp
    ((try simp only [go_sem, ↓reduceIte, reduceCtorEq, Nat.reduceLT, Nat.reduceEqDiff, Nat.reduceBEq, Nat.reduceAdd, Nat.reduceMul, Nat.reduceSub, Nat.reduceLeDiff, Int.reduceNeg, Int.reduceLT, Int.reduceLE, Int.reduceEq, Int.reduceAdd, Int.reduceToNat, h5, h0, h3, c1]); repeat ((first | refine AW.seq ?_ | refine AW.region env_ok ?_ | refine AW.region envR_ok ?_ | refine AW.skip ?_ | refine AW.block ?_ | refine AW.exit ?_ | refine AW.ret ?_ | (refine AW.cond (b := true) ?_ ?_; simp only [ev, upd, ↓reduceIte, Nat.reduceEqDiff]; rw [if_pos rfl]) | (refine AW.cond (b := false) ?_ ?_; simp only [ev, upd, ↓reduceIte, Nat.reduceEqDiff]; rw [if_neg Bool.false_ne_true]) | fail) <;> try simp only [go_sem, ↓reduceIte, reduceCtorEq, Nat.reduceLT, Nat.reduceEqDiff, Nat.reduceBEq, Nat.reduceAdd, Nat.reduceMul, Nat.reduceSub, Nat.reduceLeDiff, Int.reduceNeg, Int.reduceLT, Int.reduceLE, Int.reduceEq, Int.reduceAdd, Int.reduceToNat, h5, h0, h3, c1]))
    rw [hp]
    exact .inl h
end Go.Ab
end

section
/- Package sindriref22: what moves the registers. -/
namespace Go.Ab
open V Go.Proofs
set_option maxHeartbeats 4000000
set_option maxRecDepth 10000
set_option linter.unusedSimpArgs false
set_option linter.unusedVariables false

section
variable {hd : HD} {H G : Heap} {Q : A → Heap → Prop} {m : MS} {pc pm k : Nat}

theorem rStart_spec (h : Q (.agg (RW.start hd).cells) H) : AC Try.prog 12 [.agg hd.cells] H Q := by
  refine AC.enter (E := env Try.prog 6 (fun _ => .copy) (fun _ => false)) env_ok Try.func12 rfl rfl rfl (by simp only [List.length_cons, List.length_nil]; exact of_decide_eq_true rfl) ?_
  ((try simp only [go_sem, ↓reduceIte, reduceCtorEq, Nat.reduceLT, Nat.reduceEqDiff, Nat.reduceBEq, Nat.reduceAdd, Nat.reduceMul, Nat.reduceSub, Nat.reduceLeDiff, Int.reduceNeg, Int.reduceLT, Int.reduceLE, Int.reduceEq, Int.reduceAdd, Int.reduceToNat, get_last, set_last, one_app, len_one]); repeat ((first | refine AW.seq ?_ | refine AW.region env_ok ?_ | refine AW.region envR_ok ?_ | refine AW.skip ?_ | refine AW.block ?_ | refine AW.exit ?_ | refine AW.ret ?_ | (refine AW.cond (b := true) ?_ ?_; simp only [ev, upd, ↓reduceIte, Nat.reduceEqDiff]; rw [if_pos rfl]) | (refine AW.cond (b := false) ?_ ?_; simp only [ev, upd, ↓reduceIte, Nat.reduceEqDiff]; rw [if_neg Bool.false_ne_true]) | fail) <;> try simp only [go_sem, ↓reduceIte, reduceCtorEq, Nat.reduceLT, Nat.reduceEqDiff, Nat.reduceBEq, Nat.reduceAdd, Nat.reduceMul, Nat.reduceSub, Nat.reduceLeDiff, Int.reduceNeg, Int.reduceLT, Int.reduceLE, Int.reduceEq, Int.reduceAdd, Int.reduceToNat, get_last, set_last, one_app, len_one]))
  exact .inr h

theorem move_spec {n : Int} (hm : G[pm]? = some (m.ob hd pc k)) (h : Q (.tup []) (G.set pm ((m.by hd n).ob hd pc k))) : AC Try.prog 43 [.ptr (some (pm, 0)), .int .u64 n] G Q := by
  refine AC.enter (E := env Try.prog 22 (fun _ => .copy) (fun _ => false)) env_ok Try.func43 rfl rfl rfl (by simp only [List.length_cons, List.length_nil]; exact of_decide_eq_true rfl) ?_
  ((try simp only [go_sem, ↓reduceIte, reduceCtorEq, Nat.reduceLT, Nat.reduceEqDiff, Nat.reduceBEq, Nat.reduceAdd, Nat.reduceMul, Nat.reduceSub, Nat.reduceLeDiff, Int.reduceNeg, Int.reduceLT, Int.reduceLE, Int.reduceEq, Int.reduceAdd, Int.reduceToNat]); repeat ((first | refine AW.seq ?_ | refine AW.region env_ok ?_ | refine AW.region envR_ok ?_ | refine AW.skip ?_ | refine AW.block ?_ | refine AW.exit ?_ | refine AW.ret ?_ | (refine AW.cond (b := true) ?_ ?_; simp only [ev, upd, ↓reduceIte, Nat.reduceEqDiff]; rw [if_pos rfl]) | (refine AW.cond (b := false) ?_ ?_; simp only [ev, upd, ↓reduceIte, Nat.reduceEqDiff]; rw [if_neg Bool.false_ne_true]) | fail) <;> try simp only [go_sem, ↓reduceIte, reduceCtorEq, Nat.reduceLT, Nat.reduceEqDiff, Nat.reduceBEq, Nat.reduceAdd, Nat.reduceMul, Nat.reduceSub, Nat.reduceLeDiff, Int.reduceNeg, Int.reduceLT, Int.reduceLE, Int.reduceEq, Int.reduceAdd, Int.reduceToNat]))
  refine AW.chain env_ok [0, 0, 2, 6, 14, 30, 0, 0, 128, 384, 896, 1920, 3968, 8128, 16382, 32767, 65535, 131071, 262143] [0, 1, 2, 3, 4, 5, 6, 7, 8, 9, 10, 11, 12, 13, 14, 15, 16, 17] [(18, [], [])] mixed (by decide) ?_
  ((try simp only [go_sem, ↓reduceIte, reduceCtorEq, Nat.reduceLT, Nat.reduceEqDiff, Nat.reduceBEq, Nat.reduceAdd, Nat.reduceMul, Nat.reduceSub, Nat.reduceLeDiff, Int.reduceNeg, Int.reduceLT, Int.reduceLE, Int.reduceEq, Int.reduceAdd, Int.reduceToNat, hm]); repeat ((first | refine AW.seq ?_ | refine AW.region env_ok ?_ | refine AW.region envR_ok ?_ | refine AW.skip ?_ | refine AW.block ?_ | refine AW.exit ?_ | refine AW.ret ?_ | (refine AW.cond (b := true) ?_ ?_; simp only [ev, upd, ↓reduceIte, Nat.reduceEqDiff]; rw [if_pos rfl]) | (refine AW.cond (b := false) ?_ ?_; simp only [ev, upd, ↓reduceIte, Nat.reduceEqDiff]; rw [if_neg Bool.false_ne_true]) | fail) <;> try simp only [go_sem, ↓reduceIte, reduceCtorEq, Nat.reduceLT, Nat.reduceEqDiff, Nat.reduceBEq, Nat.reduceAdd, Nat.reduceMul, Nat.reduceSub, Nat.reduceLeDiff, Int.reduceNeg, Int.reduceLT, Int.reduceLE, Int.reduceEq, Int.reduceAdd, Int.reduceToNat, hm]))
  exact .inl h

theorem lines_spec {n : Int} (hne : pc ≠ pm) (hc : G[pc]? = some (.cells m.s.ref)) (hm : G[pm]? = some (m.ob hd pc k)) (h : Q (.tup []) ((G.set pc (.cells (m.line n).s.ref)).set pm ((m.line n).ob hd pc k))) : AC Try.prog 44 [.ptr (some (pm, 0)), .int .i64 n] G Q := by
  have hno : m.line n = m.fail 48 → Q (.tup []) (G.set pc (.cells (m.s.fail 48).ref)) := by
    intro e
    rw [e] at h
    have : (G.set pc (.cells (m.fail 48).s.ref))[pm]? = some ((m.fail 48).ob hd pc k) := by rw [List.getElem?_set_ne hne]; exact hm
    rwa [set_same this] at h
  refine AC.enter (E := env Try.prog 39 (fun _ => .copy) (fun _ => false)) env_ok Try.func44 rfl rfl rfl (by simp only [List.length_cons, List.length_nil]; exact of_decide_eq_true rfl) ?_
  by_cases c2 : n < -2147483647
  case pos => ((try simp only [go_sem, ↓reduceIte, reduceCtorEq, Nat.reduceLT, Nat.reduceEqDiff, Nat.reduceBEq, Nat.reduceAdd, Nat.reduceMul, Nat.reduceSub, Nat.reduceLeDiff, Int.reduceNeg, Int.reduceLT, Int.reduceLE, Int.reduceEq, Int.reduceAdd, Int.reduceToNat, hm, c2]); repeat ((first | refine AW.seq ?_ | refine AW.region env_ok ?_ | refine AW.region envR_ok ?_ | refine AW.skip ?_ | refine AW.block ?_ | refine AW.exit ?_ | refine AW.ret ?_ | (refine AW.cond (b := true) ?_ ?_; simp only [ev, upd, ↓reduceIte, Nat.reduceEqDiff]; rw [if_pos rfl]) | (refine AW.cond (b := false) ?_ ?_; simp only [ev, upd, ↓reduceIte, Nat.reduceEqDiff]; rw [if_neg Bool.false_ne_true]) | fail) <;> try simp only [go_sem, ↓reduceIte, reduceCtorEq, Nat.reduceLT, Nat.reduceEqDiff, Nat.reduceBEq, Nat.reduceAdd, Nat.reduceMul, Nat.reduceSub, Nat.reduceLeDiff, Int.reduceNeg, Int.reduceLT, Int.reduceLE, Int.reduceEq, Int.reduceAdd, Int.reduceToNat, hm, c2])); refine rFail_spec hc ?_; ((try simp only [go_sem, ↓reduceIte, reduceCtorEq, Nat.reduceLT, Nat.reduceEqDiff, Nat.reduceBEq, Nat.reduceAdd, Nat.reduceMul, Nat.reduceSub, Nat.reduceLeDiff, Int.reduceNeg, Int.reduceLT, Int.reduceLE, Int.reduceEq, Int.reduceAdd, Int.reduceToNat]); repeat ((first | refine AW.seq ?_ | refine AW.region env_ok ?_ | refine AW.region envR_ok ?_ | refine AW.skip ?_ | refine AW.block ?_ | refine AW.exit ?_ | refine AW.ret ?_ | (refine AW.cond (b := true) ?_ ?_; simp only [ev, upd, ↓reduceIte, Nat.reduceEqDiff]; rw [if_pos rfl]) | (refine AW.cond (b := false) ?_ ?_; simp only [ev, upd, ↓reduceIte, Nat.reduceEqDiff]; rw [if_neg Bool.false_ne_true]) | fail) <;> try simp only [go_sem, ↓reduceIte, reduceCtorEq, Nat.reduceLT, Nat.reduceEqDiff, Nat.reduceBEq, Nat.reduceAdd, Nat.reduceMul, Nat.reduceSub, Nat.reduceLeDiff, Int.reduceNeg, Int.reduceLT, Int.reduceLE, Int.reduceEq, Int.reduceAdd, Int.reduceToNat])); exact .inl (hno (if_pos (.inr (.inl c2))))
  by_cases c1 : n > 2147483647
  case pos => ((try simp only [go_sem, ↓reduceIte, reduceCtorEq, Nat.reduceLT, Nat.reduceEqDiff, Nat.reduceBEq, Nat.reduceAdd, Nat.reduceMul, Nat.reduceSub, Nat.reduceLeDiff, Int.reduceNeg, Int.reduceLT, Int.reduceLE, Int.reduceEq, Int.reduceAdd, Int.reduceToNat, hm, c2, c1]); repeat ((first | refine AW.seq ?_ | refine AW.region env_ok ?_ | refine AW.region envR_ok ?_ | refine AW.skip ?_ | refine AW.block ?_ | refine AW.exit ?_ | refine AW.ret ?_ | (refine AW.cond (b := true) ?_ ?_; simp only [ev, upd, ↓reduceIte, Nat.reduceEqDiff]; rw [if_pos rfl]) | (refine AW.cond (b := false) ?_ ?_; simp only [ev, upd, ↓reduceIte, Nat.reduceEqDiff]; rw [if_neg Bool.false_ne_true]) | fail) <;> try simp only [go_sem, ↓reduceIte, reduceCtorEq, Nat.reduceLT, Nat.reduceEqDiff, Nat.reduceBEq, Nat.reduceAdd, Nat.reduceMul, Nat.reduceSub, Nat.reduceLeDiff, Int.reduceNeg, Int.reduceLT, Int.reduceLE, Int.reduceEq, Int.reduceAdd, Int.reduceToNat, hm, c2, c1])); refine rFail_spec hc ?_; ((try simp only [go_sem, ↓reduceIte, reduceCtorEq, Nat.reduceLT, Nat.reduceEqDiff, Nat.reduceBEq, Nat.reduceAdd, Nat.reduceMul, Nat.reduceSub, Nat.reduceLeDiff, Int.reduceNeg, Int.reduceLT, Int.reduceLE, Int.reduceEq, Int.reduceAdd, Int.reduceToNat]); repeat ((first | refine AW.seq ?_ | refine AW.region env_ok ?_ | refine AW.region envR_ok ?_ | refine AW.skip ?_ | refine AW.block ?_ | refine AW.exit ?_ | refine AW.ret ?_ | (refine AW.cond (b := true) ?_ ?_; simp only [ev, upd, ↓reduceIte, Nat.reduceEqDiff]; rw [if_pos rfl]) | (refine AW.cond (b := false) ?_ ?_; simp only [ev, upd, ↓reduceIte, Nat.reduceEqDiff]; rw [if_neg Bool.false_ne_true]) | fail) <;> try simp only [go_sem, ↓reduceIte, reduceCtorEq, Nat.reduceLT, Nat.reduceEqDiff, Nat.reduceBEq, Nat.reduceAdd, Nat.reduceMul, Nat.reduceSub, Nat.reduceLeDiff, Int.reduceNeg, Int.reduceLT, Int.reduceLE, Int.reduceEq, Int.reduceAdd, Int.reduceToNat])); exact .inl (hno (if_pos (.inl c1)))
  by_cases c3 : IntKind.i64.wrap (m.row.line + n) < 0
  case pos => ((try simp only [go_sem, ↓reduceIte, reduceCtorEq, Nat.reduceLT, Nat.reduceEqDiff, Nat.reduceBEq, Nat.reduceAdd, Nat.reduceMul, Nat.reduceSub, Nat.reduceLeDiff, Int.reduceNeg, Int.reduceLT, Int.reduceLE, Int.reduceEq, Int.reduceAdd, Int.reduceToNat, hm, c1, c2, c3]); repeat ((first | refine AW.seq ?_ | refine AW.region env_ok ?_ | refine AW.region envR_ok ?_ | refine AW.skip ?_ | refine AW.block ?_ | refine AW.exit ?_ | refine AW.ret ?_ | (refine AW.cond (b := true) ?_ ?_; simp only [ev, upd, ↓reduceIte, Nat.reduceEqDiff]; rw [if_pos rfl]) | (refine AW.cond (b := false) ?_ ?_; simp only [ev, upd, ↓reduceIte, Nat.reduceEqDiff]; rw [if_neg Bool.false_ne_true]) | fail) <;> try simp only [go_sem, ↓reduceIte, reduceCtorEq, Nat.reduceLT, Nat.reduceEqDiff, Nat.reduceBEq, Nat.reduceAdd, Nat.reduceMul, Nat.reduceSub, Nat.reduceLeDiff, Int.reduceNeg, Int.reduceLT, Int.reduceLE, Int.reduceEq, Int.reduceAdd, Int.reduceToNat, hm, c1, c2, c3])); refine rFail_spec hc ?_; ((try simp only [go_sem, ↓reduceIte, reduceCtorEq, Nat.reduceLT, Nat.reduceEqDiff, Nat.reduceBEq, Nat.reduceAdd, Nat.reduceMul, Nat.reduceSub, Nat.reduceLeDiff, Int.reduceNeg, Int.reduceLT, Int.reduceLE, Int.reduceEq, Int.reduceAdd, Int.reduceToNat]); repeat ((first | refine AW.seq ?_ | refine AW.region env_ok ?_ | refine AW.region envR_ok ?_ | refine AW.skip ?_ | refine AW.block ?_ | refine AW.exit ?_ | refine AW.ret ?_ | (refine AW.cond (b := true) ?_ ?_; simp only [ev, upd, ↓reduceIte, Nat.reduceEqDiff]; rw [if_pos rfl]) | (refine AW.cond (b := false) ?_ ?_; simp only [ev, upd, ↓reduceIte, Nat.reduceEqDiff]; rw [if_neg Bool.false_ne_true]) | fail) <;> try simp only [go_sem, ↓reduceIte, reduceCtorEq, Nat.reduceLT, Nat.reduceEqDiff, Nat.reduceBEq, Nat.reduceAdd, Nat.reduceMul, Nat.reduceSub, Nat.reduceLeDiff, Int.reduceNeg, Int.reduceLT, Int.reduceLE, Int.reduceEq, Int.reduceAdd, Int.reduceToNat])); exact .inl (hno (if_pos (.inr (.inr (.inl c3)))))
  by_cases c4 : IntKind.i64.wrap (m.row.line + n) > 2147483647
  case pos => ((try simp only [go_sem, ↓reduceIte, reduceCtorEq, Nat.reduceLT, Nat.reduceEqDiff, Nat.reduceBEq, Nat.reduceAdd, Nat.reduceMul, Nat.reduceSub, Nat.reduceLeDiff, Int.reduceNeg, Int.reduceLT, Int.reduceLE, Int.reduceEq, Int.reduceAdd, Int.reduceToNat, hm, c1, c2, c3, c4]); repeat ((first | refine AW.seq ?_ | refine AW.region env_ok ?_ | refine AW.region envR_ok ?_ | refine AW.skip ?_ | refine AW.block ?_ | refine AW.exit ?_ | refine AW.ret ?_ | (refine AW.cond (b := true) ?_ ?_; simp only [ev, upd, ↓reduceIte, Nat.reduceEqDiff]; rw [if_pos rfl]) | (refine AW.cond (b := false) ?_ ?_; simp only [ev, upd, ↓reduceIte, Nat.reduceEqDiff]; rw [if_neg Bool.false_ne_true]) | fail) <;> try simp only [go_sem, ↓reduceIte, reduceCtorEq, Nat.reduceLT, Nat.reduceEqDiff, Nat.reduceBEq, Nat.reduceAdd, Nat.reduceMul, Nat.reduceSub, Nat.reduceLeDiff, Int.reduceNeg, Int.reduceLT, Int.reduceLE, Int.reduceEq, Int.reduceAdd, Int.reduceToNat, hm, c1, c2, c3, c4])); refine rFail_spec hc ?_; ((try simp only [go_sem, ↓reduceIte, reduceCtorEq, Nat.reduceLT, Nat.reduceEqDiff, Nat.reduceBEq, Nat.reduceAdd, Nat.reduceMul, Nat.reduceSub, Nat.reduceLeDiff, Int.reduceNeg, Int.reduceLT, Int.reduceLE, Int.reduceEq, Int.reduceAdd, Int.reduceToNat]); repeat ((first | refine AW.seq ?_ | refine AW.region env_ok ?_ | refine AW.region envR_ok ?_ | refine AW.skip ?_ | refine AW.block ?_ | refine AW.exit ?_ | refine AW.ret ?_ | (refine AW.cond (b := true) ?_ ?_; simp only [ev, upd, ↓reduceIte, Nat.reduceEqDiff]; rw [if_pos rfl]) | (refine AW.cond (b := false) ?_ ?_; simp only [ev, upd, ↓reduceIte, Nat.reduceEqDiff]; rw [if_neg Bool.false_ne_true]) | fail) <;> try simp only [go_sem, ↓reduceIte, reduceCtorEq, Nat.reduceLT, Nat.reduceEqDiff, Nat.reduceBEq, Nat.reduceAdd, Nat.reduceMul, Nat.reduceSub, Nat.reduceLeDiff, Int.reduceNeg, Int.reduceLT, Int.reduceLE, Int.reduceEq, Int.reduceAdd, Int.reduceToNat])); exact .inl (hno (if_pos (.inr (.inr (.inr c4)))))
  have e : m.line n = { m with row := { m.row with line := IntKind.i64.wrap (m.row.line + n) } } := if_neg (by rintro (c | c | c | c) <;> contradiction)
  rw [e, set_same hc] at h
  ((try simp only [go_sem, ↓reduceIte, reduceCtorEq, Nat.reduceLT, Nat.reduceEqDiff, Nat.reduceBEq, Nat.reduceAdd, Nat.reduceMul, Nat.reduceSub, Nat.reduceLeDiff, Int.reduceNeg, Int.reduceLT, Int.reduceLE, Int.reduceEq, Int.reduceAdd, Int.reduceToNat, hm, c1, c2, c3, c4]); repeat ((first | refine AW.seq ?_ | refine AW.region env_ok ?_ | refine AW.region envR_ok ?_ | refine AW.skip ?_ | refine AW.block ?_ | refine AW.exit ?_ | refine AW.ret ?_ | (refine AW.cond (b := true) ?_ ?_; simp only [ev, upd, ↓reduceIte, Nat.reduceEqDiff]; rw [if_pos rfl]) | (refine AW.cond (b := false) ?_ ?_; simp only [ev, upd, ↓reduceIte, Nat.reduceEqDiff]; rw [if_neg Bool.false_ne_true]) | fail) <;> try simp only [go_sem, ↓reduceIte, reduceCtorEq, Nat.reduceLT, Nat.reduceEqDiff, Nat.reduceBEq, Nat.reduceAdd, Nat.reduceMul, Nat.reduceSub, Nat.reduceLeDiff, Int.reduceNeg, Int.reduceLT, Int.reduceLE, Int.reduceEq, Int.reduceAdd, Int.reduceToNat, hm, c1, c2, c3, c4]))
  exact .inl h

theorem tell_spec (hne : pc ≠ pm) (hout : m.out.length ≤ 2000) (hk : k ≤ m.out.length) (hc : G[pc]? = some (.cells m.s.ref)) (hm : G[pm]? = some (m.ob hd pc k))
    (h : ∀ k', k' ≤ m.tell.out.length → Q (.tup []) ((G.set pc (.cells m.tell.s.ref)).set pm (m.tell.ob hd pc k'))) : AC Try.prog 45 [.ptr (some (pm, 0))] G Q := by
  have hlt := lt_of_get hm
  have hltc := lt_of_get hc
  have hmapl : ∀ v : A, [v].map lv1 = [lv1 v] := fun _ => rfl
  have hs1 : ∀ x, (G.set pm x)[pm]? = some x := fun x => by simp [hlt]
  have hs2 : ∀ x y, (G.set pm x).set pm y = G.set pm y := fun x y => List.set_set ..
  have hs3 : ∀ x, (G.set pm x)[pc]? = some (.cells m.s.ref) := fun x => by rw [List.getElem?_set_ne (fun e => hne e.symm)]; exact hc
  refine AC.enter (E := env Try.prog 51 (fun t => if t == 26 then .take else .copy) (fun _ => false)) env_ok Try.func45 rfl rfl rfl (by simp only [List.length_cons, List.length_nil]; exact of_decide_eq_true rfl) ?_
  by_cases h0 : m.s.err = 0
  case neg =>
    have e : m.tell = m := if_neg h0
    rw [e] at h
    ((try simp only [go_sem, ↓reduceIte, reduceCtorEq, Nat.reduceLT, Nat.reduceEqDiff, Nat.reduceBEq, Nat.reduceAdd, Nat.reduceMul, Nat.reduceSub, Nat.reduceLeDiff, Int.reduceNeg, Int.reduceLT, Int.reduceLE, Int.reduceEq, Int.reduceAdd, Int.reduceToNat, hm, hc, h0]); repeat ((first | refine AW.seq ?_ | refine AW.region env_ok ?_ | refine AW.region envR_ok ?_ | refine AW.skip ?_ | refine AW.block ?_ | refine AW.exit ?_ | refine AW.ret ?_ | (refine AW.cond (b := true) ?_ ?_; simp only [ev, upd, ↓reduceIte, Nat.reduceEqDiff]; rw [if_pos rfl]) | (refine AW.cond (b := false) ?_ ?_; simp only [ev, upd, ↓reduceIte, Nat.reduceEqDiff]; rw [if_neg Bool.false_ne_true]) | fail) <;> try simp only [go_sem, ↓reduceIte, reduceCtorEq, Nat.reduceLT, Nat.reduceEqDiff, Nat.reduceBEq, Nat.reduceAdd, Nat.reduceMul, Nat.reduceSub, Nat.reduceLeDiff, Int.reduceNeg, Int.reduceLT, Int.reduceLE, Int.reduceEq, Int.reduceAdd, Int.reduceToNat, hm, hc, h0]))
    have := h k hk
    rw [set_same hc, set_same hm] at this
    exact .inl this
  by_cases c : m.out.length = 2000
  · have c' : (m.out.length : Int) = 2000 := by omega
    have e : m.tell = m.fail 3 := by unfold MS.tell; rw [if_pos h0, if_pos c]
    ((try simp only [go_sem, ↓reduceIte, reduceCtorEq, Nat.reduceLT, Nat.reduceEqDiff, Nat.reduceBEq, Nat.reduceAdd, Nat.reduceMul, Nat.reduceSub, Nat.reduceLeDiff, Int.reduceNeg, Int.reduceLT, Int.reduceLE, Int.reduceEq, Int.reduceAdd, Int.reduceToNat, hm, hc, h0, c', hs1, hs2, hs3]); repeat ((first | refine AW.seq ?_ | refine AW.region env_ok ?_ | refine AW.region envR_ok ?_ | refine AW.skip ?_ | refine AW.block ?_ | refine AW.exit ?_ | refine AW.ret ?_ | (refine AW.cond (b := true) ?_ ?_; simp only [ev, upd, ↓reduceIte, Nat.reduceEqDiff]; rw [if_pos rfl]) | (refine AW.cond (b := false) ?_ ?_; simp only [ev, upd, ↓reduceIte, Nat.reduceEqDiff]; rw [if_neg Bool.false_ne_true]) | fail) <;> try simp only [go_sem, ↓reduceIte, reduceCtorEq, Nat.reduceLT, Nat.reduceEqDiff, Nat.reduceBEq, Nat.reduceAdd, Nat.reduceMul, Nat.reduceSub, Nat.reduceLeDiff, Int.reduceNeg, Int.reduceLT, Int.reduceLE, Int.reduceEq, Int.reduceAdd, Int.reduceToNat, hm, hc, h0, c', hs1, hs2, hs3]))
    refine .inl ?_
    rw [e] at h
    rw [List.set_comm _ _ (fun q => hne q.symm)]
    have := h m.out.length (Nat.le_refl _)
    rw [show (m.fail 3).s = { m.s with err := 3 } from if_pos h0] at this
    exact this
  · have c' : ¬ (m.out.length : Int) = 2000 := by omega
    ((try simp only [go_sem, ↓reduceIte, reduceCtorEq, Nat.reduceLT, Nat.reduceEqDiff, Nat.reduceBEq, Nat.reduceAdd, Nat.reduceMul, Nat.reduceSub, Nat.reduceLeDiff, Int.reduceNeg, Int.reduceLT, Int.reduceLE, Int.reduceEq, Int.reduceAdd, Int.reduceToNat, hm, hc, h0, c', hs1, hs2, hs3]); repeat ((first | refine AW.seq ?_ | refine AW.region env_ok ?_ | refine AW.region envR_ok ?_ | refine AW.skip ?_ | refine AW.block ?_ | refine AW.exit ?_ | refine AW.ret ?_ | (refine AW.cond (b := true) ?_ ?_; simp only [ev, upd, ↓reduceIte, Nat.reduceEqDiff]; rw [if_pos rfl]) | (refine AW.cond (b := false) ?_ ?_; simp only [ev, upd, ↓reduceIte, Nat.reduceEqDiff]; rw [if_neg Bool.false_ne_true]) | fail) <;> try simp only [go_sem, ↓reduceIte, reduceCtorEq, Nat.reduceLT, Nat.reduceEqDiff, Nat.reduceBEq, Nat.reduceAdd, Nat.reduceMul, Nat.reduceSub, Nat.reduceLeDiff, Int.reduceNeg, Int.reduceLT, Int.reduceLE, Int.reduceEq, Int.reduceAdd, Int.reduceToNat, hm, hc, h0, c', hs1, hs2, hs3]))
    refine AW.chain env_ok [0, 0, 2, 6, 14, 0, 32, 96, 224, 480, 1022, 2047, 4095, 8191] [0, 1, 2, 3, 5, 6, 7, 8, 9] [(4, [0, 5, 6, 7, 8, 9], []), (10, [0], [11, 12]), (13, [], [])] mixed (by decide) ?_
    have ew : (m.out.length + 1) * 56 ≤ 140737488355328 := by omega
    have hu : Uni 11 [V.agg m.row.cells] = true := rfl
    ((try simp only [go_sem, ↓reduceIte, reduceCtorEq, Nat.reduceLT, Nat.reduceEqDiff, Nat.reduceBEq, Nat.reduceAdd, Nat.reduceMul, Nat.reduceSub, Nat.reduceLeDiff, Int.reduceNeg, Int.reduceLT, Int.reduceLE, Int.reduceEq, Int.reduceAdd, Int.reduceToNat, hm, c', hs1, hs2, hmapl, leave1, ew, hu, Nat.le_refl]); repeat ((first | refine AW.seq ?_ | refine AW.region env_ok ?_ | refine AW.region envR_ok ?_ | refine AW.skip ?_ | refine AW.block ?_ | refine AW.exit ?_ | refine AW.ret ?_ | (refine AW.cond (b := true) ?_ ?_; simp only [ev, upd, ↓reduceIte, Nat.reduceEqDiff]; rw [if_pos rfl]) | (refine AW.cond (b := false) ?_ ?_; simp only [ev, upd, ↓reduceIte, Nat.reduceEqDiff]; rw [if_neg Bool.false_ne_true]) | fail) <;> try simp only [go_sem, ↓reduceIte, reduceCtorEq, Nat.reduceLT, Nat.reduceEqDiff, Nat.reduceBEq, Nat.reduceAdd, Nat.reduceMul, Nat.reduceSub, Nat.reduceLeDiff, Int.reduceNeg, Int.reduceLT, Int.reduceLE, Int.reduceEq, Int.reduceAdd, Int.reduceToNat, hm, c', hs1, hs2, hmapl, leave1, ew, hu, Nat.le_refl]))
    have e : m.tell = { m with out := m.out ++ [m.row], row := { m.row with disc := 0, blk := false, pro := false, epi := false } } := by unfold MS.tell; rw [if_pos h0, if_neg c]
    rw [e] at h
    rw [set_same hc] at h
    exact .inl (h m.out.length (by simp))

theorem plain_spec (hs : m.s.Ok) (h : Q (.int .i64 m.s.small.1) (H ++ [.cells m.s.small.2.ref, m.ob hd H.length k])) : AC Try.prog 49 [.ptr (some (H.length + 1, 0))] (H ++ [.cells m.s.ref, m.ob hd H.length k]) Q := by
  refine AC.enter (E := env Try.prog 18 (fun _ => .copy) (fun _ => false)) env_ok Try.func49 rfl rfl rfl (by simp only [List.length_cons, List.length_nil]; exact of_decide_eq_true rfl) ?_
  ((try simp only [go_sem, ↓reduceIte, reduceCtorEq, Nat.reduceLT, Nat.reduceEqDiff, Nat.reduceBEq, Nat.reduceAdd, Nat.reduceMul, Nat.reduceSub, Nat.reduceLeDiff, Int.reduceNeg, Int.reduceLT, Int.reduceLE, Int.reduceEq, Int.reduceAdd, Int.reduceToNat]); repeat ((first | refine AW.seq ?_ | refine AW.region env_ok ?_ | refine AW.region envR_ok ?_ | refine AW.skip ?_ | refine AW.block ?_ | refine AW.exit ?_ | refine AW.ret ?_ | (refine AW.cond (b := true) ?_ ?_; simp only [ev, upd, ↓reduceIte, Nat.reduceEqDiff]; rw [if_pos rfl]) | (refine AW.cond (b := false) ?_ ?_; simp only [ev, upd, ↓reduceIte, Nat.reduceEqDiff]; rw [if_neg Bool.false_ne_true]) | fail) <;> try simp only [go_sem, ↓reduceIte, reduceCtorEq, Nat.reduceLT, Nat.reduceEqDiff, Nat.reduceBEq, Nat.reduceAdd, Nat.reduceMul, Nat.reduceSub, Nat.reduceLeDiff, Int.reduceNeg, Int.reduceLT, Int.reduceLE, Int.reduceEq, Int.reduceAdd, Int.reduceToNat]))
  refine rU_spec hs (two_0 ..) ?_
  by_cases c : m.s.uleb.1 > 2147483647
  · have c' : (m.s.uleb.1 : Int) > 2147483647 := by omega
    rw [show m.s.small = (0, m.s.uleb.2.fail 48) from if_pos c] at h
    ((try simp only [go_sem, ↓reduceIte, reduceCtorEq, Nat.reduceLT, Nat.reduceEqDiff, Nat.reduceBEq, Nat.reduceAdd, Nat.reduceMul, Nat.reduceSub, Nat.reduceLeDiff, Int.reduceNeg, Int.reduceLT, Int.reduceLE, Int.reduceEq, Int.reduceAdd, Int.reduceToNat, c']); repeat ((first | refine AW.seq ?_ | refine AW.region env_ok ?_ | refine AW.region envR_ok ?_ | refine AW.skip ?_ | refine AW.block ?_ | refine AW.exit ?_ | refine AW.ret ?_ | (refine AW.cond (b := true) ?_ ?_; simp only [ev, upd, ↓reduceIte, Nat.reduceEqDiff]; rw [if_pos rfl]) | (refine AW.cond (b := false) ?_ ?_; simp only [ev, upd, ↓reduceIte, Nat.reduceEqDiff]; rw [if_neg Bool.false_ne_true]) | fail) <;> try simp only [go_sem, ↓reduceIte, reduceCtorEq, Nat.reduceLT, Nat.reduceEqDiff, Nat.reduceBEq, Nat.reduceAdd, Nat.reduceMul, Nat.reduceSub, Nat.reduceLeDiff, Int.reduceNeg, Int.reduceLT, Int.reduceLE, Int.reduceEq, Int.reduceAdd, Int.reduceToNat, c']))
    refine rFail_spec (two_0 ..) ?_
    ((try simp only [go_sem, ↓reduceIte, reduceCtorEq, Nat.reduceLT, Nat.reduceEqDiff, Nat.reduceBEq, Nat.reduceAdd, Nat.reduceMul, Nat.reduceSub, Nat.reduceLeDiff, Int.reduceNeg, Int.reduceLT, Int.reduceLE, Int.reduceEq, Int.reduceAdd, Int.reduceToNat]); repeat ((first | refine AW.seq ?_ | refine AW.region env_ok ?_ | refine AW.region envR_ok ?_ | refine AW.skip ?_ | refine AW.block ?_ | refine AW.exit ?_ | refine AW.ret ?_ | (refine AW.cond (b := true) ?_ ?_; simp only [ev, upd, ↓reduceIte, Nat.reduceEqDiff]; rw [if_pos rfl]) | (refine AW.cond (b := false) ?_ ?_; simp only [ev, upd, ↓reduceIte, Nat.reduceEqDiff]; rw [if_neg Bool.false_ne_true]) | fail) <;> try simp only [go_sem, ↓reduceIte, reduceCtorEq, Nat.reduceLT, Nat.reduceEqDiff, Nat.reduceBEq, Nat.reduceAdd, Nat.reduceMul, Nat.reduceSub, Nat.reduceLeDiff, Int.reduceNeg, Int.reduceLT, Int.reduceLE, Int.reduceEq, Int.reduceAdd, Int.reduceToNat]))
    exact .inl h
  · have c' : ¬ (m.s.uleb.1 : Int) > 2147483647 := by omega
    rw [show m.s.small = (IntKind.i64.wrap m.s.uleb.1, m.s.uleb.2) from if_neg c] at h
    ((try simp only [go_sem, ↓reduceIte, reduceCtorEq, Nat.reduceLT, Nat.reduceEqDiff, Nat.reduceBEq, Nat.reduceAdd, Nat.reduceMul, Nat.reduceSub, Nat.reduceLeDiff, Int.reduceNeg, Int.reduceLT, Int.reduceLE, Int.reduceEq, Int.reduceAdd, Int.reduceToNat, c']); repeat ((first | refine AW.seq ?_ | refine AW.region env_ok ?_ | refine AW.region envR_ok ?_ | refine AW.skip ?_ | refine AW.block ?_ | refine AW.exit ?_ | refine AW.ret ?_ | (refine AW.cond (b := true) ?_ ?_; simp only [ev, upd, ↓reduceIte, Nat.reduceEqDiff]; rw [if_pos rfl]) | (refine AW.cond (b := false) ?_ ?_; simp only [ev, upd, ↓reduceIte, Nat.reduceEqDiff]; rw [if_neg Bool.false_ne_true]) | fail) <;> try simp only [go_sem, ↓reduceIte, reduceCtorEq, Nat.reduceLT, Nat.reduceEqDiff, Nat.reduceBEq, Nat.reduceAdd, Nat.reduceMul, Nat.reduceSub, Nat.reduceLeDiff, Int.reduceNeg, Int.reduceLT, Int.reduceLE, Int.reduceEq, Int.reduceAdd, Int.reduceToNat, c']))
    exact .inl h
end
end Go.Ab
end

section
/- Package sindriref22: one operation. -/
namespace Go.Ab
open V Go.Proofs
set_option maxHeartbeats 4000000
set_option maxRecDepth 10000
set_option linter.unusedSimpArgs false
set_option linter.unusedVariables false

section
variable {hd : HD} {H G : Heap} {Q : A → Heap → Prop} {m : MS} {pc pm k : Nat}

theorem ref_mk (b : List UInt8) : [V.sl (bA b) none (), V.int .i64 1, V.int .i64 0] = (CS.mk b 1 0).ref := rfl
theorem ref_mk0 (b : List UInt8) : [V.sl (bA b) none (), V.int .i64 0, V.int .i64 0] = (CS.mk b 0 0).ref := rfl
theorem ref_flag (s : CS) : flaglessL s.ref = true := by
  rw [flaglessL_all]; simp [CS.ref, flagless, bA_flagless]
theorem ref_solid (s : CS) : s.ref.all solid = true := rfl
theorem ref_low (s : CS) (n : Nat) : lowL n s.ref = true := by
  rw [lowL_all]; simp [CS.ref, V.low, bA_low]
attribute [go_sem] ref_flag ref_solid ref_low

theorem rlong_spec (hs : m.s.Ok) (hb : m.s.b.length < 140737488355328) (hout : m.out.length ≤ 2000) (hk : k ≤ m.out.length)
    (h : ∀ k', k' ≤ (m.long hd).out.length → Q (.tup []) (H ++ [.cells (m.long hd).s.ref, (m.long hd).ob hd H.length k'])) :
    AC Try.prog 46 [.ptr (some (H.length + 1, 0))] (H ++ [.cells m.s.ref, m.ob hd H.length k]) Q := by
  have hs1 := hs.uleb
  have hs2 := hs1.take m.s.uleb.1
  have hn := CS.uleb_lt hs
  have hb1 : m.s.uleb.2.b.length < 140737488355328 := by rw [CS.uleb_b hs]; exact hb
  have hlen : (m.s.uleb.2.take m.s.uleb.1).2.err = 0 → (m.s.uleb.2.take m.s.uleb.1).1.length = m.s.uleb.1 := take_fst
  have htl := take_len2 m.s.uleb.2 m.s.uleb.1
  unfold MS.long at h
  simp only at h
  generalize hn' : m.s.uleb.1 = n at *
  generalize hs1' : m.s.uleb.2 = s1 at *
  generalize hb' : (s1.take n).1 = b at *
  generalize hs2' : (s1.take n).2 = s2 at *
  refine AC.enter (E := env Try.prog 105 (fun _ => .copy) (fun _ => false)) env_ok Try.func46 rfl rfl rfl (by simp only [List.length_cons, List.length_nil]; exact of_decide_eq_true rfl) ?_
  ((try simp only [go_sem, ↓reduceIte, reduceCtorEq, Nat.reduceLT, Nat.reduceEqDiff, Nat.reduceBEq, Nat.reduceAdd, Nat.reduceMul, Nat.reduceSub, Nat.reduceLeDiff, Int.reduceNeg, Int.reduceLT, Int.reduceLE, Int.reduceEq, Int.reduceAdd, Int.reduceToNat]); repeat ((first | refine AW.seq ?_ | refine AW.region env_ok ?_ | refine AW.region envR_ok ?_ | refine AW.skip ?_ | refine AW.block ?_ | refine AW.exit ?_ | refine AW.ret ?_ | (refine AW.cond (b := true) ?_ ?_; simp only [ev, upd, ↓reduceIte, Nat.reduceEqDiff]; rw [if_pos rfl]) | (refine AW.cond (b := false) ?_ ?_; simp only [ev, upd, ↓reduceIte, Nat.reduceEqDiff]; rw [if_neg Bool.false_ne_true]) | fail) <;> try simp only [go_sem, ↓reduceIte, reduceCtorEq, Nat.reduceLT, Nat.reduceEqDiff, Nat.reduceBEq, Nat.reduceAdd, Nat.reduceMul, Nat.reduceSub, Nat.reduceLeDiff, Int.reduceNeg, Int.reduceLT, Int.reduceLE, Int.reduceEq, Int.reduceAdd, Int.reduceToNat]))
  refine rU_spec hs (two_0 ..) ?_
  rw [hn', hs1']
  ((try simp only [go_sem, ↓reduceIte, reduceCtorEq, Nat.reduceLT, Nat.reduceEqDiff, Nat.reduceBEq, Nat.reduceAdd, Nat.reduceMul, Nat.reduceSub, Nat.reduceLeDiff, Int.reduceNeg, Int.reduceLT, Int.reduceLE, Int.reduceEq, Int.reduceAdd, Int.reduceToNat]); repeat ((first | refine AW.seq ?_ | refine AW.region env_ok ?_ | refine AW.region envR_ok ?_ | refine AW.skip ?_ | refine AW.block ?_ | refine AW.exit ?_ | refine AW.ret ?_ | (refine AW.cond (b := true) ?_ ?_; simp only [ev, upd, ↓reduceIte, Nat.reduceEqDiff]; rw [if_pos rfl]) | (refine AW.cond (b := false) ?_ ?_; simp only [ev, upd, ↓reduceIte, Nat.reduceEqDiff]; rw [if_neg Bool.false_ne_true]) | fail) <;> try simp only [go_sem, ↓reduceIte, reduceCtorEq, Nat.reduceLT, Nat.reduceEqDiff, Nat.reduceBEq, Nat.reduceAdd, Nat.reduceMul, Nat.reduceSub, Nat.reduceLeDiff, Int.reduceNeg, Int.reduceLT, Int.reduceLE, Int.reduceEq, Int.reduceAdd, Int.reduceToNat]))
  refine rBytes_spec hn hs1 hb1 (two_0 ..) ?_
  rw [hb', hs2']
  by_cases e : s2.err = 0
  case neg =>
    rw [if_pos e] at h
    ((try simp only [go_sem, ↓reduceIte, reduceCtorEq, Nat.reduceLT, Nat.reduceEqDiff, Nat.reduceBEq, Nat.reduceAdd, Nat.reduceMul, Nat.reduceSub, Nat.reduceLeDiff, Int.reduceNeg, Int.reduceLT, Int.reduceLE, Int.reduceEq, Int.reduceAdd, Int.reduceToNat, e]); repeat ((first | refine AW.seq ?_ | refine AW.region env_ok ?_ | refine AW.region envR_ok ?_ | refine AW.skip ?_ | refine AW.block ?_ | refine AW.exit ?_ | refine AW.ret ?_ | (refine AW.cond (b := true) ?_ ?_; simp only [ev, upd, ↓reduceIte, Nat.reduceEqDiff]; rw [if_pos rfl]) | (refine AW.cond (b := false) ?_ ?_; simp only [ev, upd, ↓reduceIte, Nat.reduceEqDiff]; rw [if_neg Bool.false_ne_true]) | fail) <;> try simp only [go_sem, ↓reduceIte, reduceCtorEq, Nat.reduceLT, Nat.reduceEqDiff, Nat.reduceBEq, Nat.reduceAdd, Nat.reduceMul, Nat.reduceSub, Nat.reduceLeDiff, Int.reduceNeg, Int.reduceLT, Int.reduceLE, Int.reduceEq, Int.reduceAdd, Int.reduceToNat, e]))
    exact .inl (h k hk)
  rw [if_neg (by simpa using e)] at h
  have hbl := hlen e
  by_cases c0 : n = 0
  · rw [if_pos (.inl c0)] at h
    have c0' : (n : Int) = 0 := by omega
    ((try simp only [go_sem, ↓reduceIte, reduceCtorEq, Nat.reduceLT, Nat.reduceEqDiff, Nat.reduceBEq, Nat.reduceAdd, Nat.reduceMul, Nat.reduceSub, Nat.reduceLeDiff, Int.reduceNeg, Int.reduceLT, Int.reduceLE, Int.reduceEq, Int.reduceAdd, Int.reduceToNat, e, hbl, c0']); repeat ((first | refine AW.seq ?_ | refine AW.region env_ok ?_ | refine AW.region envR_ok ?_ | refine AW.skip ?_ | refine AW.block ?_ | refine AW.exit ?_ | refine AW.ret ?_ | (refine AW.cond (b := true) ?_ ?_; simp only [ev, upd, ↓reduceIte, Nat.reduceEqDiff]; rw [if_pos rfl]) | (refine AW.cond (b := false) ?_ ?_; simp only [ev, upd, ↓reduceIte, Nat.reduceEqDiff]; rw [if_neg Bool.false_ne_true]) | fail) <;> try simp only [go_sem, ↓reduceIte, reduceCtorEq, Nat.reduceLT, Nat.reduceEqDiff, Nat.reduceBEq, Nat.reduceAdd, Nat.reduceMul, Nat.reduceSub, Nat.reduceLeDiff, Int.reduceNeg, Int.reduceLT, Int.reduceLE, Int.reduceEq, Int.reduceAdd, Int.reduceToNat, e, hbl, c0']))
    have := h k hk
    rw [show (MS.fail { m with s := s2 } 48).s = { s2 with err := 48 } from if_pos e] at this
    exact .inl this
  have c0' : ¬ (n : Int) = 0 := by omega
  have hsub : (CS.mk b 1 0).Ok := by unfold CS.Ok; simp only; omega
  have hx0 : (bA b).getD 0 (V.undef ()) = V.int .u8 ((b.getD 0 0).toNat : Nat) := by
    cases b with
    | nil => simp at hbl; omega
    | cons x b => rfl
  have hnb : (0 : Int) < n := by omega
  have f48 : (MS.fail { m with s := s2 } 48).s = { s2 with err := 48 } := if_pos e
  generalize (b.getD 0 0).toNat = x at h hx0
  by_cases x1 : x = 1
  · have x1' : (x : Int) = 1 := by omega
    by_cases n1 : n = 1
    · have n1' : (n : Int) = 1 := by omega
      rw [if_neg (by omega), if_pos x1] at h
      ((try simp only [go_sem, ↓reduceIte, reduceCtorEq, Nat.reduceLT, Nat.reduceEqDiff, Nat.reduceBEq, Nat.reduceAdd, Nat.reduceMul, Nat.reduceSub, Nat.reduceLeDiff, Int.reduceNeg, Int.reduceLT, Int.reduceLE, Int.reduceEq, Int.reduceAdd, Int.reduceToNat, e, hbl, c0', hx0, hnb, x1', n1', ref_mk]); repeat ((first | refine AW.seq ?_ | refine AW.region env_ok ?_ | refine AW.region envR_ok ?_ | refine AW.skip ?_ | refine AW.block ?_ | refine AW.exit ?_ | refine AW.ret ?_ | (refine AW.cond (b := true) ?_ ?_; simp only [ev, upd, ↓reduceIte, Nat.reduceEqDiff]; rw [if_pos rfl]) | (refine AW.cond (b := false) ?_ ?_; simp only [ev, upd, ↓reduceIte, Nat.reduceEqDiff]; rw [if_neg Bool.false_ne_true]) | fail) <;> try simp only [go_sem, ↓reduceIte, reduceCtorEq, Nat.reduceLT, Nat.reduceEqDiff, Nat.reduceBEq, Nat.reduceAdd, Nat.reduceMul, Nat.reduceSub, Nat.reduceLeDiff, Int.reduceNeg, Int.reduceLT, Int.reduceLE, Int.reduceEq, Int.reduceAdd, Int.reduceToNat, e, hbl, c0', hx0, hnb, x1', n1', ref_mk]))
      refine tell_spec (m := { m with s := s2, row := { m.row with stop := true } }) (pc := H.length) (pm := H.length + 1) (k := k) (by omega) hout hk (three_0 ..) (three_1 ..) ?_
      intro k' hk'
      have hd1 : flaglessL hd.cells = true := hd_flagless hd
      ((try simp only [go_sem, ↓reduceIte, reduceCtorEq, Nat.reduceLT, Nat.reduceEqDiff, Nat.reduceBEq, Nat.reduceAdd, Nat.reduceMul, Nat.reduceSub, Nat.reduceLeDiff, Int.reduceNeg, Int.reduceLT, Int.reduceLE, Int.reduceEq, Int.reduceAdd, Int.reduceToNat]); repeat ((first | refine AW.seq ?_ | refine AW.region env_ok ?_ | refine AW.region envR_ok ?_ | refine AW.skip ?_ | refine AW.block ?_ | refine AW.exit ?_ | refine AW.ret ?_ | (refine AW.cond (b := true) ?_ ?_; simp only [ev, upd, ↓reduceIte, Nat.reduceEqDiff]; rw [if_pos rfl]) | (refine AW.cond (b := false) ?_ ?_; simp only [ev, upd, ↓reduceIte, Nat.reduceEqDiff]; rw [if_neg Bool.false_ne_true]) | fail) <;> try simp only [go_sem, ↓reduceIte, reduceCtorEq, Nat.reduceLT, Nat.reduceEqDiff, Nat.reduceBEq, Nat.reduceAdd, Nat.reduceMul, Nat.reduceSub, Nat.reduceLeDiff, Int.reduceNeg, Int.reduceLT, Int.reduceLE, Int.reduceEq, Int.reduceAdd, Int.reduceToNat]))
      refine rStart_spec ?_
      ((try simp only [go_sem, ↓reduceIte, reduceCtorEq, Nat.reduceLT, Nat.reduceEqDiff, Nat.reduceBEq, Nat.reduceAdd, Nat.reduceMul, Nat.reduceSub, Nat.reduceLeDiff, Int.reduceNeg, Int.reduceLT, Int.reduceLE, Int.reduceEq, Int.reduceAdd, Int.reduceToNat, hbl, hx0, hnb, x1']); repeat ((first | refine AW.seq ?_ | refine AW.region env_ok ?_ | refine AW.region envR_ok ?_ | refine AW.skip ?_ | refine AW.block ?_ | refine AW.exit ?_ | refine AW.ret ?_ | (refine AW.cond (b := true) ?_ ?_; simp only [ev, upd, ↓reduceIte, Nat.reduceEqDiff]; rw [if_pos rfl]) | (refine AW.cond (b := false) ?_ ?_; simp only [ev, upd, ↓reduceIte, Nat.reduceEqDiff]; rw [if_neg Bool.false_ne_true]) | fail) <;> try simp only [go_sem, ↓reduceIte, reduceCtorEq, Nat.reduceLT, Nat.reduceEqDiff, Nat.reduceBEq, Nat.reduceAdd, Nat.reduceMul, Nat.reduceSub, Nat.reduceLeDiff, Int.reduceNeg, Int.reduceLT, Int.reduceLE, Int.reduceEq, Int.reduceAdd, Int.reduceToNat, hbl, hx0, hnb, x1']))
      exact .inr (h k' hk')
    · have n1' : ¬ (n : Int) = 1 := by omega
      rw [if_pos (.inr (.inl ⟨x1, n1⟩))] at h
      ((try simp only [go_sem, ↓reduceIte, reduceCtorEq, Nat.reduceLT, Nat.reduceEqDiff, Nat.reduceBEq, Nat.reduceAdd, Nat.reduceMul, Nat.reduceSub, Nat.reduceLeDiff, Int.reduceNeg, Int.reduceLT, Int.reduceLE, Int.reduceEq, Int.reduceAdd, Int.reduceToNat, e, hbl, c0', hx0, hnb, x1', n1']); repeat ((first | refine AW.seq ?_ | refine AW.region env_ok ?_ | refine AW.region envR_ok ?_ | refine AW.skip ?_ | refine AW.block ?_ | refine AW.exit ?_ | refine AW.ret ?_ | (refine AW.cond (b := true) ?_ ?_; simp only [ev, upd, ↓reduceIte, Nat.reduceEqDiff]; rw [if_pos rfl]) | (refine AW.cond (b := false) ?_ ?_; simp only [ev, upd, ↓reduceIte, Nat.reduceEqDiff]; rw [if_neg Bool.false_ne_true]) | fail) <;> try simp only [go_sem, ↓reduceIte, reduceCtorEq, Nat.reduceLT, Nat.reduceEqDiff, Nat.reduceBEq, Nat.reduceAdd, Nat.reduceMul, Nat.reduceSub, Nat.reduceLeDiff, Int.reduceNeg, Int.reduceLT, Int.reduceLE, Int.reduceEq, Int.reduceAdd, Int.reduceToNat, e, hbl, c0', hx0, hnb, x1', n1']))
      have := h k hk
      rw [f48] at this
      exact .inl this
  have x1' : ¬ (x : Int) = 1 := by omega
  by_cases x2 : x = 2
  · have x2' : (x : Int) = 2 := by omega
    by_cases n9 : n = 9
    · have n9' : (n : Int) = 9 := by omega
      rw [if_neg (by omega), if_neg x1, if_pos x2] at h
      ((try simp only [go_sem, ↓reduceIte, reduceCtorEq, Nat.reduceLT, Nat.reduceEqDiff, Nat.reduceBEq, Nat.reduceAdd, Nat.reduceMul, Nat.reduceSub, Nat.reduceLeDiff, Int.reduceNeg, Int.reduceLT, Int.reduceLE, Int.reduceEq, Int.reduceAdd, Int.reduceToNat, e, hbl, c0', hx0, hnb, x1', x2', n9', ref_mk]); repeat ((first | refine AW.seq ?_ | refine AW.region env_ok ?_ | refine AW.region envR_ok ?_ | refine AW.skip ?_ | refine AW.block ?_ | refine AW.exit ?_ | refine AW.ret ?_ | (refine AW.cond (b := true) ?_ ?_; simp only [ev, upd, ↓reduceIte, Nat.reduceEqDiff]; rw [if_pos rfl]) | (refine AW.cond (b := false) ?_ ?_; simp only [ev, upd, ↓reduceIte, Nat.reduceEqDiff]; rw [if_neg Bool.false_ne_true]) | fail) <;> try simp only [go_sem, ↓reduceIte, reduceCtorEq, Nat.reduceLT, Nat.reduceEqDiff, Nat.reduceBEq, Nat.reduceAdd, Nat.reduceMul, Nat.reduceSub, Nat.reduceLeDiff, Int.reduceNeg, Int.reduceLT, Int.reduceLE, Int.reduceEq, Int.reduceAdd, Int.reduceToNat, e, hbl, c0', hx0, hnb, x1', x2', n9', ref_mk]))
      refine rUint_spec hsub (three_2 ..) ?_
      rw [show (min (max (8 : Int) 0) 8).toNat = 8 from rfl]
      ((try simp only [go_sem, ↓reduceIte, reduceCtorEq, Nat.reduceLT, Nat.reduceEqDiff, Nat.reduceBEq, Nat.reduceAdd, Nat.reduceMul, Nat.reduceSub, Nat.reduceLeDiff, Int.reduceNeg, Int.reduceLT, Int.reduceLE, Int.reduceEq, Int.reduceAdd, Int.reduceToNat, hbl, hx0, hnb, x2']); repeat ((first | refine AW.seq ?_ | refine AW.region env_ok ?_ | refine AW.region envR_ok ?_ | refine AW.skip ?_ | refine AW.block ?_ | refine AW.exit ?_ | refine AW.ret ?_ | (refine AW.cond (b := true) ?_ ?_; simp only [ev, upd, ↓reduceIte, Nat.reduceEqDiff]; rw [if_pos rfl]) | (refine AW.cond (b := false) ?_ ?_; simp only [ev, upd, ↓reduceIte, Nat.reduceEqDiff]; rw [if_neg Bool.false_ne_true]) | fail) <;> try simp only [go_sem, ↓reduceIte, reduceCtorEq, Nat.reduceLT, Nat.reduceEqDiff, Nat.reduceBEq, Nat.reduceAdd, Nat.reduceMul, Nat.reduceSub, Nat.reduceLeDiff, Int.reduceNeg, Int.reduceLT, Int.reduceLE, Int.reduceEq, Int.reduceAdd, Int.reduceToNat, hbl, hx0, hnb, x2']))
      exact .inr (h k hk)
    · have n9' : ¬ (n : Int) = 9 := by omega
      rw [if_pos (.inr (.inr ⟨x2, n9⟩))] at h
      ((try simp only [go_sem, ↓reduceIte, reduceCtorEq, Nat.reduceLT, Nat.reduceEqDiff, Nat.reduceBEq, Nat.reduceAdd, Nat.reduceMul, Nat.reduceSub, Nat.reduceLeDiff, Int.reduceNeg, Int.reduceLT, Int.reduceLE, Int.reduceEq, Int.reduceAdd, Int.reduceToNat, e, hbl, c0', hx0, hnb, x1', x2', n9']); repeat ((first | refine AW.seq ?_ | refine AW.region env_ok ?_ | refine AW.region envR_ok ?_ | refine AW.skip ?_ | refine AW.block ?_ | refine AW.exit ?_ | refine AW.ret ?_ | (refine AW.cond (b := true) ?_ ?_; simp only [ev, upd, ↓reduceIte, Nat.reduceEqDiff]; rw [if_pos rfl]) | (refine AW.cond (b := false) ?_ ?_; simp only [ev, upd, ↓reduceIte, Nat.reduceEqDiff]; rw [if_neg Bool.false_ne_true]) | fail) <;> try simp only [go_sem, ↓reduceIte, reduceCtorEq, Nat.reduceLT, Nat.reduceEqDiff, Nat.reduceBEq, Nat.reduceAdd, Nat.reduceMul, Nat.reduceSub, Nat.reduceLeDiff, Int.reduceNeg, Int.reduceLT, Int.reduceLE, Int.reduceEq, Int.reduceAdd, Int.reduceToNat, e, hbl, c0', hx0, hnb, x1', x2', n9']))
      have := h k hk
      rw [f48] at this
      exact .inl this
  have x2' : ¬ (x : Int) = 2 := by omega
  rw [if_neg (by omega), if_neg x1, if_neg x2] at h
  by_cases x4 : x = 4
  · have x4' : (x : Int) = 4 := by omega
    rw [if_pos x4] at h
    ((try simp only [go_sem, ↓reduceIte, reduceCtorEq, Nat.reduceLT, Nat.reduceEqDiff, Nat.reduceBEq, Nat.reduceAdd, Nat.reduceMul, Nat.reduceSub, Nat.reduceLeDiff, Int.reduceNeg, Int.reduceLT, Int.reduceLE, Int.reduceEq, Int.reduceAdd, Int.reduceToNat, e, hbl, c0', hx0, hnb, x1', x2', x4', ref_mk]); repeat ((first | refine AW.seq ?_ | refine AW.region env_ok ?_ | refine AW.region envR_ok ?_ | refine AW.skip ?_ | refine AW.block ?_ | refine AW.exit ?_ | refine AW.ret ?_ | (refine AW.cond (b := true) ?_ ?_; simp only [ev, upd, ↓reduceIte, Nat.reduceEqDiff]; rw [if_pos rfl]) | (refine AW.cond (b := false) ?_ ?_; simp only [ev, upd, ↓reduceIte, Nat.reduceEqDiff]; rw [if_neg Bool.false_ne_true]) | fail) <;> try simp only [go_sem, ↓reduceIte, reduceCtorEq, Nat.reduceLT, Nat.reduceEqDiff, Nat.reduceBEq, Nat.reduceAdd, Nat.reduceMul, Nat.reduceSub, Nat.reduceLeDiff, Int.reduceNeg, Int.reduceLT, Int.reduceLE, Int.reduceEq, Int.reduceAdd, Int.reduceToNat, e, hbl, c0', hx0, hnb, x1', x2', x4', ref_mk]))
    refine rU_spec hsub (three_2 ..) ?_
    ((try simp only [go_sem, ↓reduceIte, reduceCtorEq, Nat.reduceLT, Nat.reduceEqDiff, Nat.reduceBEq, Nat.reduceAdd, Nat.reduceMul, Nat.reduceSub, Nat.reduceLeDiff, Int.reduceNeg, Int.reduceLT, Int.reduceLE, Int.reduceEq, Int.reduceAdd, Int.reduceToNat]); repeat ((first | refine AW.seq ?_ | refine AW.region env_ok ?_ | refine AW.region envR_ok ?_ | refine AW.skip ?_ | refine AW.block ?_ | refine AW.exit ?_ | refine AW.ret ?_ | (refine AW.cond (b := true) ?_ ?_; simp only [ev, upd, ↓reduceIte, Nat.reduceEqDiff]; rw [if_pos rfl]) | (refine AW.cond (b := false) ?_ ?_; simp only [ev, upd, ↓reduceIte, Nat.reduceEqDiff]; rw [if_neg Bool.false_ne_true]) | fail) <;> try simp only [go_sem, ↓reduceIte, reduceCtorEq, Nat.reduceLT, Nat.reduceEqDiff, Nat.reduceBEq, Nat.reduceAdd, Nat.reduceMul, Nat.reduceSub, Nat.reduceLeDiff, Int.reduceNeg, Int.reduceLT, Int.reduceLE, Int.reduceEq, Int.reduceAdd, Int.reduceToNat]))
    refine rEnd_spec hsub.uleb (three_2 ..) ?_
    by_cases es : (CS.mk b 1 0).uleb.2.stop = 0
    · rw [if_neg (by simpa using es)] at h
      unfold CS.stop at es
      rw [es]
      ((try simp only [go_sem, ↓reduceIte, reduceCtorEq, Nat.reduceLT, Nat.reduceEqDiff, Nat.reduceBEq, Nat.reduceAdd, Nat.reduceMul, Nat.reduceSub, Nat.reduceLeDiff, Int.reduceNeg, Int.reduceLT, Int.reduceLE, Int.reduceEq, Int.reduceAdd, Int.reduceToNat]); repeat ((first | refine AW.seq ?_ | refine AW.region env_ok ?_ | refine AW.region envR_ok ?_ | refine AW.skip ?_ | refine AW.block ?_ | refine AW.exit ?_ | refine AW.ret ?_ | (refine AW.cond (b := true) ?_ ?_; simp only [ev, upd, ↓reduceIte, Nat.reduceEqDiff]; rw [if_pos rfl]) | (refine AW.cond (b := false) ?_ ?_; simp only [ev, upd, ↓reduceIte, Nat.reduceEqDiff]; rw [if_neg Bool.false_ne_true]) | fail) <;> try simp only [go_sem, ↓reduceIte, reduceCtorEq, Nat.reduceLT, Nat.reduceEqDiff, Nat.reduceBEq, Nat.reduceAdd, Nat.reduceMul, Nat.reduceSub, Nat.reduceLeDiff, Int.reduceNeg, Int.reduceLT, Int.reduceLE, Int.reduceEq, Int.reduceAdd, Int.reduceToNat]))
      exact .inr (h k hk)
    · rw [if_pos es] at h
      unfold CS.stop at es
      ((try simp only [go_sem, ↓reduceIte, reduceCtorEq, Nat.reduceLT, Nat.reduceEqDiff, Nat.reduceBEq, Nat.reduceAdd, Nat.reduceMul, Nat.reduceSub, Nat.reduceLeDiff, Int.reduceNeg, Int.reduceLT, Int.reduceLE, Int.reduceEq, Int.reduceAdd, Int.reduceToNat, es]); repeat ((first | refine AW.seq ?_ | refine AW.region env_ok ?_ | refine AW.region envR_ok ?_ | refine AW.skip ?_ | refine AW.block ?_ | refine AW.exit ?_ | refine AW.ret ?_ | (refine AW.cond (b := true) ?_ ?_; simp only [ev, upd, ↓reduceIte, Nat.reduceEqDiff]; rw [if_pos rfl]) | (refine AW.cond (b := false) ?_ ?_; simp only [ev, upd, ↓reduceIte, Nat.reduceEqDiff]; rw [if_neg Bool.false_ne_true]) | fail) <;> try simp only [go_sem, ↓reduceIte, reduceCtorEq, Nat.reduceLT, Nat.reduceEqDiff, Nat.reduceBEq, Nat.reduceAdd, Nat.reduceMul, Nat.reduceSub, Nat.reduceLeDiff, Int.reduceNeg, Int.reduceLT, Int.reduceLE, Int.reduceEq, Int.reduceAdd, Int.reduceToNat, es]))
      have := h k hk
      rw [show (MS.fail { m with s := s2, row := { m.row with disc := ((CS.mk b 1 0).uleb.1 : Nat) } } 48).s = { s2 with err := 48 } from if_pos e] at this
      exact .inr this
  · have x4' : ¬ (x : Int) = 4 := by omega
    rw [if_neg x4] at h
    ((try simp only [go_sem, ↓reduceIte, reduceCtorEq, Nat.reduceLT, Nat.reduceEqDiff, Nat.reduceBEq, Nat.reduceAdd, Nat.reduceMul, Nat.reduceSub, Nat.reduceLeDiff, Int.reduceNeg, Int.reduceLT, Int.reduceLE, Int.reduceEq, Int.reduceAdd, Int.reduceToNat, e, hbl, c0', hx0, hnb, x1', x2', x4', ref_mk]); repeat ((first | refine AW.seq ?_ | refine AW.region env_ok ?_ | refine AW.region envR_ok ?_ | refine AW.skip ?_ | refine AW.block ?_ | refine AW.exit ?_ | refine AW.ret ?_ | (refine AW.cond (b := true) ?_ ?_; simp only [ev, upd, ↓reduceIte, Nat.reduceEqDiff]; rw [if_pos rfl]) | (refine AW.cond (b := false) ?_ ?_; simp only [ev, upd, ↓reduceIte, Nat.reduceEqDiff]; rw [if_neg Bool.false_ne_true]) | fail) <;> try simp only [go_sem, ↓reduceIte, reduceCtorEq, Nat.reduceLT, Nat.reduceEqDiff, Nat.reduceBEq, Nat.reduceAdd, Nat.reduceMul, Nat.reduceSub, Nat.reduceLeDiff, Int.reduceNeg, Int.reduceLT, Int.reduceLE, Int.reduceEq, Int.reduceAdd, Int.reduceToNat, e, hbl, c0', hx0, hnb, x1', x2', x4', ref_mk]))
    exact .inr (h k hk)
end
end Go.Ab
end
