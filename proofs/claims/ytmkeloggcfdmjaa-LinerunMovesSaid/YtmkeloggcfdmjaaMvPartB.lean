/- Contracts of the functions that the law reaches. -/
import Derived.Test.YtmkeloggcfdmjaaMvPartA
import Derived.Laws.Bits64
import Derived.Laws.BitsLemmas
import Derived.Test.YtmkeloggcfdmjaaMvLAbExt
set_option linter.all false
set_option linter.unusedSimpArgs false
set_option linter.unusedVariables false
set_option linter.unnecessarySimpa false
section
/- Package leb: numbers that are read. -/
namespace Go.Ab
open V Go.Proofs
set_option maxHeartbeats 4000000
set_option maxRecDepth 10000
set_option linter.unusedSimpArgs false
set_option linter.unusedVariables false

/-- The parts, filled up. -/
def p10 (l : List Nat) : List Nat := l ++ List.replicate (10 - l.length) 0
theorem val7_zeros (k : Nat) : val7 (List.replicate k 0) = 0 := by
  induction k with
  | zero => rfl
  | succ k ih => simp [List.replicate_succ, val7, ih]
theorem val7_p10 (l : List Nat) : val7 (p10 l) = val7 l := by rw [p10, val7_append, val7_zeros]; simp
theorem p10_len {l : List Nat} (h : l.length ≤ 10) : (p10 l).length = 10 := by simp [p10]; omega
theorem p10_lt {l : List Nat} (h : ∀ x ∈ l, x < 128) : ∀ x ∈ p10 l, x < 128 := by
  intro x hx
  rcases List.mem_append.1 hx with hx | hx
  · exact h x hx
  · rw [(List.mem_replicate.1 hx).2]; omega
theorem pA_at {l : List Nat} {i : Nat} (h : i < (p10 l).length) : (pA l)[i]? = some (.int .u8 ((p10 l)[i] : Nat)) := by
  show ((p10 l).map _)[i]? = _
  rw [List.getElem?_map, List.getElem?_eq_getElem h]; rfl
theorem val7_snoc (l : List Nat) (x : Nat) : val7 (l ++ [x]) = val7 l + x * 2 ^ (7 * l.length) := by
  rw [val7_append, show (128 : Nat) = 2 ^ 7 from rfl, ← Nat.pow_mul]; simp [val7, Nat.mul_comm]

theorem get_last (H : Heap) (x : Ob Unit) : (H ++ [x])[H.length]? = some x := by simp

section
variable {p : Nat} {s : CS} {H : Heap} {Q : A → Heap → Prop}

theorem whole_spec {l : List Nat} (hl : l.length ≤ 10) (hx : ∀ x ∈ l, x < 128) (h : Q (.int .u64 (val7 l % 18446744073709551616 : Nat)) H) : AC Try.prog 59 [.agg (pA l)] H Q := by
  refine AC.enter (E := env Try.prog 21 (fun _ => .copy) (fun _ => false)) env_ok Try.func59 rfl rfl rfl (by simp only [List.length_cons, List.length_nil]; exact of_decide_eq_true rfl) ?_
  ((try simp (disch := omega) only [go_sem, ↓reduceIte, reduceCtorEq, Nat.reduceLT, Nat.reduceEqDiff, Nat.reduceBEq, Nat.reduceAdd, Nat.reduceMul, Nat.reduceSub, Nat.reduceLeDiff, Int.reduceNeg, Int.reduceLT, Int.reduceLE, Int.reduceEq, Int.reduceAdd, Int.reduceToNat, IntWalk.i64_in, IntWalk.u64_in, IntWalk.u8_in, if_pos, if_neg, Bool.and_eq_true, decide_eq_true_eq, pA_len hl, get_last, pA_take hl]); repeat ((first | refine AW.seq ?_ | refine AW.region env_ok ?_ | refine AW.region envR_ok ?_ | refine AW.skip ?_ | refine AW.block ?_ | refine AW.exit ?_ | refine AW.ret ?_ | (refine AW.cond (b := true) ?_ ?_; simp only [ev, upd, ↓reduceIte, Nat.reduceEqDiff]; rw [if_pos rfl]) | (refine AW.cond (b := false) ?_ ?_; simp only [ev, upd, ↓reduceIte, Nat.reduceEqDiff]; rw [if_neg Bool.false_ne_true]) | fail) <;> try simp (disch := omega) only [go_sem, ↓reduceIte, reduceCtorEq, Nat.reduceLT, Nat.reduceEqDiff, Nat.reduceBEq, Nat.reduceAdd, Nat.reduceMul, Nat.reduceSub, Nat.reduceLeDiff, Int.reduceNeg, Int.reduceLT, Int.reduceLE, Int.reduceEq, Int.reduceAdd, Int.reduceToNat, IntWalk.i64_in, IntWalk.u64_in, IntWalk.u8_in, if_pos, if_neg, Bool.and_eq_true, decide_eq_true_eq, pA_len hl, get_last, pA_take hl]))
  refine AW.loop (fun st => ∃ i : Nat, i ≤ 10 ∧ st.σ 7 = .int .i64 i ∧ st.σ 6 = .agg (pA l) ∧ st.σ 3 = .int .u64 (val7 ((p10 l).take i) % 18446744073709551616 : Nat) ∧ st.H.take H.length = H)
    (fun st => match st.σ 7 with | .int _ i => 10 - i.toNat | _ => 0) ⟨0, by omega, rfl, rfl, rfl, by simp⟩ ?_
  rintro ⟨σ, H2⟩ ⟨i, hi, h7, h6, h3, hH⟩
  simp only at h7 h6 h3 hH
  have hlen := p10_len hl
  ((try simp only [go_sem, ↓reduceIte, reduceCtorEq, Nat.reduceLT, Nat.reduceEqDiff, Nat.reduceBEq, Nat.reduceAdd, Nat.reduceMul, Nat.reduceSub, Nat.reduceLeDiff, Int.reduceNeg, Int.reduceLT, Int.reduceLE, Int.reduceEq, Int.reduceAdd, Int.reduceToNat, h7]); repeat ((first | refine AW.seq ?_ | refine AW.region env_ok ?_ | refine AW.region envR_ok ?_ | refine AW.skip ?_ | refine AW.block ?_ | refine AW.exit ?_ | refine AW.ret ?_ | (refine AW.cond (b := true) ?_ ?_; simp only [ev, upd, ↓reduceIte, Nat.reduceEqDiff]; rw [if_pos rfl]) | (refine AW.cond (b := false) ?_ ?_; simp only [ev, upd, ↓reduceIte, Nat.reduceEqDiff]; rw [if_neg Bool.false_ne_true]) | fail) <;> try simp only [go_sem, ↓reduceIte, reduceCtorEq, Nat.reduceLT, Nat.reduceEqDiff, Nat.reduceBEq, Nat.reduceAdd, Nat.reduceMul, Nat.reduceSub, Nat.reduceLeDiff, Int.reduceNeg, Int.reduceLT, Int.reduceLE, Int.reduceEq, Int.reduceAdd, Int.reduceToNat, h7]))
  (refine AW.cond rfl ?_; (try simp only [Bool.not_eq_true', decide_eq_false_iff_not, decide_eq_true_eq, Bool.false_eq_true, Bool.and_eq_true, Bool.or_eq_true, if_true, if_false]); split <;> rename_i e)
  · have hi' : i < (p10 l).length := by omega
    have hxi := p10_lt hx _ (List.getElem_mem hi')
    have hle := val7_lt ((p10 l).take i) fun x h => p10_lt hx x (List.mem_of_mem_take h)
    rw [List.length_take, Nat.min_eq_left (by omega), show (128 : Nat) = 2 ^ 7 from rfl, ← Nat.pow_mul] at hle
    have e17 : IntKind.u64.wrap (((p10 l)[i] : Int) * 2 ^ min (7 * (i : Int)).toNat 64) = (((p10 l)[i] * 2 ^ (7 * i) % 18446744073709551616 : Nat) : Int) := by
      rw [show (7 * (i : Int)).toNat = 7 * i by omega, Nat.min_eq_left (by omega), show ((p10 l)[i] : Int) * 2 ^ (7 * i) = (((p10 l)[i] * 2 ^ (7 * i) : Nat) : Int) by simp, IntKind.wrap_u64]
      omega
    have e18 : bitsI .or .u64 (val7 ((p10 l).take i) % 18446744073709551616 : Nat) ((p10 l)[i] * 2 ^ (7 * i) % 18446744073709551616 : Nat) = (val7 ((p10 l).take (i + 1)) % 18446744073709551616 : Nat) := by
      rw [bits_or (by omega) (by omega), show (18446744073709551616 : Nat) = 2 ^ 64 from rfl, ← Nat.or_mod_two_pow, or_high hle, List.take_succ_eq_append_getElem hi', val7_snoc, List.length_take, Nat.min_eq_left (by omega)]
    ((try simp (disch := omega) only [go_sem, ↓reduceIte, reduceCtorEq, Nat.reduceLT, Nat.reduceEqDiff, Nat.reduceBEq, Nat.reduceAdd, Nat.reduceMul, Nat.reduceSub, Nat.reduceLeDiff, Int.reduceNeg, Int.reduceLT, Int.reduceLE, Int.reduceEq, Int.reduceAdd, Int.reduceToNat, IntWalk.i64_in, IntWalk.u64_in, IntWalk.u8_in, if_pos, if_neg, Bool.and_eq_true, decide_eq_true_eq, h7, h6, h3, pA_at hi', e17, e18]); repeat ((first | refine AW.seq ?_ | refine AW.region env_ok ?_ | refine AW.region envR_ok ?_ | refine AW.skip ?_ | refine AW.block ?_ | refine AW.exit ?_ | refine AW.ret ?_ | (refine AW.cond (b := true) ?_ ?_; simp only [ev, upd, ↓reduceIte, Nat.reduceEqDiff]; rw [if_pos rfl]) | (refine AW.cond (b := false) ?_ ?_; simp only [ev, upd, ↓reduceIte, Nat.reduceEqDiff]; rw [if_neg Bool.false_ne_true]) | fail) <;> try simp (disch := omega) only [go_sem, ↓reduceIte, reduceCtorEq, Nat.reduceLT, Nat.reduceEqDiff, Nat.reduceBEq, Nat.reduceAdd, Nat.reduceMul, Nat.reduceSub, Nat.reduceLeDiff, Int.reduceNeg, Int.reduceLT, Int.reduceLE, Int.reduceEq, Int.reduceAdd, Int.reduceToNat, IntWalk.i64_in, IntWalk.u64_in, IntWalk.u8_in, if_pos, if_neg, Bool.and_eq_true, decide_eq_true_eq, h7, h6, h3, pA_at hi', e17, e18]))
    exact ⟨⟨i + 1, by omega, rfl, rfl, hH⟩, by omega⟩
  · ((try simp only [go_sem, ↓reduceIte, reduceCtorEq, Nat.reduceLT, Nat.reduceEqDiff, Nat.reduceBEq, Nat.reduceAdd, Nat.reduceMul, Nat.reduceSub, Nat.reduceLeDiff, Int.reduceNeg, Int.reduceLT, Int.reduceLE, Int.reduceEq, Int.reduceAdd, Int.reduceToNat, h7, h6, h3]); repeat ((first | refine AW.seq ?_ | refine AW.region env_ok ?_ | refine AW.region envR_ok ?_ | refine AW.skip ?_ | refine AW.block ?_ | refine AW.exit ?_ | refine AW.ret ?_ | (refine AW.cond (b := true) ?_ ?_; simp only [ev, upd, ↓reduceIte, Nat.reduceEqDiff]; rw [if_pos rfl]) | (refine AW.cond (b := false) ?_ ?_; simp only [ev, upd, ↓reduceIte, Nat.reduceEqDiff]; rw [if_neg Bool.false_ne_true]) | fail) <;> try simp only [go_sem, ↓reduceIte, reduceCtorEq, Nat.reduceLT, Nat.reduceEqDiff, Nat.reduceBEq, Nat.reduceAdd, Nat.reduceMul, Nat.reduceSub, Nat.reduceLeDiff, Int.reduceNeg, Int.reduceLT, Int.reduceLE, Int.reduceEq, Int.reduceAdd, Int.reduceToNat, h7, h6, h3]))
    refine .inr ?_
    rw [hH, List.take_of_length_le (by omega), val7_p10]
    exact h

theorem U_spec (hs : s.Ok) (hp : H[p]? = some (.cells s.cur)) (h : Q (.int .u64 s.uleb.1) (H.set p (.cells s.uleb.2.cur))) : AC Try.prog 37 [.ptr (some (p, 0))] H Q := by
  have hok := seven_ok 10 s hs
  unfold CS.uleb at h
  generalize hr : seven 10 s = r at h hok
  obtain ⟨q, s2⟩ := r
  simp only at hok
  refine AC.enter (E := env Try.prog 21 (fun _ => .copy) (fun _ => false)) env_ok Try.func37 rfl rfl rfl (by simp only [List.length_cons, List.length_nil]; exact of_decide_eq_true rfl) ?_
  ((try simp only [go_sem, ↓reduceIte, reduceCtorEq, Nat.reduceLT, Nat.reduceEqDiff, Nat.reduceBEq, Nat.reduceAdd, Nat.reduceMul, Nat.reduceSub, Nat.reduceLeDiff, Int.reduceNeg, Int.reduceLT, Int.reduceLE, Int.reduceEq, Int.reduceAdd, Int.reduceToNat]); repeat ((first | refine AW.seq ?_ | refine AW.region env_ok ?_ | refine AW.region envR_ok ?_ | refine AW.skip ?_ | refine AW.block ?_ | refine AW.exit ?_ | refine AW.ret ?_ | (refine AW.cond (b := true) ?_ ?_; simp only [ev, upd, ↓reduceIte, Nat.reduceEqDiff]; rw [if_pos rfl]) | (refine AW.cond (b := false) ?_ ?_; simp only [ev, upd, ↓reduceIte, Nat.reduceEqDiff]; rw [if_neg Bool.false_ne_true]) | fail) <;> try simp only [go_sem, ↓reduceIte, reduceCtorEq, Nat.reduceLT, Nat.reduceEqDiff, Nat.reduceBEq, Nat.reduceAdd, Nat.reduceMul, Nat.reduceSub, Nat.reduceLeDiff, Int.reduceNeg, Int.reduceLT, Int.reduceLE, Int.reduceEq, Int.reduceAdd, Int.reduceToNat]))
  refine seven_spec hs hp ?_ ?_
  · rw [hr]
    rintro l rfl
    simp only at h ⊢
    obtain ⟨o1, o2, o3⟩ := hok
    obtain ⟨j1, j2, j3⟩ := o3 l rfl
    have hlt := lt_of_get hp
    have hp9 : 9 < (p10 l).length := by rw [p10_len j2]; omega
    have h9 : (p10 l)[9] = if l.length = 10 then l.getD 9 0 else 0 := by
      simp only [p10]
      split
      · rw [List.getElem_append_left (by omega)]; simp [List.getD_eq_getElem?_getD, List.getElem?_eq_getElem (show 9 < l.length by omega)]
      · rw [List.getElem_append_right (by omega)]; simp
    ((try simp (disch := omega) only [go_sem, ↓reduceIte, reduceCtorEq, Nat.reduceLT, Nat.reduceEqDiff, Nat.reduceBEq, Nat.reduceAdd, Nat.reduceMul, Nat.reduceSub, Nat.reduceLeDiff, Int.reduceNeg, Int.reduceLT, Int.reduceLE, Int.reduceEq, Int.reduceAdd, Int.reduceToNat, IntWalk.i64_in, IntWalk.u64_in, IntWalk.u8_in, if_pos, if_neg, Bool.and_eq_true, decide_eq_true_eq, pA_len j2, pA_drop j2, get_last, List.length_set, set_end, get_end, pA_at hp9]); repeat ((first | refine AW.seq ?_ | refine AW.region env_ok ?_ | refine AW.region envR_ok ?_ | refine AW.skip ?_ | refine AW.block ?_ | refine AW.exit ?_ | refine AW.ret ?_ | (refine AW.cond (b := true) ?_ ?_; simp only [ev, upd, ↓reduceIte, Nat.reduceEqDiff]; rw [if_pos rfl]) | (refine AW.cond (b := false) ?_ ?_; simp only [ev, upd, ↓reduceIte, Nat.reduceEqDiff]; rw [if_neg Bool.false_ne_true]) | fail) <;> try simp (disch := omega) only [go_sem, ↓reduceIte, reduceCtorEq, Nat.reduceLT, Nat.reduceEqDiff, Nat.reduceBEq, Nat.reduceAdd, Nat.reduceMul, Nat.reduceSub, Nat.reduceLeDiff, Int.reduceNeg, Int.reduceLT, Int.reduceLE, Int.reduceEq, Int.reduceAdd, Int.reduceToNat, IntWalk.i64_in, IntWalk.u64_in, IntWalk.u8_in, if_pos, if_neg, Bool.and_eq_true, decide_eq_true_eq, pA_len j2, pA_drop j2, get_last, List.length_set, set_end, get_end, pA_at hp9]))
    (refine AW.cond rfl ?_; (try simp only [Bool.not_eq_true', decide_eq_false_iff_not, decide_eq_true_eq, Bool.false_eq_true, Bool.and_eq_true, Bool.or_eq_true, if_true, if_false]); split <;> rename_i e)
    · ((try simp only [go_sem, ↓reduceIte, reduceCtorEq, Nat.reduceLT, Nat.reduceEqDiff, Nat.reduceBEq, Nat.reduceAdd, Nat.reduceMul, Nat.reduceSub, Nat.reduceLeDiff, Int.reduceNeg, Int.reduceLT, Int.reduceLE, Int.reduceEq, Int.reduceAdd, Int.reduceToNat]); repeat ((first | refine AW.seq ?_ | refine AW.region env_ok ?_ | refine AW.region envR_ok ?_ | refine AW.skip ?_ | refine AW.block ?_ | refine AW.exit ?_ | refine AW.ret ?_ | (refine AW.cond (b := true) ?_ ?_; simp only [ev, upd, ↓reduceIte, Nat.reduceEqDiff]; rw [if_pos rfl]) | (refine AW.cond (b := false) ?_ ?_; simp only [ev, upd, ↓reduceIte, Nat.reduceEqDiff]; rw [if_neg Bool.false_ne_true]) | fail) <;> try simp only [go_sem, ↓reduceIte, reduceCtorEq, Nat.reduceLT, Nat.reduceEqDiff, Nat.reduceBEq, Nat.reduceAdd, Nat.reduceMul, Nat.reduceSub, Nat.reduceLeDiff, Int.reduceNeg, Int.reduceLT, Int.reduceLE, Int.reduceEq, Int.reduceAdd, Int.reduceToNat]))
      refine Fail_spec (get_app hlt _ _) ?_
      ((try simp only [go_sem, ↓reduceIte, reduceCtorEq, Nat.reduceLT, Nat.reduceEqDiff, Nat.reduceBEq, Nat.reduceAdd, Nat.reduceMul, Nat.reduceSub, Nat.reduceLeDiff, Int.reduceNeg, Int.reduceLT, Int.reduceLE, Int.reduceEq, Int.reduceAdd, Int.reduceToNat, set_app hlt]); repeat ((first | refine AW.seq ?_ | refine AW.region env_ok ?_ | refine AW.region envR_ok ?_ | refine AW.skip ?_ | refine AW.block ?_ | refine AW.exit ?_ | refine AW.ret ?_ | (refine AW.cond (b := true) ?_ ?_; simp only [ev, upd, ↓reduceIte, Nat.reduceEqDiff]; rw [if_pos rfl]) | (refine AW.cond (b := false) ?_ ?_; simp only [ev, upd, ↓reduceIte, Nat.reduceEqDiff]; rw [if_neg Bool.false_ne_true]) | fail) <;> try simp only [go_sem, ↓reduceIte, reduceCtorEq, Nat.reduceLT, Nat.reduceEqDiff, Nat.reduceBEq, Nat.reduceAdd, Nat.reduceMul, Nat.reduceSub, Nat.reduceLeDiff, Int.reduceNeg, Int.reduceLT, Int.reduceLE, Int.reduceEq, Int.reduceAdd, Int.reduceToNat, set_app hlt]))
      refine .inr ?_
      rw [cut_end]
      rw [if_pos (by split at h9 <;> omega)] at h
      exact h
    · ((try simp only [go_sem, ↓reduceIte, reduceCtorEq, Nat.reduceLT, Nat.reduceEqDiff, Nat.reduceBEq, Nat.reduceAdd, Nat.reduceMul, Nat.reduceSub, Nat.reduceLeDiff, Int.reduceNeg, Int.reduceLT, Int.reduceLE, Int.reduceEq, Int.reduceAdd, Int.reduceToNat, get_end, pA_len j2, pA_take j2]); repeat ((first | refine AW.seq ?_ | refine AW.region env_ok ?_ | refine AW.region envR_ok ?_ | refine AW.skip ?_ | refine AW.block ?_ | refine AW.exit ?_ | refine AW.ret ?_ | (refine AW.cond (b := true) ?_ ?_; simp only [ev, upd, ↓reduceIte, Nat.reduceEqDiff]; rw [if_pos rfl]) | (refine AW.cond (b := false) ?_ ?_; simp only [ev, upd, ↓reduceIte, Nat.reduceEqDiff]; rw [if_neg Bool.false_ne_true]) | fail) <;> try simp only [go_sem, ↓reduceIte, reduceCtorEq, Nat.reduceLT, Nat.reduceEqDiff, Nat.reduceBEq, Nat.reduceAdd, Nat.reduceMul, Nat.reduceSub, Nat.reduceLeDiff, Int.reduceNeg, Int.reduceLT, Int.reduceLE, Int.reduceEq, Int.reduceAdd, Int.reduceToNat, get_end, pA_len j2, pA_take j2]))
      refine whole_spec j2 j3 ?_
      ((try simp only [go_sem, ↓reduceIte, reduceCtorEq, Nat.reduceLT, Nat.reduceEqDiff, Nat.reduceBEq, Nat.reduceAdd, Nat.reduceMul, Nat.reduceSub, Nat.reduceLeDiff, Int.reduceNeg, Int.reduceLT, Int.reduceLE, Int.reduceEq, Int.reduceAdd, Int.reduceToNat]); repeat ((first | refine AW.seq ?_ | refine AW.region env_ok ?_ | refine AW.region envR_ok ?_ | refine AW.skip ?_ | refine AW.block ?_ | refine AW.exit ?_ | refine AW.ret ?_ | (refine AW.cond (b := true) ?_ ?_; simp only [ev, upd, ↓reduceIte, Nat.reduceEqDiff]; rw [if_pos rfl]) | (refine AW.cond (b := false) ?_ ?_; simp only [ev, upd, ↓reduceIte, Nat.reduceEqDiff]; rw [if_neg Bool.false_ne_true]) | fail) <;> try simp only [go_sem, ↓reduceIte, reduceCtorEq, Nat.reduceLT, Nat.reduceEqDiff, Nat.reduceBEq, Nat.reduceAdd, Nat.reduceMul, Nat.reduceSub, Nat.reduceLeDiff, Int.reduceNeg, Int.reduceLT, Int.reduceLE, Int.reduceEq, Int.reduceAdd, Int.reduceToNat]))
      refine .inr ?_
      rw [cut_end]
      rw [if_neg (by split at h9 <;> omega)] at h
      have : val7 l < 18446744073709551616 := by
        rcases Nat.lt_or_ge l.length 10 with c | c
        · have hv := val7_lt l j3
          have : 128 ^ l.length ≤ 128 ^ 9 := Nat.pow_le_pow_right (by omega) (by omega)
          omega
        · rw [if_pos (by omega)] at h9
          have hv := val7_lt (l.take 9) fun x hx => j3 x (List.mem_of_mem_take hx)
          have hd : l.getD 9 0 = l[9]'(by omega) := by simp [List.getD_eq_getElem?_getD, List.getElem?_eq_getElem (show 9 < l.length by omega)]
          have hs := List.take_succ_eq_append_getElem (show 9 < l.length by omega)
          rw [List.take_of_length_le (by omega)] at hs
          have hl9 : (l.take 9).length = 9 := by simp; omega
          rw [hs, val7_snoc]
          rw [hl9] at hv ⊢
          rw [h9, hd] at e
          omega
      rw [Nat.mod_eq_of_lt this]
      exact h
  · rw [hr]
    rintro l j2 rfl
    simp only at h ⊢
    ((try simp (disch := omega) only [go_sem, ↓reduceIte, reduceCtorEq, Nat.reduceLT, Nat.reduceEqDiff, Nat.reduceBEq, Nat.reduceAdd, Nat.reduceMul, Nat.reduceSub, Nat.reduceLeDiff, Int.reduceNeg, Int.reduceLT, Int.reduceLE, Int.reduceEq, Int.reduceAdd, Int.reduceToNat, IntWalk.i64_in, IntWalk.u64_in, IntWalk.u8_in, if_pos, if_neg, Bool.and_eq_true, decide_eq_true_eq, pA_len j2, pA_drop j2, get_last, List.length_set, set_end, get_end]); repeat ((first | refine AW.seq ?_ | refine AW.region env_ok ?_ | refine AW.region envR_ok ?_ | refine AW.skip ?_ | refine AW.block ?_ | refine AW.exit ?_ | refine AW.ret ?_ | (refine AW.cond (b := true) ?_ ?_; simp only [ev, upd, ↓reduceIte, Nat.reduceEqDiff]; rw [if_pos rfl]) | (refine AW.cond (b := false) ?_ ?_; simp only [ev, upd, ↓reduceIte, Nat.reduceEqDiff]; rw [if_neg Bool.false_ne_true]) | fail) <;> try simp (disch := omega) only [go_sem, ↓reduceIte, reduceCtorEq, Nat.reduceLT, Nat.reduceEqDiff, Nat.reduceBEq, Nat.reduceAdd, Nat.reduceMul, Nat.reduceSub, Nat.reduceLeDiff, Int.reduceNeg, Int.reduceLT, Int.reduceLE, Int.reduceEq, Int.reduceAdd, Int.reduceToNat, IntWalk.i64_in, IntWalk.u64_in, IntWalk.u8_in, if_pos, if_neg, Bool.and_eq_true, decide_eq_true_eq, pA_len j2, pA_drop j2, get_last, List.length_set, set_end, get_end]))
    refine .inr ?_
    rw [cut_end]
    exact h
end
end Go.Ab
end

section
/- Package leb: numbers with a sign that are read. -/
namespace Go.Ab
open V Go.Proofs
set_option maxHeartbeats 4000000
set_option maxRecDepth 10000
set_option linter.unusedSimpArgs false
set_option linter.unusedVariables false

/-- The number of the parts, with its sign. -/
def sval (l : List Nat) : Int := if l.getD (l.length - 1) 0 < 64 then (val7 l : Int) else val7 l - 128 ^ l.length

/-- A number with a sign. -/
def CS.sleb (s : CS) : Int × CS :=
  match seven 10 s with
  | (some l, s2) => if l.length = 10 ∧ l.getD 9 0 ≠ 0 ∧ l.getD 9 0 ≠ 127 then (0, s2.fail 11) else (sval l, s2)
  | (none, s2) => (0, s2)

theorem split_last {l : List Nat} (h : 1 ≤ l.length) : l = l.take (l.length - 1) ++ [l.getD (l.length - 1) 0] := by
  have hs := List.take_succ_eq_append_getElem (show l.length - 1 < l.length by omega)
  rw [show l.length - 1 + 1 = l.length by omega, List.take_length] at hs
  rw [List.getD_eq_getElem?_getD, List.getElem?_eq_getElem (show l.length - 1 < l.length by omega)]
  exact hs
theorem val7_last {l : List Nat} (h : 1 ≤ l.length) : val7 l = val7 (l.take (l.length - 1)) + l.getD (l.length - 1) 0 * 2 ^ (7 * (l.length - 1)) := by
  have h1 := split_last h
  have := val7_snoc (l.take (l.length - 1)) (l.getD (l.length - 1) 0)
  rw [← h1] at this
  rw [this, List.length_take, Nat.min_eq_left (by omega)]
theorem p10_at {l : List Nat} {i : Nat} (h : i < l.length) (h' : i < (p10 l).length) : (p10 l)[i] = l.getD i 0 := by
  simp only [p10]
  rw [List.getElem_append_left h]; simp [List.getD_eq_getElem?_getD, List.getElem?_eq_getElem h]

/-- A number of fewer than ten parts below 0: its upper bits are set. -/
theorem or_ones {a i : Nat} (h : a < 2 ^ i) (hi : i ≤ 64) : a ||| (18446744073709551615 * 2 ^ i) % 18446744073709551616 = a + (18446744073709551616 - 2 ^ i) := by
  have e : (18446744073709551615 * 2 ^ i) % 18446744073709551616 = (2 ^ (64 - i) - 1) * 2 ^ i := by
    have hp : 2 ^ (64 - i) * 2 ^ i = 18446744073709551616 := by rw [← Nat.pow_add, show 64 - i + i = 64 by omega]
    have h1 : 1 ≤ 2 ^ (64 - i) := Nat.one_le_two_pow
    have h2 : 1 ≤ 2 ^ i := Nat.one_le_two_pow
    have h3 : (2 ^ (64 - i) - 1) * 2 ^ i = 18446744073709551616 - 2 ^ i := by rw [Nat.sub_mul, hp]; omega
    have h4 : 18446744073709551615 * 2 ^ i = 18446744073709551616 * (2 ^ i - 1) + (18446744073709551616 - 2 ^ i) := by
      have : 2 ^ i ≤ 18446744073709551616 := by rw [← hp]; exact Nat.le_mul_of_pos_left _ (by omega)
      omega
    rw [h3, h4, Nat.mul_add_mod]
    exact Nat.mod_eq_of_lt (by omega)
  have hp : 2 ^ (64 - i) * 2 ^ i = 18446744073709551616 := by rw [← Nat.pow_add, show 64 - i + i = 64 by omega]
  rw [e, or_high h, Nat.sub_mul, hp]; omega

section
variable {p : Nat} {s : CS} {H : Heap} {Q : A → Heap → Prop}

theorem S_spec (hs : s.Ok) (hp : H[p]? = some (.cells s.cur)) (h : Q (.int .i64 s.sleb.1) (H.set p (.cells s.sleb.2.cur))) : AC Try.prog 38 [.ptr (some (p, 0))] H Q := by
  have hok := seven_ok 10 s hs
  unfold CS.sleb at h
  generalize hr : seven 10 s = r at h hok
  obtain ⟨q, s2⟩ := r
  simp only at hok
  refine AC.enter (E := env Try.prog 48 (fun _ => .copy) (fun _ => false)) env_ok Try.func38 rfl rfl rfl (by simp only [List.length_cons, List.length_nil]; exact of_decide_eq_true rfl) ?_
  ((try simp only [go_sem, ↓reduceIte, reduceCtorEq, Nat.reduceLT, Nat.reduceEqDiff, Nat.reduceBEq, Nat.reduceAdd, Nat.reduceMul, Nat.reduceSub, Nat.reduceLeDiff, Int.reduceNeg, Int.reduceLT, Int.reduceLE, Int.reduceEq, Int.reduceAdd, Int.reduceToNat]); repeat ((first | refine AW.seq ?_ | refine AW.region env_ok ?_ | refine AW.region envR_ok ?_ | refine AW.skip ?_ | refine AW.block ?_ | refine AW.exit ?_ | refine AW.ret ?_ | (refine AW.cond (b := true) ?_ ?_; simp only [ev, upd, ↓reduceIte, Nat.reduceEqDiff]; rw [if_pos rfl]) | (refine AW.cond (b := false) ?_ ?_; simp only [ev, upd, ↓reduceIte, Nat.reduceEqDiff]; rw [if_neg Bool.false_ne_true]) | fail) <;> try simp only [go_sem, ↓reduceIte, reduceCtorEq, Nat.reduceLT, Nat.reduceEqDiff, Nat.reduceBEq, Nat.reduceAdd, Nat.reduceMul, Nat.reduceSub, Nat.reduceLeDiff, Int.reduceNeg, Int.reduceLT, Int.reduceLE, Int.reduceEq, Int.reduceAdd, Int.reduceToNat]))
  refine seven_spec hs hp ?_ ?_
  · rw [hr]
    rintro l rfl
    simp only at h ⊢
    obtain ⟨o1, o2, o3⟩ := hok
    obtain ⟨j1, j2, j3⟩ := o3 l rfl
    have hlt := lt_of_get hp
    have hlen := p10_len j2
    have hp9 : 9 < (p10 l).length := by omega
    ((try simp (disch := omega) only [go_sem, ↓reduceIte, reduceCtorEq, Nat.reduceLT, Nat.reduceEqDiff, Nat.reduceBEq, Nat.reduceAdd, Nat.reduceMul, Nat.reduceSub, Nat.reduceLeDiff, Int.reduceNeg, Int.reduceLT, Int.reduceLE, Int.reduceEq, Int.reduceAdd, Int.reduceToNat, IntWalk.i64_in, IntWalk.u64_in, IntWalk.u8_in, if_pos, if_neg, Bool.and_eq_true, decide_eq_true_eq, pA_len j2, pA_drop j2, get_last, List.length_set, set_end]); repeat ((first | refine AW.seq ?_ | refine AW.region env_ok ?_ | refine AW.region envR_ok ?_ | refine AW.skip ?_ | refine AW.block ?_ | refine AW.exit ?_ | refine AW.ret ?_ | (refine AW.cond (b := true) ?_ ?_; simp only [ev, upd, ↓reduceIte, Nat.reduceEqDiff]; rw [if_pos rfl]) | (refine AW.cond (b := false) ?_ ?_; simp only [ev, upd, ↓reduceIte, Nat.reduceEqDiff]; rw [if_neg Bool.false_ne_true]) | fail) <;> try simp (disch := omega) only [go_sem, ↓reduceIte, reduceCtorEq, Nat.reduceLT, Nat.reduceEqDiff, Nat.reduceBEq, Nat.reduceAdd, Nat.reduceMul, Nat.reduceSub, Nat.reduceLeDiff, Int.reduceNeg, Int.reduceLT, Int.reduceLE, Int.reduceEq, Int.reduceAdd, Int.reduceToNat, IntWalk.i64_in, IntWalk.u64_in, IntWalk.u8_in, if_pos, if_neg, Bool.and_eq_true, decide_eq_true_eq, pA_len j2, pA_drop j2, get_last, List.length_set, set_end]))
    by_cases c : l.length = 10 ∧ l.getD 9 0 ≠ 0 ∧ l.getD 9 0 ≠ 127
    · obtain ⟨c1, c2, c3⟩ := c
      have h9 := p10_at (l := l) (i := 9) (by omega) hp9
      rw [if_pos ⟨c1, c2, c3⟩] at h
      have c1' : ((l.length : Nat) : Int) = 10 := by omega
      have c2' : ¬ ((l.getD 9 0 : Nat) : Int) = 0 := by omega
      have c3' : ¬ ((l.getD 9 0 : Nat) : Int) = 127 := by omega
      ((try simp only [go_sem, ↓reduceIte, reduceCtorEq, Nat.reduceLT, Nat.reduceEqDiff, Nat.reduceBEq, Nat.reduceAdd, Nat.reduceMul, Nat.reduceSub, Nat.reduceLeDiff, Int.reduceNeg, Int.reduceLT, Int.reduceLE, Int.reduceEq, Int.reduceAdd, Int.reduceToNat, c1', get_end, pA_at hp9, h9, c2', c3']); repeat ((first | refine AW.seq ?_ | refine AW.region env_ok ?_ | refine AW.region envR_ok ?_ | refine AW.skip ?_ | refine AW.block ?_ | refine AW.exit ?_ | refine AW.ret ?_ | (refine AW.cond (b := true) ?_ ?_; simp only [ev, upd, ↓reduceIte, Nat.reduceEqDiff]; rw [if_pos rfl]) | (refine AW.cond (b := false) ?_ ?_; simp only [ev, upd, ↓reduceIte, Nat.reduceEqDiff]; rw [if_neg Bool.false_ne_true]) | fail) <;> try simp only [go_sem, ↓reduceIte, reduceCtorEq, Nat.reduceLT, Nat.reduceEqDiff, Nat.reduceBEq, Nat.reduceAdd, Nat.reduceMul, Nat.reduceSub, Nat.reduceLeDiff, Int.reduceNeg, Int.reduceLT, Int.reduceLE, Int.reduceEq, Int.reduceAdd, Int.reduceToNat, c1', get_end, pA_at hp9, h9, c2', c3']))
      refine Fail_spec (get_app hlt _ _) ?_
      ((try simp only [go_sem, ↓reduceIte, reduceCtorEq, Nat.reduceLT, Nat.reduceEqDiff, Nat.reduceBEq, Nat.reduceAdd, Nat.reduceMul, Nat.reduceSub, Nat.reduceLeDiff, Int.reduceNeg, Int.reduceLT, Int.reduceLE, Int.reduceEq, Int.reduceAdd, Int.reduceToNat, set_app hlt]); repeat ((first | refine AW.seq ?_ | refine AW.region env_ok ?_ | refine AW.region envR_ok ?_ | refine AW.skip ?_ | refine AW.block ?_ | refine AW.exit ?_ | refine AW.ret ?_ | (refine AW.cond (b := true) ?_ ?_; simp only [ev, upd, ↓reduceIte, Nat.reduceEqDiff]; rw [if_pos rfl]) | (refine AW.cond (b := false) ?_ ?_; simp only [ev, upd, ↓reduceIte, Nat.reduceEqDiff]; rw [if_neg Bool.false_ne_true]) | fail) <;> try simp only [go_sem, ↓reduceIte, reduceCtorEq, Nat.reduceLT, Nat.reduceEqDiff, Nat.reduceBEq, Nat.reduceAdd, Nat.reduceMul, Nat.reduceSub, Nat.reduceLeDiff, Int.reduceNeg, Int.reduceLT, Int.reduceLE, Int.reduceEq, Int.reduceAdd, Int.reduceToNat, set_app hlt]))
      refine .inr ?_
      rw [cut_end]
      exact h
    · rw [if_neg c] at h
      simp only at h
      rcases Nat.lt_or_ge l.length 10 with c1 | c1
      · have c1' : ¬ ((l.length : Nat) : Int) = 10 := by omega
        have c2' : ((l.length : Nat) : Int) < 10 := by omega
        have hn : l.length - 1 < (p10 l).length := by omega
        have hlast := p10_at (l := l) (i := l.length - 1) (by omega) hn
        have hv := val7_lt l j3
        have hpw : 128 ^ l.length ≤ 128 ^ 9 := Nat.pow_le_pow_right (by omega) (by omega)
        ((try simp only [go_sem, ↓reduceIte, reduceCtorEq, Nat.reduceLT, Nat.reduceEqDiff, Nat.reduceBEq, Nat.reduceAdd, Nat.reduceMul, Nat.reduceSub, Nat.reduceLeDiff, Int.reduceNeg, Int.reduceLT, Int.reduceLE, Int.reduceEq, Int.reduceAdd, Int.reduceToNat, c1', get_end, pA_len j2, pA_take j2]); repeat ((first | refine AW.seq ?_ | refine AW.region env_ok ?_ | refine AW.region envR_ok ?_ | refine AW.skip ?_ | refine AW.block ?_ | refine AW.exit ?_ | refine AW.ret ?_ | (refine AW.cond (b := true) ?_ ?_; simp only [ev, upd, ↓reduceIte, Nat.reduceEqDiff]; rw [if_pos rfl]) | (refine AW.cond (b := false) ?_ ?_; simp only [ev, upd, ↓reduceIte, Nat.reduceEqDiff]; rw [if_neg Bool.false_ne_true]) | fail) <;> try simp only [go_sem, ↓reduceIte, reduceCtorEq, Nat.reduceLT, Nat.reduceEqDiff, Nat.reduceBEq, Nat.reduceAdd, Nat.reduceMul, Nat.reduceSub, Nat.reduceLeDiff, Int.reduceNeg, Int.reduceLT, Int.reduceLE, Int.reduceEq, Int.reduceAdd, Int.reduceToNat, c1', get_end, pA_len j2, pA_take j2]))
        refine whole_spec j2 j3 ?_
        rw [Nat.mod_eq_of_lt (by omega)]
        ((try simp (disch := omega) only [go_sem, ↓reduceIte, reduceCtorEq, Nat.reduceLT, Nat.reduceEqDiff, Nat.reduceBEq, Nat.reduceAdd, Nat.reduceMul, Nat.reduceSub, Nat.reduceLeDiff, Int.reduceNeg, Int.reduceLT, Int.reduceLE, Int.reduceEq, Int.reduceAdd, Int.reduceToNat, IntWalk.i64_in, IntWalk.u64_in, IntWalk.u8_in, if_pos, if_neg, Bool.and_eq_true, decide_eq_true_eq, c2', get_end, show (l.length : Int) - 1 = ((l.length - 1 : Nat) : Int) by omega, pA_at hn, hlast, pA_len j2]); repeat ((first | refine AW.seq ?_ | refine AW.region env_ok ?_ | refine AW.region envR_ok ?_ | refine AW.skip ?_ | refine AW.block ?_ | refine AW.exit ?_ | refine AW.ret ?_ | (refine AW.cond (b := true) ?_ ?_; simp only [ev, upd, ↓reduceIte, Nat.reduceEqDiff]; rw [if_pos rfl]) | (refine AW.cond (b := false) ?_ ?_; simp only [ev, upd, ↓reduceIte, Nat.reduceEqDiff]; rw [if_neg Bool.false_ne_true]) | fail) <;> try simp (disch := omega) only [go_sem, ↓reduceIte, reduceCtorEq, Nat.reduceLT, Nat.reduceEqDiff, Nat.reduceBEq, Nat.reduceAdd, Nat.reduceMul, Nat.reduceSub, Nat.reduceLeDiff, Int.reduceNeg, Int.reduceLT, Int.reduceLE, Int.reduceEq, Int.reduceAdd, Int.reduceToNat, IntWalk.i64_in, IntWalk.u64_in, IntWalk.u8_in, if_pos, if_neg, Bool.and_eq_true, decide_eq_true_eq, c2', get_end, show (l.length : Int) - 1 = ((l.length - 1 : Nat) : Int) by omega, pA_at hn, hlast, pA_len j2]))
        (refine AW.cond rfl ?_; (try simp only [Bool.not_eq_true', decide_eq_false_iff_not, decide_eq_true_eq, Bool.false_eq_true, Bool.and_eq_true, Bool.or_eq_true, if_true, if_false]); split <;> rename_i e)
        · have hp7 : 128 ^ l.length = 2 ^ (7 * l.length) := by rw [show (128 : Nat) = 2 ^ 7 from rfl, ← Nat.pow_mul]
          have hle : 2 ^ (7 * l.length) ≤ 9223372036854775808 := by rw [← hp7]; exact hpw
          have e44 : IntKind.u64.wrap (18446744073709551615 * 2 ^ min (7 * (l.length : Int)).toNat 64) = ((18446744073709551615 * 2 ^ (7 * l.length) % 18446744073709551616 : Nat) : Int) := by
            rw [show (7 * (l.length : Int)).toNat = 7 * l.length by omega, Nat.min_eq_left (by omega), show (18446744073709551615 : Int) * 2 ^ (7 * l.length) = ((18446744073709551615 * 2 ^ (7 * l.length) : Nat) : Int) by simp, IntKind.wrap_u64]
            omega
          have e45 : bitsI .or .u64 (val7 l : Nat) (18446744073709551615 * 2 ^ (7 * l.length) % 18446744073709551616 : Nat) = (val7 l + (18446744073709551616 - 2 ^ (7 * l.length)) : Nat) := by
            rw [bits_or (by omega) (by omega), or_ones (by rw [← hp7]; exact hv) (by omega)]
          ((try simp (disch := omega) only [go_sem, ↓reduceIte, reduceCtorEq, Nat.reduceLT, Nat.reduceEqDiff, Nat.reduceBEq, Nat.reduceAdd, Nat.reduceMul, Nat.reduceSub, Nat.reduceLeDiff, Int.reduceNeg, Int.reduceLT, Int.reduceLE, Int.reduceEq, Int.reduceAdd, Int.reduceToNat, IntWalk.i64_in, IntWalk.u64_in, IntWalk.u8_in, if_pos, if_neg, Bool.and_eq_true, decide_eq_true_eq, e44, e45]); repeat ((first | refine AW.seq ?_ | refine AW.region env_ok ?_ | refine AW.region envR_ok ?_ | refine AW.skip ?_ | refine AW.block ?_ | refine AW.exit ?_ | refine AW.ret ?_ | (refine AW.cond (b := true) ?_ ?_; simp only [ev, upd, ↓reduceIte, Nat.reduceEqDiff]; rw [if_pos rfl]) | (refine AW.cond (b := false) ?_ ?_; simp only [ev, upd, ↓reduceIte, Nat.reduceEqDiff]; rw [if_neg Bool.false_ne_true]) | fail) <;> try simp (disch := omega) only [go_sem, ↓reduceIte, reduceCtorEq, Nat.reduceLT, Nat.reduceEqDiff, Nat.reduceBEq, Nat.reduceAdd, Nat.reduceMul, Nat.reduceSub, Nat.reduceLeDiff, Int.reduceNeg, Int.reduceLT, Int.reduceLE, Int.reduceEq, Int.reduceAdd, Int.reduceToNat, IntWalk.i64_in, IntWalk.u64_in, IntWalk.u8_in, if_pos, if_neg, Bool.and_eq_true, decide_eq_true_eq, e44, e45]))
          rw [sval, if_neg (by omega), show (128 : Int) ^ l.length = ((128 ^ l.length : Nat) : Int) by simp, hp7] at h
          rw [IntKind.wrap_i64]
          refine .inr ?_
          rw [cut_end]
          have hvl := val7_last j1
          have hge : 2 ^ (7 * l.length) ≤ 2 * val7 l := by
            rw [show 7 * l.length = 7 * (l.length - 1) + 7 by omega, Nat.pow_add]
            have : 64 * 2 ^ (7 * (l.length - 1)) ≤ l.getD (l.length - 1) 0 * 2 ^ (7 * (l.length - 1)) := Nat.mul_le_mul_right _ (by omega)
            omega
          rw [show (((val7 l + (18446744073709551616 - 2 ^ (7 * l.length)) : Nat) : Int) + 9223372036854775808) % 18446744073709551616 - 9223372036854775808 = (val7 l : Int) - ((2 ^ (7 * l.length) : Nat) : Int) by rw [hp7] at hv; omega]
          exact h
        · ((try simp only [go_sem, ↓reduceIte, reduceCtorEq, Nat.reduceLT, Nat.reduceEqDiff, Nat.reduceBEq, Nat.reduceAdd, Nat.reduceMul, Nat.reduceSub, Nat.reduceLeDiff, Int.reduceNeg, Int.reduceLT, Int.reduceLE, Int.reduceEq, Int.reduceAdd, Int.reduceToNat]); repeat ((first | refine AW.seq ?_ | refine AW.region env_ok ?_ | refine AW.region envR_ok ?_ | refine AW.skip ?_ | refine AW.block ?_ | refine AW.exit ?_ | refine AW.ret ?_ | (refine AW.cond (b := true) ?_ ?_; simp only [ev, upd, ↓reduceIte, Nat.reduceEqDiff]; rw [if_pos rfl]) | (refine AW.cond (b := false) ?_ ?_; simp only [ev, upd, ↓reduceIte, Nat.reduceEqDiff]; rw [if_neg Bool.false_ne_true]) | fail) <;> try simp only [go_sem, ↓reduceIte, reduceCtorEq, Nat.reduceLT, Nat.reduceEqDiff, Nat.reduceBEq, Nat.reduceAdd, Nat.reduceMul, Nat.reduceSub, Nat.reduceLeDiff, Int.reduceNeg, Int.reduceLT, Int.reduceLE, Int.reduceEq, Int.reduceAdd, Int.reduceToNat]))
          rw [sval, if_pos (by omega)] at h
          rw [IntWalk.i64_in _ (by omega)]
          refine .inr ?_
          rw [cut_end]
          exact h
      · have c1' : ((l.length : Nat) : Int) = 10 := by omega
        have hl10 : l.length = 10 := by omega
        have h9 := p10_at (l := l) (i := 9) (by omega) hp9
        have hv := val7_last (l := l) (by omega)
        rw [hl10, show (10 : Nat) - 1 = 9 from rfl] at hv
        have hv9 := val7_lt (l.take 9) fun x hx => j3 x (List.mem_of_mem_take hx)
        rw [show (l.take 9).length = 9 by simp; omega] at hv9
        rcases (show l.getD 9 0 = 0 ∨ l.getD 9 0 = 127 by omega) with c2 | c2
        · have c2' : ((l.getD 9 0 : Nat) : Int) = 0 := by omega
          rw [c2] at hv
          ((try simp only [go_sem, ↓reduceIte, reduceCtorEq, Nat.reduceLT, Nat.reduceEqDiff, Nat.reduceBEq, Nat.reduceAdd, Nat.reduceMul, Nat.reduceSub, Nat.reduceLeDiff, Int.reduceNeg, Int.reduceLT, Int.reduceLE, Int.reduceEq, Int.reduceAdd, Int.reduceToNat, c1', get_end, pA_len j2, pA_take j2, pA_at hp9, h9, c2']); repeat ((first | refine AW.seq ?_ | refine AW.region env_ok ?_ | refine AW.region envR_ok ?_ | refine AW.skip ?_ | refine AW.block ?_ | refine AW.exit ?_ | refine AW.ret ?_ | (refine AW.cond (b := true) ?_ ?_; simp only [ev, upd, ↓reduceIte, Nat.reduceEqDiff]; rw [if_pos rfl]) | (refine AW.cond (b := false) ?_ ?_; simp only [ev, upd, ↓reduceIte, Nat.reduceEqDiff]; rw [if_neg Bool.false_ne_true]) | fail) <;> try simp only [go_sem, ↓reduceIte, reduceCtorEq, Nat.reduceLT, Nat.reduceEqDiff, Nat.reduceBEq, Nat.reduceAdd, Nat.reduceMul, Nat.reduceSub, Nat.reduceLeDiff, Int.reduceNeg, Int.reduceLT, Int.reduceLE, Int.reduceEq, Int.reduceAdd, Int.reduceToNat, c1', get_end, pA_len j2, pA_take j2, pA_at hp9, h9, c2']))
          refine whole_spec j2 j3 ?_
          rw [Nat.mod_eq_of_lt (by omega)]
          ((try simp only [go_sem, ↓reduceIte, reduceCtorEq, Nat.reduceLT, Nat.reduceEqDiff, Nat.reduceBEq, Nat.reduceAdd, Nat.reduceMul, Nat.reduceSub, Nat.reduceLeDiff, Int.reduceNeg, Int.reduceLT, Int.reduceLE, Int.reduceEq, Int.reduceAdd, Int.reduceToNat, c1']); repeat ((first | refine AW.seq ?_ | refine AW.region env_ok ?_ | refine AW.region envR_ok ?_ | refine AW.skip ?_ | refine AW.block ?_ | refine AW.exit ?_ | refine AW.ret ?_ | (refine AW.cond (b := true) ?_ ?_; simp only [ev, upd, ↓reduceIte, Nat.reduceEqDiff]; rw [if_pos rfl]) | (refine AW.cond (b := false) ?_ ?_; simp only [ev, upd, ↓reduceIte, Nat.reduceEqDiff]; rw [if_neg Bool.false_ne_true]) | fail) <;> try simp only [go_sem, ↓reduceIte, reduceCtorEq, Nat.reduceLT, Nat.reduceEqDiff, Nat.reduceBEq, Nat.reduceAdd, Nat.reduceMul, Nat.reduceSub, Nat.reduceLeDiff, Int.reduceNeg, Int.reduceLT, Int.reduceLE, Int.reduceEq, Int.reduceAdd, Int.reduceToNat, c1']))
          rw [IntWalk.i64_in _ (by omega)]
          refine .inr ?_
          rw [cut_end]
          rw [sval, hl10, show (10 : Nat) - 1 = 9 from rfl, if_pos (by omega)] at h
          exact h
        · have c2' : ((l.getD 9 0 : Nat) : Int) = 127 := by omega
          rw [c2] at hv
          ((try simp only [go_sem, ↓reduceIte, reduceCtorEq, Nat.reduceLT, Nat.reduceEqDiff, Nat.reduceBEq, Nat.reduceAdd, Nat.reduceMul, Nat.reduceSub, Nat.reduceLeDiff, Int.reduceNeg, Int.reduceLT, Int.reduceLE, Int.reduceEq, Int.reduceAdd, Int.reduceToNat, c1', get_end, pA_len j2, pA_take j2, pA_at hp9, h9, c2']); repeat ((first | refine AW.seq ?_ | refine AW.region env_ok ?_ | refine AW.region envR_ok ?_ | refine AW.skip ?_ | refine AW.block ?_ | refine AW.exit ?_ | refine AW.ret ?_ | (refine AW.cond (b := true) ?_ ?_; simp only [ev, upd, ↓reduceIte, Nat.reduceEqDiff]; rw [if_pos rfl]) | (refine AW.cond (b := false) ?_ ?_; simp only [ev, upd, ↓reduceIte, Nat.reduceEqDiff]; rw [if_neg Bool.false_ne_true]) | fail) <;> try simp only [go_sem, ↓reduceIte, reduceCtorEq, Nat.reduceLT, Nat.reduceEqDiff, Nat.reduceBEq, Nat.reduceAdd, Nat.reduceMul, Nat.reduceSub, Nat.reduceLeDiff, Int.reduceNeg, Int.reduceLT, Int.reduceLE, Int.reduceEq, Int.reduceAdd, Int.reduceToNat, c1', get_end, pA_len j2, pA_take j2, pA_at hp9, h9, c2']))
          refine whole_spec j2 j3 ?_
          ((try simp only [go_sem, ↓reduceIte, reduceCtorEq, Nat.reduceLT, Nat.reduceEqDiff, Nat.reduceBEq, Nat.reduceAdd, Nat.reduceMul, Nat.reduceSub, Nat.reduceLeDiff, Int.reduceNeg, Int.reduceLT, Int.reduceLE, Int.reduceEq, Int.reduceAdd, Int.reduceToNat, c1']); repeat ((first | refine AW.seq ?_ | refine AW.region env_ok ?_ | refine AW.region envR_ok ?_ | refine AW.skip ?_ | refine AW.block ?_ | refine AW.exit ?_ | refine AW.ret ?_ | (refine AW.cond (b := true) ?_ ?_; simp only [ev, upd, ↓reduceIte, Nat.reduceEqDiff]; rw [if_pos rfl]) | (refine AW.cond (b := false) ?_ ?_; simp only [ev, upd, ↓reduceIte, Nat.reduceEqDiff]; rw [if_neg Bool.false_ne_true]) | fail) <;> try simp only [go_sem, ↓reduceIte, reduceCtorEq, Nat.reduceLT, Nat.reduceEqDiff, Nat.reduceBEq, Nat.reduceAdd, Nat.reduceMul, Nat.reduceSub, Nat.reduceLeDiff, Int.reduceNeg, Int.reduceLT, Int.reduceLE, Int.reduceEq, Int.reduceAdd, Int.reduceToNat, c1']))
          rw [sval, hl10, show (10 : Nat) - 1 = 9 from rfl, if_neg (by omega)] at h
          rw [IntKind.wrap_i64]
          refine .inr ?_
          rw [cut_end]
          rw [show (((val7 l % 18446744073709551616 : Nat) : Int) + 9223372036854775808) % 18446744073709551616 - 9223372036854775808 = (val7 l : Int) - 128 ^ 10 by omega]
          exact h
  · rw [hr]
    rintro l j2 rfl
    simp only at h ⊢
    ((try simp (disch := omega) only [go_sem, ↓reduceIte, reduceCtorEq, Nat.reduceLT, Nat.reduceEqDiff, Nat.reduceBEq, Nat.reduceAdd, Nat.reduceMul, Nat.reduceSub, Nat.reduceLeDiff, Int.reduceNeg, Int.reduceLT, Int.reduceLE, Int.reduceEq, Int.reduceAdd, Int.reduceToNat, IntWalk.i64_in, IntWalk.u64_in, IntWalk.u8_in, if_pos, if_neg, Bool.and_eq_true, decide_eq_true_eq, pA_len j2, pA_drop j2, get_last, List.length_set, set_end, get_end]); repeat ((first | refine AW.seq ?_ | refine AW.region env_ok ?_ | refine AW.region envR_ok ?_ | refine AW.skip ?_ | refine AW.block ?_ | refine AW.exit ?_ | refine AW.ret ?_ | (refine AW.cond (b := true) ?_ ?_; simp only [ev, upd, ↓reduceIte, Nat.reduceEqDiff]; rw [if_pos rfl]) | (refine AW.cond (b := false) ?_ ?_; simp only [ev, upd, ↓reduceIte, Nat.reduceEqDiff]; rw [if_neg Bool.false_ne_true]) | fail) <;> try simp (disch := omega) only [go_sem, ↓reduceIte, reduceCtorEq, Nat.reduceLT, Nat.reduceEqDiff, Nat.reduceBEq, Nat.reduceAdd, Nat.reduceMul, Nat.reduceSub, Nat.reduceLeDiff, Int.reduceNeg, Int.reduceLT, Int.reduceLE, Int.reduceEq, Int.reduceAdd, Int.reduceToNat, IntWalk.i64_in, IntWalk.u64_in, IntWalk.u8_in, if_pos, if_neg, Bool.and_eq_true, decide_eq_true_eq, pA_len j2, pA_drop j2, get_last, List.length_set, set_end, get_end]))
    refine .inr ?_
    rw [cut_end]
    exact h
end
end Go.Ab
end

section
/- Package sindriref02: numbers that are read. -/
namespace Go.Ab
open V Go.Proofs
set_option maxHeartbeats 4000000
set_option maxRecDepth 10000
set_option linter.unusedSimpArgs false
set_option linter.unusedVariables false

def uA (l : List Nat) : List A := l.map fun (x : Nat) => V.int .u64 x
theorem uA_nil : uA [] = [] := rfl
theorem uA_snoc (l : List Nat) (x : Nat) : uA l ++ [V.int .u64 (x : Int)] = uA (l ++ [x]) := by simp [uA]
theorem uA_len (l : List Nat) : (uA l).length = l.length := by simp [uA]
theorem uA_flagless (l : List Nat) : flaglessL (uA l) = true := by
  rw [flaglessL_all]; simp only [uA, List.all_eq_true, List.mem_map]; rintro _ ⟨x, _, rfl⟩; rfl
theorem uA_low (n : Nat) (l : List Nat) : lowL n (uA l) = true := by
  rw [lowL_all]; simp only [uA, List.all_eq_true, List.mem_map]; rintro _ ⟨x, _, rfl⟩; rfl
theorem uA_uni (l : List Nat) : Uni 1 (uA l) = true := by
  simp only [Uni, uA, List.all_map, List.all_eq_true]; intro x _; rfl
theorem uA_strip (l : List Nat) : stripL (uA l) = uA l := by
  induction l with
  | nil => rfl
  | cons x l ih => show V.strip (V.int .u64 (x : Int)) :: stripL (uA l) = _; rw [ih]; rfl
theorem uA_share (l : List Nat) : shareL (uA l) = uA l := by
  induction l with
  | nil => rfl
  | cons x l ih => show V.share (V.int .u64 (x : Int)) :: shareL (uA l) = _; rw [ih]; rfl
theorem uA_at (l : List Nat) (i : Nat) (d : A) (h : i < l.length) : (uA l).getD i d = V.int .u64 (l.getD i 0 : Nat) := by
  simp [uA, h]
theorem Uni_one (x : A) (h : x.cells.length = 1) : Uni 1 [x] = true := by simp [Uni, h]
theorem Uni_u64 (x : Int) : Uni 1 [V.int (δ := Unit) .u64 x] = true := rfl
attribute [go_sem] uA_nil uA_len uA_flagless uA_low uA_uni uA_strip uA_share Uni_u64

theorem tmod128 (a : Nat) : Int.tmod (a : Int) 128 = ((a % 128 : Nat) : Int) := rfl
attribute [go_sem] tmod128

section
variable {p : Nat} {s : CS} {H : Heap} {Q : A → Heap → Prop}

theorem parts_spec (hs : s.Ok) (hp : H[p]? = some (.cells s.ref))
    (h : Q (.sl (uA ((seven 10 s).1.getD [])) none ()) (H.set p (.cells (seven 10 s).2.ref))) : AC Try.prog 65 [.ptr (some (p, 0))] H Q := by
  have hlt := lt_of_get hp
  refine AC.enter (E := env Try.prog 27 (fun t => if t == 17 then .take else .copy) (fun t => t == 2)) env_ok Try.func65 rfl rfl rfl (by simp only [List.length_cons, List.length_nil]; exact of_decide_eq_true rfl) ?_
  ((try simp only [go_sem, ↓reduceIte, reduceCtorEq, Nat.reduceLT, Nat.reduceEqDiff, Nat.reduceBEq, Nat.reduceAdd, Nat.reduceMul, Nat.reduceSub, Nat.reduceLeDiff, Int.reduceNeg, Int.reduceLT, Int.reduceLE, Int.reduceEq, Int.reduceAdd, Int.reduceToNat]); repeat ((first | refine AW.seq ?_ | refine AW.region env_ok ?_ | refine AW.region envR_ok ?_ | refine AW.skip ?_ | refine AW.block ?_ | refine AW.exit ?_ | refine AW.ret ?_ | (refine AW.cond (b := true) ?_ ?_; simp only [ev, upd, ↓reduceIte, Nat.reduceEqDiff]; rw [if_pos rfl]) | (refine AW.cond (b := false) ?_ ?_; simp only [ev, upd, ↓reduceIte, Nat.reduceEqDiff]; rw [if_neg Bool.false_ne_true]) | fail) <;> try simp only [go_sem, ↓reduceIte, reduceCtorEq, Nat.reduceLT, Nat.reduceEqDiff, Nat.reduceBEq, Nat.reduceAdd, Nat.reduceMul, Nat.reduceSub, Nat.reduceLeDiff, Int.reduceNeg, Int.reduceLT, Int.reduceLE, Int.reduceEq, Int.reduceAdd, Int.reduceToNat]))
  refine AW.loop (fun st => ∃ l s1, l.length ≤ 10 ∧ (CS.Ok s1) ∧ seven 10 s = cat7 l (seven (10 - l.length) s1) ∧ st.H = H.set p (.cells s1.ref) ∧ st.σ 4 = .int .i64 l.length ∧ st.σ 3 = .sl (uA l) (some 0) () ∧ st.σ 0 = .ptr (some (p, 0)))
    (fun st => match st.σ 4 with | .int _ i => 10 - i.toNat | _ => 0) ⟨[], s, by simp, hs, (cat7_nil _).symm, by rw [set_same hp], rfl, rfl, rfl⟩ ?_
  rintro ⟨σ, H2⟩ ⟨l, s1, hl, hs1, h7, rfl, h4, h3, h0⟩
  simp only at h4 h3 h0
  have hps : ∀ x : CS, (H.set p (.cells x.ref))[p]? = some (.cells x.ref) := fun x => get_set hp
  ((try simp only [go_sem, ↓reduceIte, reduceCtorEq, Nat.reduceLT, Nat.reduceEqDiff, Nat.reduceBEq, Nat.reduceAdd, Nat.reduceMul, Nat.reduceSub, Nat.reduceLeDiff, Int.reduceNeg, Int.reduceLT, Int.reduceLE, Int.reduceEq, Int.reduceAdd, Int.reduceToNat, h4]); repeat ((first | refine AW.seq ?_ | refine AW.region env_ok ?_ | refine AW.region envR_ok ?_ | refine AW.skip ?_ | refine AW.block ?_ | refine AW.exit ?_ | refine AW.ret ?_ | (refine AW.cond (b := true) ?_ ?_; simp only [ev, upd, ↓reduceIte, Nat.reduceEqDiff]; rw [if_pos rfl]) | (refine AW.cond (b := false) ?_ ?_; simp only [ev, upd, ↓reduceIte, Nat.reduceEqDiff]; rw [if_neg Bool.false_ne_true]) | fail) <;> try simp only [go_sem, ↓reduceIte, reduceCtorEq, Nat.reduceLT, Nat.reduceEqDiff, Nat.reduceBEq, Nat.reduceAdd, Nat.reduceMul, Nat.reduceSub, Nat.reduceLeDiff, Int.reduceNeg, Int.reduceLT, Int.reduceLE, Int.reduceEq, Int.reduceAdd, Int.reduceToNat, h4]))
  (refine AW.cond rfl ?_; (try simp only [Bool.not_eq_true', decide_eq_false_iff_not, decide_eq_true_eq, Bool.false_eq_true, Bool.and_eq_true, Bool.or_eq_true, if_true, if_false]); split <;> rename_i e)
  · ((try simp only [go_sem, ↓reduceIte, reduceCtorEq, Nat.reduceLT, Nat.reduceEqDiff, Nat.reduceBEq, Nat.reduceAdd, Nat.reduceMul, Nat.reduceSub, Nat.reduceLeDiff, Int.reduceNeg, Int.reduceLT, Int.reduceLE, Int.reduceEq, Int.reduceAdd, Int.reduceToNat, h0]); repeat ((first | refine AW.seq ?_ | refine AW.region env_ok ?_ | refine AW.region envR_ok ?_ | refine AW.skip ?_ | refine AW.block ?_ | refine AW.exit ?_ | refine AW.ret ?_ | (refine AW.cond (b := true) ?_ ?_; simp only [ev, upd, ↓reduceIte, Nat.reduceEqDiff]; rw [if_pos rfl]) | (refine AW.cond (b := false) ?_ ?_; simp only [ev, upd, ↓reduceIte, Nat.reduceEqDiff]; rw [if_neg Bool.false_ne_true]) | fail) <;> try simp only [go_sem, ↓reduceIte, reduceCtorEq, Nat.reduceLT, Nat.reduceEqDiff, Nat.reduceBEq, Nat.reduceAdd, Nat.reduceMul, Nat.reduceSub, Nat.reduceLeDiff, Int.reduceNeg, Int.reduceLT, Int.reduceLE, Int.reduceEq, Int.reduceAdd, Int.reduceToNat, h0]))
    refine rUint_spec hs1 (hps s1) ?_
    rw [set_set, show (min (max (1 : Int) 0) 8).toNat = 1 from rfl]
    have hx := le1 s1
    ((try simp only [go_sem, ↓reduceIte, reduceCtorEq, Nat.reduceLT, Nat.reduceEqDiff, Nat.reduceBEq, Nat.reduceAdd, Nat.reduceMul, Nat.reduceSub, Nat.reduceLeDiff, Int.reduceNeg, Int.reduceLT, Int.reduceLE, Int.reduceEq, Int.reduceAdd, Int.reduceToNat, h0, hps]); repeat ((first | refine AW.seq ?_ | refine AW.region env_ok ?_ | refine AW.region envR_ok ?_ | refine AW.skip ?_ | refine AW.block ?_ | refine AW.exit ?_ | refine AW.ret ?_ | (refine AW.cond (b := true) ?_ ?_; simp only [ev, upd, ↓reduceIte, Nat.reduceEqDiff]; rw [if_pos rfl]) | (refine AW.cond (b := false) ?_ ?_; simp only [ev, upd, ↓reduceIte, Nat.reduceEqDiff]; rw [if_neg Bool.false_ne_true]) | fail) <;> try simp only [go_sem, ↓reduceIte, reduceCtorEq, Nat.reduceLT, Nat.reduceEqDiff, Nat.reduceBEq, Nat.reduceAdd, Nat.reduceMul, Nat.reduceSub, Nat.reduceLeDiff, Int.reduceNeg, Int.reduceLT, Int.reduceLE, Int.reduceEq, Int.reduceAdd, Int.reduceToNat, h0, hps]))
    (refine AW.cond rfl ?_; (try simp only [Bool.not_eq_true', decide_eq_false_iff_not, decide_eq_true_eq, Bool.false_eq_true, Bool.and_eq_true, Bool.or_eq_true, if_true, if_false]); split <;> rename_i e2)
    · ((try simp only [go_sem, ↓reduceIte, reduceCtorEq, Nat.reduceLT, Nat.reduceEqDiff, Nat.reduceBEq, Nat.reduceAdd, Nat.reduceMul, Nat.reduceSub, Nat.reduceLeDiff, Int.reduceNeg, Int.reduceLT, Int.reduceLE, Int.reduceEq, Int.reduceAdd, Int.reduceToNat]); repeat ((first | refine AW.seq ?_ | refine AW.region env_ok ?_ | refine AW.region envR_ok ?_ | refine AW.skip ?_ | refine AW.block ?_ | refine AW.exit ?_ | refine AW.ret ?_ | (refine AW.cond (b := true) ?_ ?_; simp only [ev, upd, ↓reduceIte, Nat.reduceEqDiff]; rw [if_pos rfl]) | (refine AW.cond (b := false) ?_ ?_; simp only [ev, upd, ↓reduceIte, Nat.reduceEqDiff]; rw [if_neg Bool.false_ne_true]) | fail) <;> try simp only [go_sem, ↓reduceIte, reduceCtorEq, Nat.reduceLT, Nat.reduceEqDiff, Nat.reduceBEq, Nat.reduceAdd, Nat.reduceMul, Nat.reduceSub, Nat.reduceLeDiff, Int.reduceNeg, Int.reduceLT, Int.reduceLE, Int.reduceEq, Int.reduceAdd, Int.reduceToNat]))
      have h7' : seven (10 - l.length) s1 = (none, (s1.take 1).2) := by
        rw [show 10 - l.length = (9 - l.length) + 1 by omega]; simp only [seven, if_neg e2]
      rw [h7', cat7] at h7
      rw [h7] at h
      exact .inl h
    · have e2' : (s1.take 1).2.err = 0 := by omega
      have h7a : seven (10 - l.length) s1 = if le (s1.take 1).1 < 128 then (some [le (s1.take 1).1], (s1.take 1).2) else cat7 [le (s1.take 1).1 % 128] (seven (9 - l.length) (s1.take 1).2) := by
        rw [show 10 - l.length = (9 - l.length) + 1 by omega]
        split
        · rename_i c; simp only [seven, if_pos e2', if_pos c]
        · rename_i c; exact seven_succ _ _ e2' c
      ((try simp (disch := omega) only [go_sem, ↓reduceIte, reduceCtorEq, Nat.reduceLT, Nat.reduceEqDiff, Nat.reduceBEq, Nat.reduceAdd, Nat.reduceMul, Nat.reduceSub, Nat.reduceLeDiff, Int.reduceNeg, Int.reduceLT, Int.reduceLE, Int.reduceEq, Int.reduceAdd, Int.reduceToNat, IntWalk.i64_in, IntWalk.u64_in, IntWalk.u8_in, if_pos, if_neg, Bool.and_eq_true, decide_eq_true_eq, h3, h4, h0, uA_snoc]); repeat ((first | refine AW.seq ?_ | refine AW.region env_ok ?_ | refine AW.region envR_ok ?_ | refine AW.skip ?_ | refine AW.block ?_ | refine AW.exit ?_ | refine AW.ret ?_ | (refine AW.cond (b := true) ?_ ?_; simp only [ev, upd, ↓reduceIte, Nat.reduceEqDiff]; rw [if_pos rfl]) | (refine AW.cond (b := false) ?_ ?_; simp only [ev, upd, ↓reduceIte, Nat.reduceEqDiff]; rw [if_neg Bool.false_ne_true]) | fail) <;> try simp (disch := omega) only [go_sem, ↓reduceIte, reduceCtorEq, Nat.reduceLT, Nat.reduceEqDiff, Nat.reduceBEq, Nat.reduceAdd, Nat.reduceMul, Nat.reduceSub, Nat.reduceLeDiff, Int.reduceNeg, Int.reduceLT, Int.reduceLE, Int.reduceEq, Int.reduceAdd, Int.reduceToNat, IntWalk.i64_in, IntWalk.u64_in, IntWalk.u8_in, if_pos, if_neg, Bool.and_eq_true, decide_eq_true_eq, h3, h4, h0, uA_snoc]))
      (refine AW.cond rfl ?_; (try simp only [Bool.not_eq_true', decide_eq_false_iff_not, decide_eq_true_eq, Bool.false_eq_true, Bool.and_eq_true, Bool.or_eq_true, if_true, if_false]); split <;> rename_i e3)
      · ((try simp only [go_sem, ↓reduceIte, reduceCtorEq, Nat.reduceLT, Nat.reduceEqDiff, Nat.reduceBEq, Nat.reduceAdd, Nat.reduceMul, Nat.reduceSub, Nat.reduceLeDiff, Int.reduceNeg, Int.reduceLT, Int.reduceLE, Int.reduceEq, Int.reduceAdd, Int.reduceToNat]); repeat ((first | refine AW.seq ?_ | refine AW.region env_ok ?_ | refine AW.region envR_ok ?_ | refine AW.skip ?_ | refine AW.block ?_ | refine AW.exit ?_ | refine AW.ret ?_ | (refine AW.cond (b := true) ?_ ?_; simp only [ev, upd, ↓reduceIte, Nat.reduceEqDiff]; rw [if_pos rfl]) | (refine AW.cond (b := false) ?_ ?_; simp only [ev, upd, ↓reduceIte, Nat.reduceEqDiff]; rw [if_neg Bool.false_ne_true]) | fail) <;> try simp only [go_sem, ↓reduceIte, reduceCtorEq, Nat.reduceLT, Nat.reduceEqDiff, Nat.reduceBEq, Nat.reduceAdd, Nat.reduceMul, Nat.reduceSub, Nat.reduceLeDiff, Int.reduceNeg, Int.reduceLT, Int.reduceLE, Int.reduceEq, Int.reduceAdd, Int.reduceToNat]))
        rw [h7a, if_pos (by omega), cat7] at h7
        rw [h7] at h
        simp only [Option.getD_some] at h
        rw [show le (s1.take 1).1 % 128 = le (s1.take 1).1 by omega]
        exact .inl h
      · ((try simp (disch := omega) only [go_sem, ↓reduceIte, reduceCtorEq, Nat.reduceLT, Nat.reduceEqDiff, Nat.reduceBEq, Nat.reduceAdd, Nat.reduceMul, Nat.reduceSub, Nat.reduceLeDiff, Int.reduceNeg, Int.reduceLT, Int.reduceLE, Int.reduceEq, Int.reduceAdd, Int.reduceToNat, IntWalk.i64_in, IntWalk.u64_in, IntWalk.u8_in, if_pos, if_neg, Bool.and_eq_true, decide_eq_true_eq, h4, h0]); repeat ((first | refine AW.seq ?_ | refine AW.region env_ok ?_ | refine AW.region envR_ok ?_ | refine AW.skip ?_ | refine AW.block ?_ | refine AW.exit ?_ | refine AW.ret ?_ | (refine AW.cond (b := true) ?_ ?_; simp only [ev, upd, ↓reduceIte, Nat.reduceEqDiff]; rw [if_pos rfl]) | (refine AW.cond (b := false) ?_ ?_; simp only [ev, upd, ↓reduceIte, Nat.reduceEqDiff]; rw [if_neg Bool.false_ne_true]) | fail) <;> try simp (disch := omega) only [go_sem, ↓reduceIte, reduceCtorEq, Nat.reduceLT, Nat.reduceEqDiff, Nat.reduceBEq, Nat.reduceAdd, Nat.reduceMul, Nat.reduceSub, Nat.reduceLeDiff, Int.reduceNeg, Int.reduceLT, Int.reduceLE, Int.reduceEq, Int.reduceAdd, Int.reduceToNat, IntWalk.i64_in, IntWalk.u64_in, IntWalk.u8_in, if_pos, if_neg, Bool.and_eq_true, decide_eq_true_eq, h4, h0]))
        rw [h7a, if_neg (by omega)] at h7
        refine ⟨⟨l ++ [le (s1.take 1).1 % 128], (s1.take 1).2, by simp; omega, hs1.take 1, ?_, rfl, ?_, rfl⟩, by omega⟩
        · rw [h7, cat7_cat]; congr 2; rw [List.length_append, List.length_cons, List.length_nil]; omega
        · rw [List.length_append]; rfl
  · ((try simp only [go_sem, ↓reduceIte, reduceCtorEq, Nat.reduceLT, Nat.reduceEqDiff, Nat.reduceBEq, Nat.reduceAdd, Nat.reduceMul, Nat.reduceSub, Nat.reduceLeDiff, Int.reduceNeg, Int.reduceLT, Int.reduceLE, Int.reduceEq, Int.reduceAdd, Int.reduceToNat, h0]); repeat ((first | refine AW.seq ?_ | refine AW.region env_ok ?_ | refine AW.region envR_ok ?_ | refine AW.skip ?_ | refine AW.block ?_ | refine AW.exit ?_ | refine AW.ret ?_ | (refine AW.cond (b := true) ?_ ?_; simp only [ev, upd, ↓reduceIte, Nat.reduceEqDiff]; rw [if_pos rfl]) | (refine AW.cond (b := false) ?_ ?_; simp only [ev, upd, ↓reduceIte, Nat.reduceEqDiff]; rw [if_neg Bool.false_ne_true]) | fail) <;> try simp only [go_sem, ↓reduceIte, reduceCtorEq, Nat.reduceLT, Nat.reduceEqDiff, Nat.reduceBEq, Nat.reduceAdd, Nat.reduceMul, Nat.reduceSub, Nat.reduceLeDiff, Int.reduceNeg, Int.reduceLT, Int.reduceLE, Int.reduceEq, Int.reduceAdd, Int.reduceToNat, h0]))
    refine rFail_spec (hps s1) ?_
    ((try simp only [go_sem, ↓reduceIte, reduceCtorEq, Nat.reduceLT, Nat.reduceEqDiff, Nat.reduceBEq, Nat.reduceAdd, Nat.reduceMul, Nat.reduceSub, Nat.reduceLeDiff, Int.reduceNeg, Int.reduceLT, Int.reduceLE, Int.reduceEq, Int.reduceAdd, Int.reduceToNat, set_set]); repeat ((first | refine AW.seq ?_ | refine AW.region env_ok ?_ | refine AW.region envR_ok ?_ | refine AW.skip ?_ | refine AW.block ?_ | refine AW.exit ?_ | refine AW.ret ?_ | (refine AW.cond (b := true) ?_ ?_; simp only [ev, upd, ↓reduceIte, Nat.reduceEqDiff]; rw [if_pos rfl]) | (refine AW.cond (b := false) ?_ ?_; simp only [ev, upd, ↓reduceIte, Nat.reduceEqDiff]; rw [if_neg Bool.false_ne_true]) | fail) <;> try simp only [go_sem, ↓reduceIte, reduceCtorEq, Nat.reduceLT, Nat.reduceEqDiff, Nat.reduceBEq, Nat.reduceAdd, Nat.reduceMul, Nat.reduceSub, Nat.reduceLeDiff, Int.reduceNeg, Int.reduceLT, Int.reduceLE, Int.reduceEq, Int.reduceAdd, Int.reduceToNat, set_set]))
    rw [show 10 - l.length = 0 by omega, seven, cat7] at h7
    rw [h7] at h
    exact .inl h

theorem val7_step (l : List Nat) (i : Nat) (h : i < l.length) : val7 (l.drop i) = l.getD i 0 + 128 * val7 (l.drop (i + 1)) := by
  rw [List.drop_eq_getElem_cons h, val7]; simp [List.getD_eq_getElem?_getD, h]

theorem val7_small {l : List Nat} (j1 : 1 ≤ l.length) (j2 : l.length ≤ 10) (j3 : ∀ x ∈ l, x < 128) : val7 l < 18446744073709551616 ↔ ¬ (l.length = 10 ∧ 1 < l.getD 9 0) := by
  rcases Nat.lt_or_ge l.length 10 with c | c
  · have hv := val7_lt l j3
    have : 128 ^ l.length ≤ 128 ^ 9 := Nat.pow_le_pow_right (by omega) (by omega)
    omega
  · have hv := val7_last j1
    rw [show l.length = 10 by omega, show (10 : Nat) - 1 = 9 from rfl] at hv
    have hv9 := val7_lt (l.take 9) fun x hx => j3 x (List.mem_of_mem_take hx)
    rw [show (l.take 9).length = 9 by simp; omega] at hv9
    omega

theorem uleb_eq (s : CS) : s.uleb = if ((seven 10 s).1.getD []).length = 10 ∧ 1 < ((seven 10 s).1.getD []).getD 9 0 then (0, (seven 10 s).2.fail 11) else (val7 ((seven 10 s).1.getD []), (seven 10 s).2) := by
  unfold CS.uleb
  generalize seven 10 s = r
  obtain ⟨q, s2⟩ := r
  cases q <;> rfl

theorem rU_spec (hs : s.Ok) (hp : H[p]? = some (.cells s.ref)) (h : Q (.int .u64 s.uleb.1) (H.set p (.cells s.uleb.2.ref))) : AC Try.prog 47 [.ptr (some (p, 0))] H Q := by
  have hok := seven_ok 10 s hs
  refine AC.enter (E := env Try.prog 27 (fun _ => .copy) (fun _ => false)) env_ok Try.func47 rfl rfl rfl (by simp only [List.length_cons, List.length_nil]; exact of_decide_eq_true rfl) ?_
  ((try simp only [go_sem, ↓reduceIte, reduceCtorEq, Nat.reduceLT, Nat.reduceEqDiff, Nat.reduceBEq, Nat.reduceAdd, Nat.reduceMul, Nat.reduceSub, Nat.reduceLeDiff, Int.reduceNeg, Int.reduceLT, Int.reduceLE, Int.reduceEq, Int.reduceAdd, Int.reduceToNat]); repeat ((first | refine AW.seq ?_ | refine AW.region env_ok ?_ | refine AW.region envR_ok ?_ | refine AW.skip ?_ | refine AW.block ?_ | refine AW.exit ?_ | refine AW.ret ?_ | (refine AW.cond (b := true) ?_ ?_; simp only [ev, upd, ↓reduceIte, Nat.reduceEqDiff]; rw [if_pos rfl]) | (refine AW.cond (b := false) ?_ ?_; simp only [ev, upd, ↓reduceIte, Nat.reduceEqDiff]; rw [if_neg Bool.false_ne_true]) | fail) <;> try simp only [go_sem, ↓reduceIte, reduceCtorEq, Nat.reduceLT, Nat.reduceEqDiff, Nat.reduceBEq, Nat.reduceAdd, Nat.reduceMul, Nat.reduceSub, Nat.reduceLeDiff, Int.reduceNeg, Int.reduceLT, Int.reduceLE, Int.reduceEq, Int.reduceAdd, Int.reduceToNat]))
  refine parts_spec hs hp ?_
  generalize hr : seven 10 s = r at hok ⊢
  obtain ⟨q, s2⟩ := r
  simp only at hok ⊢
  obtain ⟨o1, o2, o3⟩ := hok
  obtain ⟨l, hl⟩ : ∃ l, l = q.getD [] := ⟨_, rfl⟩
  rw [← hl]
  have hx : l.length ≤ 10 ∧ ∀ x ∈ l, x < 128 := by
    cases q with
    | none => subst hl; simp
    | some m => subst hl; exact ⟨(o3 _ rfl).2.1, (o3 _ rfl).2.2⟩
  obtain ⟨j2, j3⟩ := hx
  have hC : s.uleb = if l.length = 10 ∧ 1 < l.getD 9 0 then (0, s2.fail 11) else (val7 l, s2) := by rw [uleb_eq, hr, hl]
  rw [hC] at h
  have hsm : val7 l < 18446744073709551616 ↔ ¬ (l.length = 10 ∧ 1 < l.getD 9 0) := by
    rcases Nat.eq_zero_or_pos l.length with c | c
    · rw [List.length_eq_zero_iff.1 c]; simp [val7]
    · exact val7_small c j2 j3
  have hps : ∀ x : CS, (H.set p (.cells x.ref))[p]? = some (.cells x.ref) := fun x => get_set hp
  ((try simp (disch := omega) only [go_sem, ↓reduceIte, reduceCtorEq, Nat.reduceLT, Nat.reduceEqDiff, Nat.reduceBEq, Nat.reduceAdd, Nat.reduceMul, Nat.reduceSub, Nat.reduceLeDiff, Int.reduceNeg, Int.reduceLT, Int.reduceLE, Int.reduceEq, Int.reduceAdd, Int.reduceToNat, IntWalk.i64_in, IntWalk.u64_in, IntWalk.u8_in, if_pos, if_neg, Bool.and_eq_true, decide_eq_true_eq]); repeat ((first | refine AW.seq ?_ | refine AW.region env_ok ?_ | refine AW.region envR_ok ?_ | refine AW.skip ?_ | refine AW.block ?_ | refine AW.exit ?_ | refine AW.ret ?_ | (refine AW.cond (b := true) ?_ ?_; simp only [ev, upd, ↓reduceIte, Nat.reduceEqDiff]; rw [if_pos rfl]) | (refine AW.cond (b := false) ?_ ?_; simp only [ev, upd, ↓reduceIte, Nat.reduceEqDiff]; rw [if_neg Bool.false_ne_true]) | fail) <;> try simp (disch := omega) only [go_sem, ↓reduceIte, reduceCtorEq, Nat.reduceLT, Nat.reduceEqDiff, Nat.reduceBEq, Nat.reduceAdd, Nat.reduceMul, Nat.reduceSub, Nat.reduceLeDiff, Int.reduceNeg, Int.reduceLT, Int.reduceLE, Int.reduceEq, Int.reduceAdd, Int.reduceToNat, IntWalk.i64_in, IntWalk.u64_in, IntWalk.u8_in, if_pos, if_neg, Bool.and_eq_true, decide_eq_true_eq]))
  refine AW.loop (fun st => ∃ i : Nat, i ≤ l.length ∧ st.σ 5 = .int .i64 ((i : Int) - 1) ∧ st.σ 4 = .int .u64 (val7 (l.drop i) : Nat) ∧ val7 (l.drop i) < 18446744073709551616 ∧ st.σ 3 = .sl (uA l) none () ∧ st.σ 0 = .ptr (some (p, 0)) ∧ st.H = H.set p (.cells s2.ref))
    (fun st => match st.σ 5 with | .int _ i => (i + 1).toNat | _ => 0) ⟨l.length, by omega, rfl, ?_, ?_, rfl, rfl, rfl⟩ ?_
  · rw [List.drop_length]; rfl
  · rw [List.drop_length]; simp [val7]
  rintro ⟨σ, H2⟩ ⟨i, hi, h5, h4, hb, h3, h0, rfl⟩
  simp only at h5 h4 h3 h0
  ((try simp only [go_sem, ↓reduceIte, reduceCtorEq, Nat.reduceLT, Nat.reduceEqDiff, Nat.reduceBEq, Nat.reduceAdd, Nat.reduceMul, Nat.reduceSub, Nat.reduceLeDiff, Int.reduceNeg, Int.reduceLT, Int.reduceLE, Int.reduceEq, Int.reduceAdd, Int.reduceToNat, h5]); repeat ((first | refine AW.seq ?_ | refine AW.region env_ok ?_ | refine AW.region envR_ok ?_ | refine AW.skip ?_ | refine AW.block ?_ | refine AW.exit ?_ | refine AW.ret ?_ | (refine AW.cond (b := true) ?_ ?_; simp only [ev, upd, ↓reduceIte, Nat.reduceEqDiff]; rw [if_pos rfl]) | (refine AW.cond (b := false) ?_ ?_; simp only [ev, upd, ↓reduceIte, Nat.reduceEqDiff]; rw [if_neg Bool.false_ne_true]) | fail) <;> try simp only [go_sem, ↓reduceIte, reduceCtorEq, Nat.reduceLT, Nat.reduceEqDiff, Nat.reduceBEq, Nat.reduceAdd, Nat.reduceMul, Nat.reduceSub, Nat.reduceLeDiff, Int.reduceNeg, Int.reduceLT, Int.reduceLE, Int.reduceEq, Int.reduceAdd, Int.reduceToNat, h5]))
  (refine AW.cond rfl ?_; (try simp only [Bool.not_eq_true', decide_eq_false_iff_not, decide_eq_true_eq, Bool.false_eq_true, Bool.and_eq_true, Bool.or_eq_true, if_true, if_false]); split <;> rename_i e)
  · obtain ⟨j, rfl⟩ : ∃ j, i = j + 1 := ⟨i - 1, by omega⟩
    rw [show ((j + 1 : Nat) : Int) - 1 = j by omega] at h5
    have hst := val7_step l j (by omega)
    have hlj : l.getD j 0 < 128 := by
      have := j3 (l[j]'(by omega)) (List.getElem_mem _)
      simpa [List.getD_eq_getElem?_getD, show j < l.length by omega] using this
    ((try simp only [go_sem, ↓reduceIte, reduceCtorEq, Nat.reduceLT, Nat.reduceEqDiff, Nat.reduceBEq, Nat.reduceAdd, Nat.reduceMul, Nat.reduceSub, Nat.reduceLeDiff, Int.reduceNeg, Int.reduceLT, Int.reduceLE, Int.reduceEq, Int.reduceAdd, Int.reduceToNat, h4]); repeat ((first | refine AW.seq ?_ | refine AW.region env_ok ?_ | refine AW.region envR_ok ?_ | refine AW.skip ?_ | refine AW.block ?_ | refine AW.exit ?_ | refine AW.ret ?_ | (refine AW.cond (b := true) ?_ ?_; simp only [ev, upd, ↓reduceIte, Nat.reduceEqDiff]; rw [if_pos rfl]) | (refine AW.cond (b := false) ?_ ?_; simp only [ev, upd, ↓reduceIte, Nat.reduceEqDiff]; rw [if_neg Bool.false_ne_true]) | fail) <;> try simp only [go_sem, ↓reduceIte, reduceCtorEq, Nat.reduceLT, Nat.reduceEqDiff, Nat.reduceBEq, Nat.reduceAdd, Nat.reduceMul, Nat.reduceSub, Nat.reduceLeDiff, Int.reduceNeg, Int.reduceLT, Int.reduceLE, Int.reduceEq, Int.reduceAdd, Int.reduceToNat, h4]))
    (refine AW.cond rfl ?_; (try simp only [Bool.not_eq_true', decide_eq_false_iff_not, decide_eq_true_eq, Bool.false_eq_true, Bool.and_eq_true, Bool.or_eq_true, if_true, if_false]); split <;> rename_i e2)
    · ((try simp only [go_sem, ↓reduceIte, reduceCtorEq, Nat.reduceLT, Nat.reduceEqDiff, Nat.reduceBEq, Nat.reduceAdd, Nat.reduceMul, Nat.reduceSub, Nat.reduceLeDiff, Int.reduceNeg, Int.reduceLT, Int.reduceLE, Int.reduceEq, Int.reduceAdd, Int.reduceToNat, h0]); repeat ((first | refine AW.seq ?_ | refine AW.region env_ok ?_ | refine AW.region envR_ok ?_ | refine AW.skip ?_ | refine AW.block ?_ | refine AW.exit ?_ | refine AW.ret ?_ | (refine AW.cond (b := true) ?_ ?_; simp only [ev, upd, ↓reduceIte, Nat.reduceEqDiff]; rw [if_pos rfl]) | (refine AW.cond (b := false) ?_ ?_; simp only [ev, upd, ↓reduceIte, Nat.reduceEqDiff]; rw [if_neg Bool.false_ne_true]) | fail) <;> try simp only [go_sem, ↓reduceIte, reduceCtorEq, Nat.reduceLT, Nat.reduceEqDiff, Nat.reduceBEq, Nat.reduceAdd, Nat.reduceMul, Nat.reduceSub, Nat.reduceLeDiff, Int.reduceNeg, Int.reduceLT, Int.reduceLE, Int.reduceEq, Int.reduceAdd, Int.reduceToNat, h0]))
      refine rFail_spec (hps s2) ?_
      ((try simp only [go_sem, ↓reduceIte, reduceCtorEq, Nat.reduceLT, Nat.reduceEqDiff, Nat.reduceBEq, Nat.reduceAdd, Nat.reduceMul, Nat.reduceSub, Nat.reduceLeDiff, Int.reduceNeg, Int.reduceLT, Int.reduceLE, Int.reduceEq, Int.reduceAdd, Int.reduceToNat, set_set]); repeat ((first | refine AW.seq ?_ | refine AW.region env_ok ?_ | refine AW.region envR_ok ?_ | refine AW.skip ?_ | refine AW.block ?_ | refine AW.exit ?_ | refine AW.ret ?_ | (refine AW.cond (b := true) ?_ ?_; simp only [ev, upd, ↓reduceIte, Nat.reduceEqDiff]; rw [if_pos rfl]) | (refine AW.cond (b := false) ?_ ?_; simp only [ev, upd, ↓reduceIte, Nat.reduceEqDiff]; rw [if_neg Bool.false_ne_true]) | fail) <;> try simp only [go_sem, ↓reduceIte, reduceCtorEq, Nat.reduceLT, Nat.reduceEqDiff, Nat.reduceBEq, Nat.reduceAdd, Nat.reduceMul, Nat.reduceSub, Nat.reduceLeDiff, Int.reduceNeg, Int.reduceLT, Int.reduceLE, Int.reduceEq, Int.reduceAdd, Int.reduceToNat, set_set]))
      refine .inl ?_
      have hbig : ¬ val7 l < 18446744073709551616 := by
        have h1 := val7_append (l.take (j + 1)) (l.drop (j + 1))
        rw [List.take_append_drop, List.length_take, Nat.min_eq_left hi, Nat.pow_succ] at h1
        have h2 : 1 ≤ 128 ^ j := Nat.one_le_pow _ _ (by omega)
        have h3 : 1 * 128 * val7 (l.drop (j + 1)) ≤ 128 ^ j * 128 * val7 (l.drop (j + 1)) := Nat.mul_le_mul_right _ (Nat.mul_le_mul_right _ h2)
        omega
      rw [if_pos (by rw [hsm] at hbig; exact Decidable.not_not.1 hbig)] at h
      exact h
    · ((try simp (disch := omega) only [go_sem, ↓reduceIte, reduceCtorEq, Nat.reduceLT, Nat.reduceEqDiff, Nat.reduceBEq, Nat.reduceAdd, Nat.reduceMul, Nat.reduceSub, Nat.reduceLeDiff, Int.reduceNeg, Int.reduceLT, Int.reduceLE, Int.reduceEq, Int.reduceAdd, Int.reduceToNat, IntWalk.i64_in, IntWalk.u64_in, IntWalk.u8_in, if_pos, if_neg, Bool.and_eq_true, decide_eq_true_eq, h0, h4, h5, h3, uA_at l j _ (by omega)]); repeat ((first | refine AW.seq ?_ | refine AW.region env_ok ?_ | refine AW.region envR_ok ?_ | refine AW.skip ?_ | refine AW.block ?_ | refine AW.exit ?_ | refine AW.ret ?_ | (refine AW.cond (b := true) ?_ ?_; simp only [ev, upd, ↓reduceIte, Nat.reduceEqDiff]; rw [if_pos rfl]) | (refine AW.cond (b := false) ?_ ?_; simp only [ev, upd, ↓reduceIte, Nat.reduceEqDiff]; rw [if_neg Bool.false_ne_true]) | fail) <;> try simp (disch := omega) only [go_sem, ↓reduceIte, reduceCtorEq, Nat.reduceLT, Nat.reduceEqDiff, Nat.reduceBEq, Nat.reduceAdd, Nat.reduceMul, Nat.reduceSub, Nat.reduceLeDiff, Int.reduceNeg, Int.reduceLT, Int.reduceLE, Int.reduceEq, Int.reduceAdd, Int.reduceToNat, IntWalk.i64_in, IntWalk.u64_in, IntWalk.u8_in, if_pos, if_neg, Bool.and_eq_true, decide_eq_true_eq, h0, h4, h5, h3, uA_at l j _ (by omega)]))
      refine ⟨⟨j, by omega, rfl, ?_, by omega⟩, by omega⟩
      exact congrArg (V.int .u64) (by omega)
  · ((try simp only [go_sem, ↓reduceIte, reduceCtorEq, Nat.reduceLT, Nat.reduceEqDiff, Nat.reduceBEq, Nat.reduceAdd, Nat.reduceMul, Nat.reduceSub, Nat.reduceLeDiff, Int.reduceNeg, Int.reduceLT, Int.reduceLE, Int.reduceEq, Int.reduceAdd, Int.reduceToNat, h4]); repeat ((first | refine AW.seq ?_ | refine AW.region env_ok ?_ | refine AW.region envR_ok ?_ | refine AW.skip ?_ | refine AW.block ?_ | refine AW.exit ?_ | refine AW.ret ?_ | (refine AW.cond (b := true) ?_ ?_; simp only [ev, upd, ↓reduceIte, Nat.reduceEqDiff]; rw [if_pos rfl]) | (refine AW.cond (b := false) ?_ ?_; simp only [ev, upd, ↓reduceIte, Nat.reduceEqDiff]; rw [if_neg Bool.false_ne_true]) | fail) <;> try simp only [go_sem, ↓reduceIte, reduceCtorEq, Nat.reduceLT, Nat.reduceEqDiff, Nat.reduceBEq, Nat.reduceAdd, Nat.reduceMul, Nat.reduceSub, Nat.reduceLeDiff, Int.reduceNeg, Int.reduceLT, Int.reduceLE, Int.reduceEq, Int.reduceAdd, Int.reduceToNat, h4]))
    refine .inl ?_
    rw [show i = 0 by omega, List.drop_zero] at hb ⊢
    rw [if_neg (hsm.1 hb)] at h
    exact h

theorem sleb_eq (s : CS) : s.sleb = if ((seven 10 s).1.getD []).length = 10 ∧ ((seven 10 s).1.getD []).getD 9 0 ≠ 0 ∧ ((seven 10 s).1.getD []).getD 9 0 ≠ 127 then (0, (seven 10 s).2.fail 11) else (if ((seven 10 s).1.getD []).length = 0 then 0 else sval ((seven 10 s).1.getD []), (seven 10 s).2) := by
  have h : ∀ l, (seven 10 s).1 = some l → 1 ≤ l.length := by
    -- a number that is told has a part
    have : ∀ k s l, (seven k s).1 = some l → 1 ≤ l.length := by
      intro k
      induction k with
      | zero => simp [seven]
      | succ k ih =>
        intro s l
        simp only [seven]
        split
        · split
          · rintro ⟨⟩; simp
          · generalize seven k _ = q
            obtain ⟨r, s2⟩ := q
            cases r
            · simp
            · rintro ⟨⟩; simp
        · simp
    exact this 10 s
  unfold CS.sleb
  generalize seven 10 s = r at h
  obtain ⟨q, s2⟩ := r
  cases q with
  | none => simp
  | some l =>
    have := h l rfl
    simp only [Option.getD_some]
    rw [if_neg (show ¬ l.length = 0 by omega)]

/-- The digits from i on, the last one with its sign. -/
def sdrop (l : List Nat) (i : Nat) : Int := sval (l.drop i)
theorem sval_cons (x : Nat) {l : List Nat} (h : 1 ≤ l.length) : sval (x :: l) = x + 128 * sval l := by
  obtain ⟨y, m, rfl⟩ : ∃ y m, l = y :: m := by cases l; simp at h; exact ⟨_, _, rfl⟩
  simp only [sval, val7, List.length_cons, Nat.add_sub_cancel, List.getD_cons_succ]
  split
  · push_cast; omega
  · rw [Int.pow_succ _ (m.length + 1)]; push_cast; omega

theorem sval_last {l : List Nat} (h : 1 ≤ l.length) : sval l = val7 (l.take (l.length - 1)) + (if l.getD (l.length - 1) 0 < 64 then (l.getD (l.length - 1) 0 : Int) else (l.getD (l.length - 1) 0 : Int) - 128) * 128 ^ (l.length - 1) := by
  have hv := val7_last h
  have e : (2 : Nat) ^ (7 * (l.length - 1)) = 128 ^ (l.length - 1) := by rw [Nat.pow_mul]
  rw [e] at hv
  have hv' : (val7 l : Int) = val7 (l.take (l.length - 1)) + (l.getD (l.length - 1) 0 : Int) * 128 ^ (l.length - 1) := by rw [hv]; simp
  unfold sval
  split
  · exact hv'
  · rw [hv', Int.sub_mul, show (128 : Int) ^ l.length = 128 * 128 ^ (l.length - 1) by
      rw [← Int.pow_succ']; congr 1; omega]
    omega
theorem sval_bound {l : List Nat} (h : 1 ≤ l.length) (h3 : ∀ x ∈ l, x < 128) : -(64 * 128 ^ (l.length - 1)) ≤ sval l ∧ sval l < 64 * 128 ^ (l.length - 1) := by
  have hv := val7_lt (l.take (l.length - 1)) fun x hx => h3 x (List.mem_of_mem_take hx)
  rw [List.length_take, Nat.min_eq_left (by omega)] at hv
  have hl : l.getD (l.length - 1) 0 < 128 := by
    have := h3 (l[l.length - 1]'(by omega)) (List.getElem_mem _)
    simpa [List.getD_eq_getElem?_getD, show l.length - 1 < l.length by omega] using this
  rw [sval_last h]
  have hv' : (val7 (l.take (l.length - 1)) : Int) < 128 ^ (l.length - 1) := by exact_mod_cast hv
  generalize hd : (if l.getD (l.length - 1) 0 < 64 then (l.getD (l.length - 1) 0 : Int) else (l.getD (l.length - 1) 0 : Int) - 128) = d
  have hd1 : -64 ≤ d ∧ d ≤ 63 := by rw [← hd]; split <;> omega
  generalize hP : (128 : Int) ^ (l.length - 1) = P at *
  have hP0 : 0 ≤ P := by rw [← hP]; exact Int.pow_nonneg (by omega)
  have a1 := Int.mul_le_mul_of_nonneg_right hd1.1 hP0
  have a2 := Int.mul_le_mul_of_nonneg_right hd1.2 hP0
  omega
theorem sdrop1 {l : List Nat} (h : l.length = 10) (h3 : ∀ x ∈ l, x < 128) : (-72057594037927936 ≤ sdrop l 1 ∧ sdrop l 1 ≤ 72057594037927935) ↔ ¬ (l.getD 9 0 ≠ 0 ∧ l.getD 9 0 ≠ 127) := by
  have hl := sval_last (l := l.drop 1) (by simp; omega)
  have e1 : (l.drop 1).length - 1 = 8 := by simp [h]
  have e2 : (l.drop 1).getD 8 0 = l.getD 9 0 := by simp [List.getD_eq_getElem?_getD]
  rw [e1, e2] at hl
  have hv := val7_lt ((l.drop 1).take 8) fun x hx => h3 x (List.mem_of_mem_drop (List.mem_of_mem_take hx))
  rw [show ((l.drop 1).take 8).length = 8 by simp; omega] at hv
  have hlast : l.getD 9 0 < 128 := by
    have := h3 (l[9]'(by omega)) (List.getElem_mem _)
    simpa [List.getD_eq_getElem?_getD, show 9 < l.length by omega] using this
  unfold sdrop
  rw [hl]
  split <;> omega

theorem sdrop_last {l : List Nat} (h : 1 ≤ l.length) : sdrop l (l.length - 1) = if l.getD (l.length - 1) 0 < 64 then (l.getD (l.length - 1) 0 : Int) else (l.getD (l.length - 1) 0 : Int) - 128 := by
  have e : l.drop (l.length - 1) = [l.getD (l.length - 1) 0] := by
    rw [List.drop_eq_getElem_cons (show l.length - 1 < l.length by omega), show l.length - 1 + 1 = l.length by omega, List.drop_length]
    simp [List.getD_eq_getElem?_getD, show l.length - 1 < l.length by omega]
  unfold sdrop
  rw [e]
  generalize l.getD (l.length - 1) 0 = x
  simp [sval, val7]

theorem rS_spec (hs : s.Ok) (hp : H[p]? = some (.cells s.ref)) (h : Q (.int .i64 s.sleb.1) (H.set p (.cells s.sleb.2.ref))) : AC Try.prog 48 [.ptr (some (p, 0))] H Q := by
  have hok := seven_ok 10 s hs
  rw [sleb_eq] at h
  refine AC.enter (E := env Try.prog 46 (fun _ => .copy) (fun _ => false)) env_ok Try.func48 rfl rfl rfl (by simp only [List.length_cons, List.length_nil]; exact of_decide_eq_true rfl) ?_
  ((try simp only [go_sem, ↓reduceIte, reduceCtorEq, Nat.reduceLT, Nat.reduceEqDiff, Nat.reduceBEq, Nat.reduceAdd, Nat.reduceMul, Nat.reduceSub, Nat.reduceLeDiff, Int.reduceNeg, Int.reduceLT, Int.reduceLE, Int.reduceEq, Int.reduceAdd, Int.reduceToNat]); repeat ((first | refine AW.seq ?_ | refine AW.region env_ok ?_ | refine AW.region envR_ok ?_ | refine AW.skip ?_ | refine AW.block ?_ | refine AW.exit ?_ | refine AW.ret ?_ | (refine AW.cond (b := true) ?_ ?_; simp only [ev, upd, ↓reduceIte, Nat.reduceEqDiff]; rw [if_pos rfl]) | (refine AW.cond (b := false) ?_ ?_; simp only [ev, upd, ↓reduceIte, Nat.reduceEqDiff]; rw [if_neg Bool.false_ne_true]) | fail) <;> try simp only [go_sem, ↓reduceIte, reduceCtorEq, Nat.reduceLT, Nat.reduceEqDiff, Nat.reduceBEq, Nat.reduceAdd, Nat.reduceMul, Nat.reduceSub, Nat.reduceLeDiff, Int.reduceNeg, Int.reduceLT, Int.reduceLE, Int.reduceEq, Int.reduceAdd, Int.reduceToNat]))
  refine parts_spec hs hp ?_
  generalize hr : seven 10 s = r at hok h ⊢
  obtain ⟨q, s2⟩ := r
  simp only at hok h ⊢
  obtain ⟨o1, o2, o3⟩ := hok
  generalize hl : q.getD [] = l at h ⊢
  have hx : l.length ≤ 10 ∧ ∀ x ∈ l, x < 128 := by
    cases q with
    | none => subst hl; simp
    | some m => subst hl; exact ⟨(o3 _ rfl).2.1, (o3 _ rfl).2.2⟩
  obtain ⟨j2, j3⟩ := hx
  have hps : ∀ x : CS, (H.set p (.cells x.ref))[p]? = some (.cells x.ref) := fun x => get_set hp
  ((try simp (disch := omega) only [go_sem, ↓reduceIte, reduceCtorEq, Nat.reduceLT, Nat.reduceEqDiff, Nat.reduceBEq, Nat.reduceAdd, Nat.reduceMul, Nat.reduceSub, Nat.reduceLeDiff, Int.reduceNeg, Int.reduceLT, Int.reduceLE, Int.reduceEq, Int.reduceAdd, Int.reduceToNat, IntWalk.i64_in, IntWalk.u64_in, IntWalk.u8_in, if_pos, if_neg, Bool.and_eq_true, decide_eq_true_eq]); repeat ((first | refine AW.seq ?_ | refine AW.region env_ok ?_ | refine AW.region envR_ok ?_ | refine AW.skip ?_ | refine AW.block ?_ | refine AW.exit ?_ | refine AW.ret ?_ | (refine AW.cond (b := true) ?_ ?_; simp only [ev, upd, ↓reduceIte, Nat.reduceEqDiff]; rw [if_pos rfl]) | (refine AW.cond (b := false) ?_ ?_; simp only [ev, upd, ↓reduceIte, Nat.reduceEqDiff]; rw [if_neg Bool.false_ne_true]) | fail) <;> try simp (disch := omega) only [go_sem, ↓reduceIte, reduceCtorEq, Nat.reduceLT, Nat.reduceEqDiff, Nat.reduceBEq, Nat.reduceAdd, Nat.reduceMul, Nat.reduceSub, Nat.reduceLeDiff, Int.reduceNeg, Int.reduceLT, Int.reduceLE, Int.reduceEq, Int.reduceAdd, Int.reduceToNat, IntWalk.i64_in, IntWalk.u64_in, IntWalk.u8_in, if_pos, if_neg, Bool.and_eq_true, decide_eq_true_eq]))
  (refine AW.cond rfl ?_; (try simp only [Bool.not_eq_true', decide_eq_false_iff_not, decide_eq_true_eq, Bool.false_eq_true, Bool.and_eq_true, Bool.or_eq_true, if_true, if_false]); split <;> rename_i e)
  · ((try simp only [go_sem, ↓reduceIte, reduceCtorEq, Nat.reduceLT, Nat.reduceEqDiff, Nat.reduceBEq, Nat.reduceAdd, Nat.reduceMul, Nat.reduceSub, Nat.reduceLeDiff, Int.reduceNeg, Int.reduceLT, Int.reduceLE, Int.reduceEq, Int.reduceAdd, Int.reduceToNat]); repeat ((first | refine AW.seq ?_ | refine AW.region env_ok ?_ | refine AW.region envR_ok ?_ | refine AW.skip ?_ | refine AW.block ?_ | refine AW.exit ?_ | refine AW.ret ?_ | (refine AW.cond (b := true) ?_ ?_; simp only [ev, upd, ↓reduceIte, Nat.reduceEqDiff]; rw [if_pos rfl]) | (refine AW.cond (b := false) ?_ ?_; simp only [ev, upd, ↓reduceIte, Nat.reduceEqDiff]; rw [if_neg Bool.false_ne_true]) | fail) <;> try simp only [go_sem, ↓reduceIte, reduceCtorEq, Nat.reduceLT, Nat.reduceEqDiff, Nat.reduceBEq, Nat.reduceAdd, Nat.reduceMul, Nat.reduceSub, Nat.reduceLeDiff, Int.reduceNeg, Int.reduceLT, Int.reduceLE, Int.reduceEq, Int.reduceAdd, Int.reduceToNat]))
    rw [if_neg (by omega), if_pos (by omega)] at h
    exact .inl h
  · rw [if_neg (show ¬ l.length = 0 by omega)] at h
    have hlast : l.getD (l.length - 1) 0 < 128 := by
      have := j3 (l[l.length - 1]'(by omega)) (List.getElem_mem _)
      simpa [List.getD_eq_getElem?_getD, show l.length - 1 < l.length by omega] using this
    ((try simp (disch := omega) only [go_sem, ↓reduceIte, reduceCtorEq, Nat.reduceLT, Nat.reduceEqDiff, Nat.reduceBEq, Nat.reduceAdd, Nat.reduceMul, Nat.reduceSub, Nat.reduceLeDiff, Int.reduceNeg, Int.reduceLT, Int.reduceLE, Int.reduceEq, Int.reduceAdd, Int.reduceToNat, IntWalk.i64_in, IntWalk.u64_in, IntWalk.u8_in, if_pos, if_neg, Bool.and_eq_true, decide_eq_true_eq, show (l.length : Int) - 1 = ((l.length - 1 : Nat) : Int) by omega, uA_at l (l.length - 1) _ (by omega)]); repeat ((first | refine AW.seq ?_ | refine AW.region env_ok ?_ | refine AW.region envR_ok ?_ | refine AW.skip ?_ | refine AW.block ?_ | refine AW.exit ?_ | refine AW.ret ?_ | (refine AW.cond (b := true) ?_ ?_; simp only [ev, upd, ↓reduceIte, Nat.reduceEqDiff]; rw [if_pos rfl]) | (refine AW.cond (b := false) ?_ ?_; simp only [ev, upd, ↓reduceIte, Nat.reduceEqDiff]; rw [if_neg Bool.false_ne_true]) | fail) <;> try simp (disch := omega) only [go_sem, ↓reduceIte, reduceCtorEq, Nat.reduceLT, Nat.reduceEqDiff, Nat.reduceBEq, Nat.reduceAdd, Nat.reduceMul, Nat.reduceSub, Nat.reduceLeDiff, Int.reduceNeg, Int.reduceLT, Int.reduceLE, Int.reduceEq, Int.reduceAdd, Int.reduceToNat, IntWalk.i64_in, IntWalk.u64_in, IntWalk.u8_in, if_pos, if_neg, Bool.and_eq_true, decide_eq_true_eq, show (l.length : Int) - 1 = ((l.length - 1 : Nat) : Int) by omega, uA_at l (l.length - 1) _ (by omega)]))
    have hb0 := sval_bound (l := l) (by omega) j3
    (refine AW.cond rfl ?_; (try simp only [Bool.not_eq_true', decide_eq_false_iff_not, decide_eq_true_eq, Bool.false_eq_true, Bool.and_eq_true, Bool.or_eq_true, if_true, if_false]); split <;> rename_i e2)
    all_goals
      ((try simp (disch := omega) only [go_sem, ↓reduceIte, reduceCtorEq, Nat.reduceLT, Nat.reduceEqDiff, Nat.reduceBEq, Nat.reduceAdd, Nat.reduceMul, Nat.reduceSub, Nat.reduceLeDiff, Int.reduceNeg, Int.reduceLT, Int.reduceLE, Int.reduceEq, Int.reduceAdd, Int.reduceToNat, IntWalk.i64_in, IntWalk.u64_in, IntWalk.u8_in, if_pos, if_neg, Bool.and_eq_true, decide_eq_true_eq, show (l.length : Int) - 1 = ((l.length - 1 : Nat) : Int) by omega]); repeat ((first | refine AW.seq ?_ | refine AW.region env_ok ?_ | refine AW.region envR_ok ?_ | refine AW.skip ?_ | refine AW.block ?_ | refine AW.exit ?_ | refine AW.ret ?_ | (refine AW.cond (b := true) ?_ ?_; simp only [ev, upd, ↓reduceIte, Nat.reduceEqDiff]; rw [if_pos rfl]) | (refine AW.cond (b := false) ?_ ?_; simp only [ev, upd, ↓reduceIte, Nat.reduceEqDiff]; rw [if_neg Bool.false_ne_true]) | fail) <;> try simp (disch := omega) only [go_sem, ↓reduceIte, reduceCtorEq, Nat.reduceLT, Nat.reduceEqDiff, Nat.reduceBEq, Nat.reduceAdd, Nat.reduceMul, Nat.reduceSub, Nat.reduceLeDiff, Int.reduceNeg, Int.reduceLT, Int.reduceLE, Int.reduceEq, Int.reduceAdd, Int.reduceToNat, IntWalk.i64_in, IntWalk.u64_in, IntWalk.u8_in, if_pos, if_neg, Bool.and_eq_true, decide_eq_true_eq, show (l.length : Int) - 1 = ((l.length - 1 : Nat) : Int) by omega]))
      refine AW.loop (fun st => ∃ i : Nat, i + 1 ≤ l.length ∧ st.σ 5 = .int .i64 ((i : Int) - 1) ∧ st.σ 4 = .int .i64 (sdrop l i) ∧ (i = 0 → l.length = 10 → -72057594037927936 ≤ sdrop l 1 ∧ sdrop l 1 ≤ 72057594037927935) ∧ st.σ 3 = .sl (uA l) none () ∧ st.σ 0 = .ptr (some (p, 0)) ∧ st.H = H.set p (.cells s2.ref))
        (fun st => match st.σ 5 with | .int _ i => (i + 1).toNat | _ => 0) ⟨l.length - 1, by omega, ?_, ?_, by omega, rfl, rfl, rfl⟩ ?_
      rotate_right
      · rintro ⟨σ, H2⟩ ⟨i, hi, h5, h4, hb, h3, h0, rfl⟩
        simp only at h5 h4 h3 h0
        ((try simp only [go_sem, ↓reduceIte, reduceCtorEq, Nat.reduceLT, Nat.reduceEqDiff, Nat.reduceBEq, Nat.reduceAdd, Nat.reduceMul, Nat.reduceSub, Nat.reduceLeDiff, Int.reduceNeg, Int.reduceLT, Int.reduceLE, Int.reduceEq, Int.reduceAdd, Int.reduceToNat, h5]); repeat ((first | refine AW.seq ?_ | refine AW.region env_ok ?_ | refine AW.region envR_ok ?_ | refine AW.skip ?_ | refine AW.block ?_ | refine AW.exit ?_ | refine AW.ret ?_ | (refine AW.cond (b := true) ?_ ?_; simp only [ev, upd, ↓reduceIte, Nat.reduceEqDiff]; rw [if_pos rfl]) | (refine AW.cond (b := false) ?_ ?_; simp only [ev, upd, ↓reduceIte, Nat.reduceEqDiff]; rw [if_neg Bool.false_ne_true]) | fail) <;> try simp only [go_sem, ↓reduceIte, reduceCtorEq, Nat.reduceLT, Nat.reduceEqDiff, Nat.reduceBEq, Nat.reduceAdd, Nat.reduceMul, Nat.reduceSub, Nat.reduceLeDiff, Int.reduceNeg, Int.reduceLT, Int.reduceLE, Int.reduceEq, Int.reduceAdd, Int.reduceToNat, h5]))
        (refine AW.cond rfl ?_; (try simp only [Bool.not_eq_true', decide_eq_false_iff_not, decide_eq_true_eq, Bool.false_eq_true, Bool.and_eq_true, Bool.or_eq_true, if_true, if_false]); split <;> rename_i e3)
        · obtain ⟨j, rfl⟩ : ∃ j, i = j + 1 := ⟨i - 1, by omega⟩
          rw [show ((j + 1 : Nat) : Int) - 1 = j by omega] at h5
          have hst : sdrop l j = (l.getD j 0 : Int) + 128 * sdrop l (j + 1) := by
            unfold sdrop
            rw [List.drop_eq_getElem_cons (show j < l.length by omega), sval_cons _ (by simp; omega)]
            simp [List.getD_eq_getElem?_getD, show j < l.length by omega]
          have hlj : l.getD j 0 < 128 := by
            have := j3 (l[j]'(by omega)) (List.getElem_mem _)
            simpa [List.getD_eq_getElem?_getD, show j < l.length by omega] using this
          have hfail : ¬ (-72057594037927936 ≤ sdrop l (j + 1) ∧ sdrop l (j + 1) ≤ 72057594037927935) → l.length = 10 ∧ l.getD 9 0 ≠ 0 ∧ l.getD 9 0 ≠ 127 := by
            intro hf
            have hbd := sval_bound (l := l.drop (j + 1)) (by simp; omega) fun x hx => j3 x (List.mem_of_mem_drop hx)
            rw [List.length_drop] at hbd
            have h9 : ¬ l.length - (j + 1) - 1 ≤ 7 := by
              intro hc
              have hp8 : (128 : Int) ^ (l.length - (j + 1) - 1) ≤ 128 ^ 7 := by exact_mod_cast Nat.pow_le_pow_right (by omega) hc
              unfold sdrop at hf
              omega
            have hj : j = 0 := by omega
            subst hj
            have hl10 : l.length = 10 := by omega
            exact ⟨hl10, Decidable.not_not.1 (fun c => hf ((sdrop1 hl10 j3).2 c))⟩
          by_cases r1 : sdrop l (j + 1) < -72057594037927936
          · ((try simp only [go_sem, ↓reduceIte, reduceCtorEq, Nat.reduceLT, Nat.reduceEqDiff, Nat.reduceBEq, Nat.reduceAdd, Nat.reduceMul, Nat.reduceSub, Nat.reduceLeDiff, Int.reduceNeg, Int.reduceLT, Int.reduceLE, Int.reduceEq, Int.reduceAdd, Int.reduceToNat, h4, r1]); repeat ((first | refine AW.seq ?_ | refine AW.region env_ok ?_ | refine AW.region envR_ok ?_ | refine AW.skip ?_ | refine AW.block ?_ | refine AW.exit ?_ | refine AW.ret ?_ | (refine AW.cond (b := true) ?_ ?_; simp only [ev, upd, ↓reduceIte, Nat.reduceEqDiff]; rw [if_pos rfl]) | (refine AW.cond (b := false) ?_ ?_; simp only [ev, upd, ↓reduceIte, Nat.reduceEqDiff]; rw [if_neg Bool.false_ne_true]) | fail) <;> try simp only [go_sem, ↓reduceIte, reduceCtorEq, Nat.reduceLT, Nat.reduceEqDiff, Nat.reduceBEq, Nat.reduceAdd, Nat.reduceMul, Nat.reduceSub, Nat.reduceLeDiff, Int.reduceNeg, Int.reduceLT, Int.reduceLE, Int.reduceEq, Int.reduceAdd, Int.reduceToNat, h4, r1]))
            ((try simp only [go_sem, ↓reduceIte, reduceCtorEq, Nat.reduceLT, Nat.reduceEqDiff, Nat.reduceBEq, Nat.reduceAdd, Nat.reduceMul, Nat.reduceSub, Nat.reduceLeDiff, Int.reduceNeg, Int.reduceLT, Int.reduceLE, Int.reduceEq, Int.reduceAdd, Int.reduceToNat, h0]); repeat ((first | refine AW.seq ?_ | refine AW.region env_ok ?_ | refine AW.region envR_ok ?_ | refine AW.skip ?_ | refine AW.block ?_ | refine AW.exit ?_ | refine AW.ret ?_ | (refine AW.cond (b := true) ?_ ?_; simp only [ev, upd, ↓reduceIte, Nat.reduceEqDiff]; rw [if_pos rfl]) | (refine AW.cond (b := false) ?_ ?_; simp only [ev, upd, ↓reduceIte, Nat.reduceEqDiff]; rw [if_neg Bool.false_ne_true]) | fail) <;> try simp only [go_sem, ↓reduceIte, reduceCtorEq, Nat.reduceLT, Nat.reduceEqDiff, Nat.reduceBEq, Nat.reduceAdd, Nat.reduceMul, Nat.reduceSub, Nat.reduceLeDiff, Int.reduceNeg, Int.reduceLT, Int.reduceLE, Int.reduceEq, Int.reduceAdd, Int.reduceToNat, h0]))
            refine rFail_spec (hps s2) ?_
            ((try simp only [go_sem, ↓reduceIte, reduceCtorEq, Nat.reduceLT, Nat.reduceEqDiff, Nat.reduceBEq, Nat.reduceAdd, Nat.reduceMul, Nat.reduceSub, Nat.reduceLeDiff, Int.reduceNeg, Int.reduceLT, Int.reduceLE, Int.reduceEq, Int.reduceAdd, Int.reduceToNat, set_set]); repeat ((first | refine AW.seq ?_ | refine AW.region env_ok ?_ | refine AW.region envR_ok ?_ | refine AW.skip ?_ | refine AW.block ?_ | refine AW.exit ?_ | refine AW.ret ?_ | (refine AW.cond (b := true) ?_ ?_; simp only [ev, upd, ↓reduceIte, Nat.reduceEqDiff]; rw [if_pos rfl]) | (refine AW.cond (b := false) ?_ ?_; simp only [ev, upd, ↓reduceIte, Nat.reduceEqDiff]; rw [if_neg Bool.false_ne_true]) | fail) <;> try simp only [go_sem, ↓reduceIte, reduceCtorEq, Nat.reduceLT, Nat.reduceEqDiff, Nat.reduceBEq, Nat.reduceAdd, Nat.reduceMul, Nat.reduceSub, Nat.reduceLeDiff, Int.reduceNeg, Int.reduceLT, Int.reduceLE, Int.reduceEq, Int.reduceAdd, Int.reduceToNat, set_set]))
            rw [if_pos (hfail (by omega))] at h
            exact .inl h
          by_cases r2 : sdrop l (j + 1) > 72057594037927935
          · ((try simp only [go_sem, ↓reduceIte, reduceCtorEq, Nat.reduceLT, Nat.reduceEqDiff, Nat.reduceBEq, Nat.reduceAdd, Nat.reduceMul, Nat.reduceSub, Nat.reduceLeDiff, Int.reduceNeg, Int.reduceLT, Int.reduceLE, Int.reduceEq, Int.reduceAdd, Int.reduceToNat, h4, r1, r2]); repeat ((first | refine AW.seq ?_ | refine AW.region env_ok ?_ | refine AW.region envR_ok ?_ | refine AW.skip ?_ | refine AW.block ?_ | refine AW.exit ?_ | refine AW.ret ?_ | (refine AW.cond (b := true) ?_ ?_; simp only [ev, upd, ↓reduceIte, Nat.reduceEqDiff]; rw [if_pos rfl]) | (refine AW.cond (b := false) ?_ ?_; simp only [ev, upd, ↓reduceIte, Nat.reduceEqDiff]; rw [if_neg Bool.false_ne_true]) | fail) <;> try simp only [go_sem, ↓reduceIte, reduceCtorEq, Nat.reduceLT, Nat.reduceEqDiff, Nat.reduceBEq, Nat.reduceAdd, Nat.reduceMul, Nat.reduceSub, Nat.reduceLeDiff, Int.reduceNeg, Int.reduceLT, Int.reduceLE, Int.reduceEq, Int.reduceAdd, Int.reduceToNat, h4, r1, r2]))
            ((try simp only [go_sem, ↓reduceIte, reduceCtorEq, Nat.reduceLT, Nat.reduceEqDiff, Nat.reduceBEq, Nat.reduceAdd, Nat.reduceMul, Nat.reduceSub, Nat.reduceLeDiff, Int.reduceNeg, Int.reduceLT, Int.reduceLE, Int.reduceEq, Int.reduceAdd, Int.reduceToNat, h0]); repeat ((first | refine AW.seq ?_ | refine AW.region env_ok ?_ | refine AW.region envR_ok ?_ | refine AW.skip ?_ | refine AW.block ?_ | refine AW.exit ?_ | refine AW.ret ?_ | (refine AW.cond (b := true) ?_ ?_; simp only [ev, upd, ↓reduceIte, Nat.reduceEqDiff]; rw [if_pos rfl]) | (refine AW.cond (b := false) ?_ ?_; simp only [ev, upd, ↓reduceIte, Nat.reduceEqDiff]; rw [if_neg Bool.false_ne_true]) | fail) <;> try simp only [go_sem, ↓reduceIte, reduceCtorEq, Nat.reduceLT, Nat.reduceEqDiff, Nat.reduceBEq, Nat.reduceAdd, Nat.reduceMul, Nat.reduceSub, Nat.reduceLeDiff, Int.reduceNeg, Int.reduceLT, Int.reduceLE, Int.reduceEq, Int.reduceAdd, Int.reduceToNat, h0]))
            refine rFail_spec (hps s2) ?_
            ((try simp only [go_sem, ↓reduceIte, reduceCtorEq, Nat.reduceLT, Nat.reduceEqDiff, Nat.reduceBEq, Nat.reduceAdd, Nat.reduceMul, Nat.reduceSub, Nat.reduceLeDiff, Int.reduceNeg, Int.reduceLT, Int.reduceLE, Int.reduceEq, Int.reduceAdd, Int.reduceToNat, set_set]); repeat ((first | refine AW.seq ?_ | refine AW.region env_ok ?_ | refine AW.region envR_ok ?_ | refine AW.skip ?_ | refine AW.block ?_ | refine AW.exit ?_ | refine AW.ret ?_ | (refine AW.cond (b := true) ?_ ?_; simp only [ev, upd, ↓reduceIte, Nat.reduceEqDiff]; rw [if_pos rfl]) | (refine AW.cond (b := false) ?_ ?_; simp only [ev, upd, ↓reduceIte, Nat.reduceEqDiff]; rw [if_neg Bool.false_ne_true]) | fail) <;> try simp only [go_sem, ↓reduceIte, reduceCtorEq, Nat.reduceLT, Nat.reduceEqDiff, Nat.reduceBEq, Nat.reduceAdd, Nat.reduceMul, Nat.reduceSub, Nat.reduceLeDiff, Int.reduceNeg, Int.reduceLT, Int.reduceLE, Int.reduceEq, Int.reduceAdd, Int.reduceToNat, set_set]))
            rw [if_pos (hfail (by omega))] at h
            exact .inl h
          · ((try simp only [go_sem, ↓reduceIte, reduceCtorEq, Nat.reduceLT, Nat.reduceEqDiff, Nat.reduceBEq, Nat.reduceAdd, Nat.reduceMul, Nat.reduceSub, Nat.reduceLeDiff, Int.reduceNeg, Int.reduceLT, Int.reduceLE, Int.reduceEq, Int.reduceAdd, Int.reduceToNat, h4, r1, r2]); repeat ((first | refine AW.seq ?_ | refine AW.region env_ok ?_ | refine AW.region envR_ok ?_ | refine AW.skip ?_ | refine AW.block ?_ | refine AW.exit ?_ | refine AW.ret ?_ | (refine AW.cond (b := true) ?_ ?_; simp only [ev, upd, ↓reduceIte, Nat.reduceEqDiff]; rw [if_pos rfl]) | (refine AW.cond (b := false) ?_ ?_; simp only [ev, upd, ↓reduceIte, Nat.reduceEqDiff]; rw [if_neg Bool.false_ne_true]) | fail) <;> try simp only [go_sem, ↓reduceIte, reduceCtorEq, Nat.reduceLT, Nat.reduceEqDiff, Nat.reduceBEq, Nat.reduceAdd, Nat.reduceMul, Nat.reduceSub, Nat.reduceLeDiff, Int.reduceNeg, Int.reduceLT, Int.reduceLE, Int.reduceEq, Int.reduceAdd, Int.reduceToNat, h4, r1, r2]))
            ((try simp (disch := omega) only [go_sem, ↓reduceIte, reduceCtorEq, Nat.reduceLT, Nat.reduceEqDiff, Nat.reduceBEq, Nat.reduceAdd, Nat.reduceMul, Nat.reduceSub, Nat.reduceLeDiff, Int.reduceNeg, Int.reduceLT, Int.reduceLE, Int.reduceEq, Int.reduceAdd, Int.reduceToNat, IntWalk.i64_in, IntWalk.u64_in, IntWalk.u8_in, if_pos, if_neg, Bool.and_eq_true, decide_eq_true_eq, h0, h4, h5, h3, uA_at l j _ (by omega)]); repeat ((first | refine AW.seq ?_ | refine AW.region env_ok ?_ | refine AW.region envR_ok ?_ | refine AW.skip ?_ | refine AW.block ?_ | refine AW.exit ?_ | refine AW.ret ?_ | (refine AW.cond (b := true) ?_ ?_; simp only [ev, upd, ↓reduceIte, Nat.reduceEqDiff]; rw [if_pos rfl]) | (refine AW.cond (b := false) ?_ ?_; simp only [ev, upd, ↓reduceIte, Nat.reduceEqDiff]; rw [if_neg Bool.false_ne_true]) | fail) <;> try simp (disch := omega) only [go_sem, ↓reduceIte, reduceCtorEq, Nat.reduceLT, Nat.reduceEqDiff, Nat.reduceBEq, Nat.reduceAdd, Nat.reduceMul, Nat.reduceSub, Nat.reduceLeDiff, Int.reduceNeg, Int.reduceLT, Int.reduceLE, Int.reduceEq, Int.reduceAdd, Int.reduceToNat, IntWalk.i64_in, IntWalk.u64_in, IntWalk.u8_in, if_pos, if_neg, Bool.and_eq_true, decide_eq_true_eq, h0, h4, h5, h3, uA_at l j _ (by omega)]))
            refine ⟨⟨j, by omega, rfl, ?_, ?_⟩, by omega⟩
            · exact congrArg (V.int .i64) (by omega)
            · rintro rfl _
              show -72057594037927936 ≤ sdrop l (0 + 1) ∧ sdrop l (0 + 1) ≤ 72057594037927935
              omega
        · ((try simp only [go_sem, ↓reduceIte, reduceCtorEq, Nat.reduceLT, Nat.reduceEqDiff, Nat.reduceBEq, Nat.reduceAdd, Nat.reduceMul, Nat.reduceSub, Nat.reduceLeDiff, Int.reduceNeg, Int.reduceLT, Int.reduceLE, Int.reduceEq, Int.reduceAdd, Int.reduceToNat, h4]); repeat ((first | refine AW.seq ?_ | refine AW.region env_ok ?_ | refine AW.region envR_ok ?_ | refine AW.skip ?_ | refine AW.block ?_ | refine AW.exit ?_ | refine AW.ret ?_ | (refine AW.cond (b := true) ?_ ?_; simp only [ev, upd, ↓reduceIte, Nat.reduceEqDiff]; rw [if_pos rfl]) | (refine AW.cond (b := false) ?_ ?_; simp only [ev, upd, ↓reduceIte, Nat.reduceEqDiff]; rw [if_neg Bool.false_ne_true]) | fail) <;> try simp only [go_sem, ↓reduceIte, reduceCtorEq, Nat.reduceLT, Nat.reduceEqDiff, Nat.reduceBEq, Nat.reduceAdd, Nat.reduceMul, Nat.reduceSub, Nat.reduceLeDiff, Int.reduceNeg, Int.reduceLT, Int.reduceLE, Int.reduceEq, Int.reduceAdd, Int.reduceToNat, h4]))
          refine .inl ?_
          have : i = 0 := by omega
          subst this
          rw [if_neg (fun c => (sdrop1 c.1 j3).1 (hb rfl c.1) c.2)] at h
          exact h
      · exact congrArg (V.int .i64) (by omega)
      · refine congrArg (V.int .i64) ?_
        rw [sdrop_last (by omega)]
        split <;> omega
end
end Go.Ab
end

section
/- Packages cstr and sindriref03: texts. -/
namespace Go.Ab
open V Go.Proofs
set_option maxHeartbeats 4000000
set_option maxRecDepth 10000
set_option linter.unusedSimpArgs false
set_option linter.unusedVariables false

/-- May a text be? -/
def textOk (s : ByteArray) : Bool := decide (∀ x ∈ s.data.toList, x ≠ 0) && decide (s.size ≤ 200)

section
variable {s : ByteArray} {H : Heap} {Q : A → Heap → Prop}

theorem IndexByteString_spec {c : Int} (h : Q (.int .i64 (firstIdx s c.toNat.toUInt8)) H) : AC Try.prog 67 [.str s, .int .u8 c] H Q :=
  AC.indexByteString (fn := Try.f67) Try.func67 (by kernel_rfl) (by kernel_rfl) (by kernel_rfl) (by kernel_rfl) h

theorem liteIndex_spec {c : Int} (h : Q (.int .i64 (firstIdx s c.toNat.toUInt8)) H) : AC Try.prog 66 [.str s, .int .u8 c] H Q := by
  refine AC.enter (E := env Try.prog 8 (fun _ => .copy) (fun _ => false)) env_ok Try.func66 rfl rfl rfl (by simp only [List.length_cons, List.length_nil]; exact of_decide_eq_true rfl) ?_
  ((try simp only [go_sem, ↓reduceIte, reduceCtorEq, Nat.reduceLT, Nat.reduceEqDiff, Nat.reduceBEq, Nat.reduceAdd, Nat.reduceMul, Nat.reduceSub, Nat.reduceLeDiff, Int.reduceNeg, Int.reduceLT, Int.reduceLE, Int.reduceEq, Int.reduceAdd, Int.reduceToNat]); repeat ((first | refine AW.seq ?_ | refine AW.region env_ok ?_ | refine AW.region envR_ok ?_ | refine AW.skip ?_ | refine AW.block ?_ | refine AW.exit ?_ | refine AW.ret ?_ | (refine AW.cond (b := true) ?_ ?_; simp only [ev, upd, ↓reduceIte, Nat.reduceEqDiff]; rw [if_pos rfl]) | (refine AW.cond (b := false) ?_ ?_; simp only [ev, upd, ↓reduceIte, Nat.reduceEqDiff]; rw [if_neg Bool.false_ne_true]) | fail) <;> try simp only [go_sem, ↓reduceIte, reduceCtorEq, Nat.reduceLT, Nat.reduceEqDiff, Nat.reduceBEq, Nat.reduceAdd, Nat.reduceMul, Nat.reduceSub, Nat.reduceLeDiff, Int.reduceNeg, Int.reduceLT, Int.reduceLE, Int.reduceEq, Int.reduceAdd, Int.reduceToNat]))
  refine IndexByteString_spec ?_
  ((try simp only [go_sem, ↓reduceIte, reduceCtorEq, Nat.reduceLT, Nat.reduceEqDiff, Nat.reduceBEq, Nat.reduceAdd, Nat.reduceMul, Nat.reduceSub, Nat.reduceLeDiff, Int.reduceNeg, Int.reduceLT, Int.reduceLE, Int.reduceEq, Int.reduceAdd, Int.reduceToNat]); repeat ((first | refine AW.seq ?_ | refine AW.region env_ok ?_ | refine AW.region envR_ok ?_ | refine AW.skip ?_ | refine AW.block ?_ | refine AW.exit ?_ | refine AW.ret ?_ | (refine AW.cond (b := true) ?_ ?_; simp only [ev, upd, ↓reduceIte, Nat.reduceEqDiff]; rw [if_pos rfl]) | (refine AW.cond (b := false) ?_ ?_; simp only [ev, upd, ↓reduceIte, Nat.reduceEqDiff]; rw [if_neg Bool.false_ne_true]) | fail) <;> try simp only [go_sem, ↓reduceIte, reduceCtorEq, Nat.reduceLT, Nat.reduceEqDiff, Nat.reduceBEq, Nat.reduceAdd, Nat.reduceMul, Nat.reduceSub, Nat.reduceLeDiff, Int.reduceNeg, Int.reduceLT, Int.reduceLE, Int.reduceEq, Int.reduceAdd, Int.reduceToNat]))
  exact .inl h

theorem IndexByte_spec {c : Int} (h : Q (.int .i64 (firstIdx s c.toNat.toUInt8)) H) : AC Try.prog 51 [.str s, .int .u8 c] H Q := by
  refine AC.enter (E := env Try.prog 8 (fun _ => .copy) (fun _ => false)) env_ok Try.func51 rfl rfl rfl (by simp only [List.length_cons, List.length_nil]; exact of_decide_eq_true rfl) ?_
  ((try simp only [go_sem, ↓reduceIte, reduceCtorEq, Nat.reduceLT, Nat.reduceEqDiff, Nat.reduceBEq, Nat.reduceAdd, Nat.reduceMul, Nat.reduceSub, Nat.reduceLeDiff, Int.reduceNeg, Int.reduceLT, Int.reduceLE, Int.reduceEq, Int.reduceAdd, Int.reduceToNat]); repeat ((first | refine AW.seq ?_ | refine AW.region env_ok ?_ | refine AW.region envR_ok ?_ | refine AW.skip ?_ | refine AW.block ?_ | refine AW.exit ?_ | refine AW.ret ?_ | (refine AW.cond (b := true) ?_ ?_; simp only [ev, upd, ↓reduceIte, Nat.reduceEqDiff]; rw [if_pos rfl]) | (refine AW.cond (b := false) ?_ ?_; simp only [ev, upd, ↓reduceIte, Nat.reduceEqDiff]; rw [if_neg Bool.false_ne_true]) | fail) <;> try simp only [go_sem, ↓reduceIte, reduceCtorEq, Nat.reduceLT, Nat.reduceEqDiff, Nat.reduceBEq, Nat.reduceAdd, Nat.reduceMul, Nat.reduceSub, Nat.reduceLeDiff, Int.reduceNeg, Int.reduceLT, Int.reduceLE, Int.reduceEq, Int.reduceAdd, Int.reduceToNat]))
  refine liteIndex_spec ?_
  ((try simp only [go_sem, ↓reduceIte, reduceCtorEq, Nat.reduceLT, Nat.reduceEqDiff, Nat.reduceBEq, Nat.reduceAdd, Nat.reduceMul, Nat.reduceSub, Nat.reduceLeDiff, Int.reduceNeg, Int.reduceLT, Int.reduceLE, Int.reduceEq, Int.reduceAdd, Int.reduceToNat]); repeat ((first | refine AW.seq ?_ | refine AW.region env_ok ?_ | refine AW.region envR_ok ?_ | refine AW.skip ?_ | refine AW.block ?_ | refine AW.exit ?_ | refine AW.ret ?_ | (refine AW.cond (b := true) ?_ ?_; simp only [ev, upd, ↓reduceIte, Nat.reduceEqDiff]; rw [if_pos rfl]) | (refine AW.cond (b := false) ?_ ?_; simp only [ev, upd, ↓reduceIte, Nat.reduceEqDiff]; rw [if_neg Bool.false_ne_true]) | fail) <;> try simp only [go_sem, ↓reduceIte, reduceCtorEq, Nat.reduceLT, Nat.reduceEqDiff, Nat.reduceBEq, Nat.reduceAdd, Nat.reduceMul, Nat.reduceSub, Nat.reduceLeDiff, Int.reduceNeg, Int.reduceLT, Int.reduceLE, Int.reduceEq, Int.reduceAdd, Int.reduceToNat]))
  exact .inl h

theorem cstrRight_spec (h : Q (.bool (textOk s)) H) : AC Try.prog 31 [.str s] H Q := by
  refine AC.enter (E := env Try.prog 11 (fun _ => .copy) (fun _ => false)) env_ok Try.func31 rfl rfl rfl (by simp only [List.length_cons, List.length_nil]; exact of_decide_eq_true rfl) ?_
  ((try simp only [go_sem, ↓reduceIte, reduceCtorEq, Nat.reduceLT, Nat.reduceEqDiff, Nat.reduceBEq, Nat.reduceAdd, Nat.reduceMul, Nat.reduceSub, Nat.reduceLeDiff, Int.reduceNeg, Int.reduceLT, Int.reduceLE, Int.reduceEq, Int.reduceAdd, Int.reduceToNat]); repeat ((first | refine AW.seq ?_ | refine AW.region env_ok ?_ | refine AW.region envR_ok ?_ | refine AW.skip ?_ | refine AW.block ?_ | refine AW.exit ?_ | refine AW.ret ?_ | (refine AW.cond (b := true) ?_ ?_; simp only [ev, upd, ↓reduceIte, Nat.reduceEqDiff]; rw [if_pos rfl]) | (refine AW.cond (b := false) ?_ ?_; simp only [ev, upd, ↓reduceIte, Nat.reduceEqDiff]; rw [if_neg Bool.false_ne_true]) | fail) <;> try simp only [go_sem, ↓reduceIte, reduceCtorEq, Nat.reduceLT, Nat.reduceEqDiff, Nat.reduceBEq, Nat.reduceAdd, Nat.reduceMul, Nat.reduceSub, Nat.reduceLeDiff, Int.reduceNeg, Int.reduceLT, Int.reduceLE, Int.reduceEq, Int.reduceAdd, Int.reduceToNat]))
  refine IndexByte_spec ?_
  have hn := firstIdx_neg s 0
  rw [show ((0 : Int).toNat.toUInt8) = 0 from rfl]
  by_cases c : firstIdx s 0 < 0
  · ((try simp only [go_sem, ↓reduceIte, reduceCtorEq, Nat.reduceLT, Nat.reduceEqDiff, Nat.reduceBEq, Nat.reduceAdd, Nat.reduceMul, Nat.reduceSub, Nat.reduceLeDiff, Int.reduceNeg, Int.reduceLT, Int.reduceLE, Int.reduceEq, Int.reduceAdd, Int.reduceToNat, c]); repeat ((first | refine AW.seq ?_ | refine AW.region env_ok ?_ | refine AW.region envR_ok ?_ | refine AW.skip ?_ | refine AW.block ?_ | refine AW.exit ?_ | refine AW.ret ?_ | (refine AW.cond (b := true) ?_ ?_; simp only [ev, upd, ↓reduceIte, Nat.reduceEqDiff]; rw [if_pos rfl]) | (refine AW.cond (b := false) ?_ ?_; simp only [ev, upd, ↓reduceIte, Nat.reduceEqDiff]; rw [if_neg Bool.false_ne_true]) | fail) <;> try simp only [go_sem, ↓reduceIte, reduceCtorEq, Nat.reduceLT, Nat.reduceEqDiff, Nat.reduceBEq, Nat.reduceAdd, Nat.reduceMul, Nat.reduceSub, Nat.reduceLeDiff, Int.reduceNeg, Int.reduceLT, Int.reduceLE, Int.reduceEq, Int.reduceAdd, Int.reduceToNat, c]))
    rw [textOk, decide_eq_true (hn.1 c), Bool.true_and] at h
    rw [show decide ((s.size : Int) ≤ 200) = decide (s.size ≤ 200) by apply decide_eq_decide.2; omega]
    exact .inl h
  · ((try simp only [go_sem, ↓reduceIte, reduceCtorEq, Nat.reduceLT, Nat.reduceEqDiff, Nat.reduceBEq, Nat.reduceAdd, Nat.reduceMul, Nat.reduceSub, Nat.reduceLeDiff, Int.reduceNeg, Int.reduceLT, Int.reduceLE, Int.reduceEq, Int.reduceAdd, Int.reduceToNat, c]); repeat ((first | refine AW.seq ?_ | refine AW.region env_ok ?_ | refine AW.region envR_ok ?_ | refine AW.skip ?_ | refine AW.block ?_ | refine AW.exit ?_ | refine AW.ret ?_ | (refine AW.cond (b := true) ?_ ?_; simp only [ev, upd, ↓reduceIte, Nat.reduceEqDiff]; rw [if_pos rfl]) | (refine AW.cond (b := false) ?_ ?_; simp only [ev, upd, ↓reduceIte, Nat.reduceEqDiff]; rw [if_neg Bool.false_ne_true]) | fail) <;> try simp only [go_sem, ↓reduceIte, reduceCtorEq, Nat.reduceLT, Nat.reduceEqDiff, Nat.reduceBEq, Nat.reduceAdd, Nat.reduceMul, Nat.reduceSub, Nat.reduceLeDiff, Int.reduceNeg, Int.reduceLT, Int.reduceLE, Int.reduceEq, Int.reduceAdd, Int.reduceToNat, c]))
    rw [textOk, decide_eq_false (fun x => c (hn.2 x)), Bool.false_and] at h
    exact .inl h

theorem rRight_spec (hsz : s.size < 4611686018427387904) (h : Q (.bool (textOk s)) H) : AC Try.prog 41 [.str s] H Q := by
  refine AC.enter (E := env Try.prog 17 (fun _ => .copy) (fun _ => false)) env_ok Try.func41 rfl rfl rfl (by simp only [List.length_cons, List.length_nil]; exact of_decide_eq_true rfl) ?_
  ((try simp only [go_sem, ↓reduceIte, reduceCtorEq, Nat.reduceLT, Nat.reduceEqDiff, Nat.reduceBEq, Nat.reduceAdd, Nat.reduceMul, Nat.reduceSub, Nat.reduceLeDiff, Int.reduceNeg, Int.reduceLT, Int.reduceLE, Int.reduceEq, Int.reduceAdd, Int.reduceToNat]); repeat ((first | refine AW.seq ?_ | refine AW.region env_ok ?_ | refine AW.region envR_ok ?_ | refine AW.skip ?_ | refine AW.block ?_ | refine AW.exit ?_ | refine AW.ret ?_ | (refine AW.cond (b := true) ?_ ?_; simp only [ev, upd, ↓reduceIte, Nat.reduceEqDiff]; rw [if_pos rfl]) | (refine AW.cond (b := false) ?_ ?_; simp only [ev, upd, ↓reduceIte, Nat.reduceEqDiff]; rw [if_neg Bool.false_ne_true]) | fail) <;> try simp only [go_sem, ↓reduceIte, reduceCtorEq, Nat.reduceLT, Nat.reduceEqDiff, Nat.reduceBEq, Nat.reduceAdd, Nat.reduceMul, Nat.reduceSub, Nat.reduceLeDiff, Int.reduceNeg, Int.reduceLT, Int.reduceLE, Int.reduceEq, Int.reduceAdd, Int.reduceToNat]))
  have hlen : s.data.toList.length = s.size := by simp
  refine AW.loop (fun st => ∃ i : Nat, i ≤ s.size ∧ st.σ 3 = .int .i64 i ∧ (∀ x ∈ s.data.toList.take i, x ≠ 0) ∧ st.σ 0 = .str s ∧ st.H = H)
    (fun st => match st.σ 3 with | .int _ i => s.size - i.toNat | _ => 0) ⟨0, by omega, rfl, by simp, rfl, rfl⟩ ?_
  rintro ⟨σ, H2⟩ ⟨i, hi, h3, hz, h0, rfl⟩
  simp only at h3 h0
  ((try simp only [go_sem, ↓reduceIte, reduceCtorEq, Nat.reduceLT, Nat.reduceEqDiff, Nat.reduceBEq, Nat.reduceAdd, Nat.reduceMul, Nat.reduceSub, Nat.reduceLeDiff, Int.reduceNeg, Int.reduceLT, Int.reduceLE, Int.reduceEq, Int.reduceAdd, Int.reduceToNat, h3, h0]); repeat ((first | refine AW.seq ?_ | refine AW.region env_ok ?_ | refine AW.region envR_ok ?_ | refine AW.skip ?_ | refine AW.block ?_ | refine AW.exit ?_ | refine AW.ret ?_ | (refine AW.cond (b := true) ?_ ?_; simp only [ev, upd, ↓reduceIte, Nat.reduceEqDiff]; rw [if_pos rfl]) | (refine AW.cond (b := false) ?_ ?_; simp only [ev, upd, ↓reduceIte, Nat.reduceEqDiff]; rw [if_neg Bool.false_ne_true]) | fail) <;> try simp only [go_sem, ↓reduceIte, reduceCtorEq, Nat.reduceLT, Nat.reduceEqDiff, Nat.reduceBEq, Nat.reduceAdd, Nat.reduceMul, Nat.reduceSub, Nat.reduceLeDiff, Int.reduceNeg, Int.reduceLT, Int.reduceLE, Int.reduceEq, Int.reduceAdd, Int.reduceToNat, h3, h0]))
  (refine AW.cond rfl ?_; (try simp only [Bool.not_eq_true', decide_eq_false_iff_not, decide_eq_true_eq, Bool.false_eq_true, Bool.and_eq_true, Bool.or_eq_true, if_true, if_false]); split <;> rename_i e)
  · have hx : s.data.toList.getD i 0 = s.data.toList[i]'(by omega) := by
      rw [List.getD_eq_getElem?_getD, List.getElem?_eq_getElem (by omega)]; rfl
    ((try simp (disch := omega) only [go_sem, ↓reduceIte, reduceCtorEq, Nat.reduceLT, Nat.reduceEqDiff, Nat.reduceBEq, Nat.reduceAdd, Nat.reduceMul, Nat.reduceSub, Nat.reduceLeDiff, Int.reduceNeg, Int.reduceLT, Int.reduceLE, Int.reduceEq, Int.reduceAdd, Int.reduceToNat, IntWalk.i64_in, IntWalk.u64_in, IntWalk.u8_in, if_pos, if_neg, Bool.and_eq_true, decide_eq_true_eq, h3, h0]); repeat ((first | refine AW.seq ?_ | refine AW.region env_ok ?_ | refine AW.region envR_ok ?_ | refine AW.skip ?_ | refine AW.block ?_ | refine AW.exit ?_ | refine AW.ret ?_ | (refine AW.cond (b := true) ?_ ?_; simp only [ev, upd, ↓reduceIte, Nat.reduceEqDiff]; rw [if_pos rfl]) | (refine AW.cond (b := false) ?_ ?_; simp only [ev, upd, ↓reduceIte, Nat.reduceEqDiff]; rw [if_neg Bool.false_ne_true]) | fail) <;> try simp (disch := omega) only [go_sem, ↓reduceIte, reduceCtorEq, Nat.reduceLT, Nat.reduceEqDiff, Nat.reduceBEq, Nat.reduceAdd, Nat.reduceMul, Nat.reduceSub, Nat.reduceLeDiff, Int.reduceNeg, Int.reduceLT, Int.reduceLE, Int.reduceEq, Int.reduceAdd, Int.reduceToNat, IntWalk.i64_in, IntWalk.u64_in, IntWalk.u8_in, if_pos, if_neg, Bool.and_eq_true, decide_eq_true_eq, h3, h0]))
    (refine AW.cond rfl ?_; (try simp only [Bool.not_eq_true', decide_eq_false_iff_not, decide_eq_true_eq, Bool.false_eq_true, Bool.and_eq_true, Bool.or_eq_true, if_true, if_false]); split <;> rename_i e2)
    · ((try simp only [go_sem, ↓reduceIte, reduceCtorEq, Nat.reduceLT, Nat.reduceEqDiff, Nat.reduceBEq, Nat.reduceAdd, Nat.reduceMul, Nat.reduceSub, Nat.reduceLeDiff, Int.reduceNeg, Int.reduceLT, Int.reduceLE, Int.reduceEq, Int.reduceAdd, Int.reduceToNat]); repeat ((first | refine AW.seq ?_ | refine AW.region env_ok ?_ | refine AW.region envR_ok ?_ | refine AW.skip ?_ | refine AW.block ?_ | refine AW.exit ?_ | refine AW.ret ?_ | (refine AW.cond (b := true) ?_ ?_; simp only [ev, upd, ↓reduceIte, Nat.reduceEqDiff]; rw [if_pos rfl]) | (refine AW.cond (b := false) ?_ ?_; simp only [ev, upd, ↓reduceIte, Nat.reduceEqDiff]; rw [if_neg Bool.false_ne_true]) | fail) <;> try simp only [go_sem, ↓reduceIte, reduceCtorEq, Nat.reduceLT, Nat.reduceEqDiff, Nat.reduceBEq, Nat.reduceAdd, Nat.reduceMul, Nat.reduceSub, Nat.reduceLeDiff, Int.reduceNeg, Int.reduceLT, Int.reduceLE, Int.reduceEq, Int.reduceAdd, Int.reduceToNat]))
      have hb : s.data.toList.getD i 0 = 0 := UInt8.toNat_inj.1 (by rw [show (0 : UInt8).toNat = 0 from rfl]; omega)
      rw [textOk, decide_eq_false, Bool.false_and] at h
      · exact .inl h
      · intro c
        exact c _ (by rw [hx]; exact List.getElem_mem _) hb
    · ((try simp (disch := omega) only [go_sem, ↓reduceIte, reduceCtorEq, Nat.reduceLT, Nat.reduceEqDiff, Nat.reduceBEq, Nat.reduceAdd, Nat.reduceMul, Nat.reduceSub, Nat.reduceLeDiff, Int.reduceNeg, Int.reduceLT, Int.reduceLE, Int.reduceEq, Int.reduceAdd, Int.reduceToNat, IntWalk.i64_in, IntWalk.u64_in, IntWalk.u8_in, if_pos, if_neg, Bool.and_eq_true, decide_eq_true_eq, h3]); repeat ((first | refine AW.seq ?_ | refine AW.region env_ok ?_ | refine AW.region envR_ok ?_ | refine AW.skip ?_ | refine AW.block ?_ | refine AW.exit ?_ | refine AW.ret ?_ | (refine AW.cond (b := true) ?_ ?_; simp only [ev, upd, ↓reduceIte, Nat.reduceEqDiff]; rw [if_pos rfl]) | (refine AW.cond (b := false) ?_ ?_; simp only [ev, upd, ↓reduceIte, Nat.reduceEqDiff]; rw [if_neg Bool.false_ne_true]) | fail) <;> try simp (disch := omega) only [go_sem, ↓reduceIte, reduceCtorEq, Nat.reduceLT, Nat.reduceEqDiff, Nat.reduceBEq, Nat.reduceAdd, Nat.reduceMul, Nat.reduceSub, Nat.reduceLeDiff, Int.reduceNeg, Int.reduceLT, Int.reduceLE, Int.reduceEq, Int.reduceAdd, Int.reduceToNat, IntWalk.i64_in, IntWalk.u64_in, IntWalk.u8_in, if_pos, if_neg, Bool.and_eq_true, decide_eq_true_eq, h3]))
      refine ⟨⟨i + 1, by omega, rfl, ?_, h0⟩, by omega⟩
      intro x hx2
      rw [List.take_succ_eq_append_getElem (by omega)] at hx2
      rcases List.mem_append.1 hx2 with hx2 | hx2
      · exact hz x hx2
      · rw [List.mem_singleton.1 hx2, ← hx]
        intro c
        rw [c] at e2
        exact e2 rfl
  · ((try simp only [go_sem, ↓reduceIte, reduceCtorEq, Nat.reduceLT, Nat.reduceEqDiff, Nat.reduceBEq, Nat.reduceAdd, Nat.reduceMul, Nat.reduceSub, Nat.reduceLeDiff, Int.reduceNeg, Int.reduceLT, Int.reduceLE, Int.reduceEq, Int.reduceAdd, Int.reduceToNat, h0]); repeat ((first | refine AW.seq ?_ | refine AW.region env_ok ?_ | refine AW.region envR_ok ?_ | refine AW.skip ?_ | refine AW.block ?_ | refine AW.exit ?_ | refine AW.ret ?_ | (refine AW.cond (b := true) ?_ ?_; simp only [ev, upd, ↓reduceIte, Nat.reduceEqDiff]; rw [if_pos rfl]) | (refine AW.cond (b := false) ?_ ?_; simp only [ev, upd, ↓reduceIte, Nat.reduceEqDiff]; rw [if_neg Bool.false_ne_true]) | fail) <;> try simp only [go_sem, ↓reduceIte, reduceCtorEq, Nat.reduceLT, Nat.reduceEqDiff, Nat.reduceBEq, Nat.reduceAdd, Nat.reduceMul, Nat.reduceSub, Nat.reduceLeDiff, Int.reduceNeg, Int.reduceLT, Int.reduceLE, Int.reduceEq, Int.reduceAdd, Int.reduceToNat, h0]))
    have hi' : i = s.size := by omega
    rw [hi', List.take_of_length_le (by omega)] at hz
    rw [textOk, decide_eq_true hz, Bool.true_and] at h
    rw [show decide ((s.size : Int) ≤ 200) = decide (s.size ≤ 200) by apply decide_eq_decide.2; omega]
    exact .inl h
end
end Go.Ab
end
