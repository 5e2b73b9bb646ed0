/- Contracts of the functions that the law reaches. -/
import Derived.Test.YtbdhocfaebchfaaOpPartC
import Derived.Test.YtbdhocfaebchfaaOpLAbTree
import Derived.Test.YtbdhocfaebchfaaOpPartA
set_option linter.all false
set_option linter.unusedSimpArgs false
set_option linter.unusedVariables false
set_option linter.unnecessarySimpa false
section
/- Operations that are put, one by one. -/
namespace Go.Ab
open V Go.Proofs
set_option maxHeartbeats 8000000
set_option maxRecDepth 10000
set_option linter.unusedSimpArgs false
set_option linter.unusedVariables false

/-- A number as one with its sign. -/
def sgn (n : Nat) : Int := if n < 9223372036854775808 then n else (n : Int) - 18446744073709551616
theorem sgn_range {n : Nat} (h : n < 18446744073709551616) : -9223372036854775808 ≤ sgn n ∧ sgn n < 9223372036854775808 := by unfold sgn; split <;> omega
theorem wi_sgn {n : Nat} (h : n < 18446744073709551616) : IntKind.i64.wrap (n : Int) = sgn n := by rw [wi64]; unfold sgn; split <;> omega
theorem wu_sgn {n : Nat} (h : n < 18446744073709551616) : IntKind.u64.wrap (sgn n) = n := by rw [wu64]; unfold sgn; split <;> omega

/-- An operation's bytes behind its code. -/
def tail1 (x : OV) (way : Nat) : List UInt8 :=
  if shp x.code = 2 then leB 8 x.a
  else if shp x.code = 3 ∨ shp x.code = 4 then leB (szo x.code) x.a
  else if shp x.code = 5 then putU x.a
  else if shp x.code = 6 then putS (sgn x.a)
  else if shp x.code = 7 then leB 1 x.a
  else if shp x.code = 8 then leB 2 way
  else if shp x.code = 9 then putU x.a ++ putS (sgn x.b)
  else if shp x.code = 10 then putU x.a ++ putU x.b
  else if shp x.code = 11 then putU x.d.length ++ x.d
  else []
def put1 (x : OV) (way : Nat) : List UInt8 := UInt8.ofNat x.code.toNat :: tail1 x way
theorem put1_len {x : OV} (hx : x.In) (w : Nat) : (put1 x w).length ≤ x.d.length + 22 := by
  have ha := putU_le hx.a
  have hb := putU_le hx.b
  have hd := putU_le (n := x.d.length) (by have := hx.d; omega)
  have sa := putS_le (sgn_range hx.a)
  have sb := putS_le (sgn_range hx.b)
  unfold put1 tail1
  rw [List.length_cons]
  have hs := szo_or x.code
  repeat' split
  all_goals ((try simp only [leB_length, List.length_append, List.length_nil]); omega)
theorem put1_way (x : OV) (w w' : Nat) : (put1 x w).length = (put1 x w').length := by
  unfold put1 tail1
  rw [List.length_cons, List.length_cons]
  repeat' split
  all_goals first | rfl | simp only [leB_length]
theorem put1_no {x : OV} (h : shp x.code ≠ 8) (w w' : Nat) : put1 x w = put1 x w' := by
  unfold put1 tail1
  congr 1
  repeat' split
  all_goals first | rfl | exact absurd ‹shp x.code = 8› h

section
variable {H : Heap} {Q : A → Heap → Prop}
theorem one_spec {x : OV} {b : List UInt8} {k : Nat} (hx : x.In) (h0 : shp x.code ≠ 0) (hb : b.length < 70368744177000) (hk : k ≤ b.length) (h : Q (.sl (bA (b ++ put1 x 0)) (some k) ()) H) :
    AC Try.prog 77 [.sl (bA b) (some k) (), .agg x.cells] H Q := by
  obtain ⟨xa, xb, xd⟩ := id hx
  have hr := shp_range x.code
  have hcode := shp_code h0
  have hcn : x.code = ((x.code.toNat : Nat) : Int) := by omega
  have hu8 : IntKind.u8.wrap x.code = ((x.code.toNat : Nat) : Int) := by rw [hcn, u8_nat, Int.toNat_natCast]; congr 1; omega
  have e1 : bA b ++ ([V.int .u8 ((x.code.toNat : Nat) : Int)] : List A) = bA (b ++ [UInt8.ofNat x.code.toNat]) := bA_snoc b _ (by omega)
  have hl1 : (b ++ [UInt8.ofNat x.code.toNat]).length = b.length + 1 := by simp
  have f1 : b.length + 1 ≤ 140737488355328 := by omega
  have fk : k ≤ b.length + 1 := by omega
  have hcat : ∀ t, put1 x 0 = UInt8.ofNat x.code.toNat :: t → b ++ put1 x 0 = (b ++ [UInt8.ofNat x.code.toNat]) ++ t := by
    intro t e; rw [e]; simp
  refine AC.enter (E := env Try.prog 87 (fun t => if t == 5 || t == 16 || t == 23 || t == 32 || t == 38 || t == 45 || t == 53 || t == 58 || t == 68 || t == 77 || t == 86 then .take else .copy) (fun _ => false)) env_ok Try.func77 rfl rfl rfl (by simp only [List.length_cons, List.length_nil]; exact of_decide_eq_true rfl) ?_
  ((try first | refine walk_aw env_ok (none) ?_ | refine walk_aw envR_ok (none) ?_); try simp -implicitDefEqProofs (maxSteps := 1000000) only [go_sem, ↓reduceIte, reduceCtorEq, Nat.reduceLT, Nat.reduceEqDiff, Nat.reduceBEq, Nat.reduceAdd, Nat.reduceMul, Nat.reduceSub, Nat.reduceLeDiff, Int.reduceNeg, Int.reduceLT, Int.reduceLE, Int.reduceEq, Int.reduceAdd, Int.reduceToNat, hu8, e1, f1, hk])
  refine Shape_spec ?_
  by_cases cs : shp x.code = 1
  · have q2 : ¬ shp x.code = 2 := by omega
    have q3 : ¬ shp x.code = 3 := by omega
    have q4 : ¬ shp x.code = 4 := by omega
    have q5 : ¬ shp x.code = 5 := by omega
    have q6 : ¬ shp x.code = 6 := by omega
    have q7 : ¬ shp x.code = 7 := by omega
    have q8 : ¬ shp x.code = 8 := by omega
    have q9 : ¬ shp x.code = 9 := by omega
    have q10 : ¬ shp x.code = 10 := by omega
    have q11 : ¬ shp x.code = 11 := by omega
    have ht : tail1 x 0 = [] := by unfold tail1; repeat (first | rw [if_pos (by omega)] | rw [if_neg (by omega)])
    rw [hcat _ (by rw [put1, ht])] at h
    rw [List.append_nil] at h
    ((try first | refine walk_aw env_ok (none) ?_ | refine walk_aw envR_ok (none) ?_); try simp -implicitDefEqProofs (maxSteps := 1000000) only [go_sem, ↓reduceIte, reduceCtorEq, Nat.reduceLT, Nat.reduceEqDiff, Nat.reduceBEq, Nat.reduceAdd, Nat.reduceMul, Nat.reduceSub, Nat.reduceLeDiff, Int.reduceNeg, Int.reduceLT, Int.reduceLE, Int.reduceEq, Int.reduceAdd, Int.reduceToNat, q2, q3, q4, q5, q6, q7, q8, q9, q10, q11, f1, fk, hl1, Nat.zero_le])
    exact .inr h
  by_cases cs : shp x.code = 2
  · have q2 : (shp x.code = 2) = True := eq_true cs
    have q3 : ¬ shp x.code = 3 := by omega
    have q4 : ¬ shp x.code = 4 := by omega
    have q5 : ¬ shp x.code = 5 := by omega
    have q6 : ¬ shp x.code = 6 := by omega
    have q7 : ¬ shp x.code = 7 := by omega
    have q8 : ¬ shp x.code = 8 := by omega
    have q9 : ¬ shp x.code = 9 := by omega
    have q10 : ¬ shp x.code = 10 := by omega
    have q11 : ¬ shp x.code = 11 := by omega
    have ht : tail1 x 0 = leB 8 x.a := by unfold tail1; repeat (first | rw [if_pos (by omega)] | rw [if_neg (by omega)])
    rw [hcat _ (by rw [put1, ht])] at h
    ((try first | refine walk_aw env_ok (none) ?_ | refine walk_aw envR_ok (none) ?_); try simp -implicitDefEqProofs (maxSteps := 1000000) only [go_sem, ↓reduceIte, reduceCtorEq, Nat.reduceLT, Nat.reduceEqDiff, Nat.reduceBEq, Nat.reduceAdd, Nat.reduceMul, Nat.reduceSub, Nat.reduceLeDiff, Int.reduceNeg, Int.reduceLT, Int.reduceLE, Int.reduceEq, Int.reduceAdd, Int.reduceToNat, q2, q3, q4, q5, q6, q7, q8, q9, q10, q11, f1, fk, hl1, Nat.zero_le])
    refine cPut_spec (by rw [hl1]; omega) (by rw [hl1]; omega) xa ?_
    ((try first | refine walk_aw env_ok (none) ?_ | refine walk_aw envR_ok (none) ?_); try simp -implicitDefEqProofs (maxSteps := 1000000) only [go_sem, ↓reduceIte, reduceCtorEq, Nat.reduceLT, Nat.reduceEqDiff, Nat.reduceBEq, Nat.reduceAdd, Nat.reduceMul, Nat.reduceSub, Nat.reduceLeDiff, Int.reduceNeg, Int.reduceLT, Int.reduceLE, Int.reduceEq, Int.reduceAdd, Int.reduceToNat, q2, q3, q4, q5, q6, q7, q8, q9, q10, q11, f1, fk, hl1, Nat.zero_le])
    exact .inr h
  by_cases cs : shp x.code = 3
  · have q2 : ¬ shp x.code = 2 := by omega
    have q3 : (shp x.code = 3) = True := eq_true cs
    have q4 : ¬ shp x.code = 4 := by omega
    have q5 : ¬ shp x.code = 5 := by omega
    have q6 : ¬ shp x.code = 6 := by omega
    have q7 : ¬ shp x.code = 7 := by omega
    have q8 : ¬ shp x.code = 8 := by omega
    have q9 : ¬ shp x.code = 9 := by omega
    have q10 : ¬ shp x.code = 10 := by omega
    have q11 : ¬ shp x.code = 11 := by omega
    have ht : tail1 x 0 = leB (szo x.code) x.a := by unfold tail1; repeat (first | rw [if_pos (by omega)] | rw [if_neg (by omega)])
    rw [hcat _ (by rw [put1, ht])] at h
    have hc := shp_plain (c := x.code) (by omega)
    have hsz := szo_or x.code
    have hm : (min (max ((szo x.code : Nat) : Int) 0) 8).toNat = szo x.code := by rcases hsz with e | e | e | e <;> rw [e] <;> rfl
    ((try first | refine walk_aw env_ok (none) ?_ | refine walk_aw envR_ok (none) ?_); try simp -implicitDefEqProofs (maxSteps := 1000000) only [go_sem, ↓reduceIte, reduceCtorEq, Nat.reduceLT, Nat.reduceEqDiff, Nat.reduceBEq, Nat.reduceAdd, Nat.reduceMul, Nat.reduceSub, Nat.reduceLeDiff, Int.reduceNeg, Int.reduceLT, Int.reduceLE, Int.reduceEq, Int.reduceAdd, Int.reduceToNat, q2, q3, q4, q5, q6, q7, q8, q9, q10, q11, f1, fk, hl1, Nat.zero_le])
    refine AW.chain env_ok [0, 0, 2, 0, 8, 24, 63, 127] [1, 2, 3, 4, 5] [(0, [1, 2, 3, 4, 5], []), (6, [], []), (7, [], [])] mixed (by decide) ?_
    ((try first | refine walk_aw env_ok (none) ?_ | refine walk_aw envR_ok (none) ?_); try simp -implicitDefEqProofs (maxSteps := 1000000) only [go_sem, ↓reduceIte, reduceCtorEq, Nat.reduceLT, Nat.reduceEqDiff, Nat.reduceBEq, Nat.reduceAdd, Nat.reduceMul, Nat.reduceSub, Nat.reduceLeDiff, Int.reduceNeg, Int.reduceLT, Int.reduceLE, Int.reduceEq, Int.reduceAdd, Int.reduceToNat, q2, q3, q4, q5, q6, q7, q8, q9, q10, q11, f1, fk, hl1, Nat.zero_le])
    refine QC.mk (osize_spec hc ⟨rfl, rfl⟩) ?_
    ((try first | refine walk_aw env_ok (none) ?_ | refine walk_aw envR_ok (none) ?_); try simp -implicitDefEqProofs (maxSteps := 1000000) only [go_sem, ↓reduceIte, reduceCtorEq, Nat.reduceLT, Nat.reduceEqDiff, Nat.reduceBEq, Nat.reduceAdd, Nat.reduceMul, Nat.reduceSub, Nat.reduceLeDiff, Int.reduceNeg, Int.reduceLT, Int.reduceLE, Int.reduceEq, Int.reduceAdd, Int.reduceToNat, q2, q3, q4, q5, q6, q7, q8, q9, q10, q11, f1, fk, hl1, Nat.zero_le])
    refine And.intro (QC.mk (osize_spec hc ⟨rfl, rfl⟩) (by ((try first | refine walk_aw env_ok (none) ?_ | refine walk_aw envR_ok (none) ?_); try simp -implicitDefEqProofs (maxSteps := 1000000) only [go_sem, ↓reduceIte, reduceCtorEq, Nat.reduceLT, Nat.reduceEqDiff, Nat.reduceBEq, Nat.reduceAdd, Nat.reduceMul, Nat.reduceSub, Nat.reduceLeDiff, Int.reduceNeg, Int.reduceLT, Int.reduceLE, Int.reduceEq, Int.reduceAdd, Int.reduceToNat, q2, q3, q4, q5, q6, q7, q8, q9, q10, q11]))) ?_
    ((try first | refine walk_aw env_ok (none) ?_ | refine walk_aw envR_ok (none) ?_); try simp -implicitDefEqProofs (maxSteps := 1000000) only [go_sem, ↓reduceIte, reduceCtorEq, Nat.reduceLT, Nat.reduceEqDiff, Nat.reduceBEq, Nat.reduceAdd, Nat.reduceMul, Nat.reduceSub, Nat.reduceLeDiff, Int.reduceNeg, Int.reduceLT, Int.reduceLE, Int.reduceEq, Int.reduceAdd, Int.reduceToNat, q2, q3, q4, q5, q6, q7, q8, q9, q10, q11, f1, fk, hl1, Nat.zero_le])
    refine cPut_spec (by rw [hl1]; omega) (by rw [hl1]; omega) xa ?_
    rw [hm]
    ((try first | refine walk_aw env_ok (none) ?_ | refine walk_aw envR_ok (none) ?_); try simp -implicitDefEqProofs (maxSteps := 1000000) only [go_sem, ↓reduceIte, reduceCtorEq, Nat.reduceLT, Nat.reduceEqDiff, Nat.reduceBEq, Nat.reduceAdd, Nat.reduceMul, Nat.reduceSub, Nat.reduceLeDiff, Int.reduceNeg, Int.reduceLT, Int.reduceLE, Int.reduceEq, Int.reduceAdd, Int.reduceToNat, q2, q3, q4, q5, q6, q7, q8, q9, q10, q11, f1, fk, hl1, Nat.zero_le])
    exact .inr h
  by_cases cs : shp x.code = 4
  · have q2 : ¬ shp x.code = 2 := by omega
    have q3 : ¬ shp x.code = 3 := by omega
    have q4 : (shp x.code = 4) = True := eq_true cs
    have q5 : ¬ shp x.code = 5 := by omega
    have q6 : ¬ shp x.code = 6 := by omega
    have q7 : ¬ shp x.code = 7 := by omega
    have q8 : ¬ shp x.code = 8 := by omega
    have q9 : ¬ shp x.code = 9 := by omega
    have q10 : ¬ shp x.code = 10 := by omega
    have q11 : ¬ shp x.code = 11 := by omega
    have ht : tail1 x 0 = leB (szo x.code) x.a := by unfold tail1; repeat (first | rw [if_pos (by omega)] | rw [if_neg (by omega)])
    rw [hcat _ (by rw [put1, ht])] at h
    have hc := shp_plain (c := x.code) (by omega)
    have hsz := szo_or x.code
    have hm : (min (max ((szo x.code : Nat) : Int) 0) 8).toNat = szo x.code := by rcases hsz with e | e | e | e <;> rw [e] <;> rfl
    ((try first | refine walk_aw env_ok (none) ?_ | refine walk_aw envR_ok (none) ?_); try simp -implicitDefEqProofs (maxSteps := 1000000) only [go_sem, ↓reduceIte, reduceCtorEq, Nat.reduceLT, Nat.reduceEqDiff, Nat.reduceBEq, Nat.reduceAdd, Nat.reduceMul, Nat.reduceSub, Nat.reduceLeDiff, Int.reduceNeg, Int.reduceLT, Int.reduceLE, Int.reduceEq, Int.reduceAdd, Int.reduceToNat, q2, q3, q4, q5, q6, q7, q8, q9, q10, q11, f1, fk, hl1, Nat.zero_le])
    refine AW.chain env_ok [0, 0, 2, 0, 8, 24, 63, 127] [1, 2, 3, 4, 5] [(0, [1, 2, 3, 4, 5], []), (6, [], []), (7, [], [])] mixed (by decide) ?_
    ((try first | refine walk_aw env_ok (none) ?_ | refine walk_aw envR_ok (none) ?_); try simp -implicitDefEqProofs (maxSteps := 1000000) only [go_sem, ↓reduceIte, reduceCtorEq, Nat.reduceLT, Nat.reduceEqDiff, Nat.reduceBEq, Nat.reduceAdd, Nat.reduceMul, Nat.reduceSub, Nat.reduceLeDiff, Int.reduceNeg, Int.reduceLT, Int.reduceLE, Int.reduceEq, Int.reduceAdd, Int.reduceToNat, q2, q3, q4, q5, q6, q7, q8, q9, q10, q11, f1, fk, hl1, Nat.zero_le])
    refine QC.mk (osize_spec hc ⟨rfl, rfl⟩) ?_
    ((try first | refine walk_aw env_ok (none) ?_ | refine walk_aw envR_ok (none) ?_); try simp -implicitDefEqProofs (maxSteps := 1000000) only [go_sem, ↓reduceIte, reduceCtorEq, Nat.reduceLT, Nat.reduceEqDiff, Nat.reduceBEq, Nat.reduceAdd, Nat.reduceMul, Nat.reduceSub, Nat.reduceLeDiff, Int.reduceNeg, Int.reduceLT, Int.reduceLE, Int.reduceEq, Int.reduceAdd, Int.reduceToNat, q2, q3, q4, q5, q6, q7, q8, q9, q10, q11, f1, fk, hl1, Nat.zero_le])
    refine And.intro (QC.mk (osize_spec hc ⟨rfl, rfl⟩) (by ((try first | refine walk_aw env_ok (none) ?_ | refine walk_aw envR_ok (none) ?_); try simp -implicitDefEqProofs (maxSteps := 1000000) only [go_sem, ↓reduceIte, reduceCtorEq, Nat.reduceLT, Nat.reduceEqDiff, Nat.reduceBEq, Nat.reduceAdd, Nat.reduceMul, Nat.reduceSub, Nat.reduceLeDiff, Int.reduceNeg, Int.reduceLT, Int.reduceLE, Int.reduceEq, Int.reduceAdd, Int.reduceToNat, q2, q3, q4, q5, q6, q7, q8, q9, q10, q11]))) ?_
    ((try first | refine walk_aw env_ok (none) ?_ | refine walk_aw envR_ok (none) ?_); try simp -implicitDefEqProofs (maxSteps := 1000000) only [go_sem, ↓reduceIte, reduceCtorEq, Nat.reduceLT, Nat.reduceEqDiff, Nat.reduceBEq, Nat.reduceAdd, Nat.reduceMul, Nat.reduceSub, Nat.reduceLeDiff, Int.reduceNeg, Int.reduceLT, Int.reduceLE, Int.reduceEq, Int.reduceAdd, Int.reduceToNat, q2, q3, q4, q5, q6, q7, q8, q9, q10, q11, f1, fk, hl1, Nat.zero_le])
    refine cPut_spec (by rw [hl1]; omega) (by rw [hl1]; omega) xa ?_
    rw [hm]
    ((try first | refine walk_aw env_ok (none) ?_ | refine walk_aw envR_ok (none) ?_); try simp -implicitDefEqProofs (maxSteps := 1000000) only [go_sem, ↓reduceIte, reduceCtorEq, Nat.reduceLT, Nat.reduceEqDiff, Nat.reduceBEq, Nat.reduceAdd, Nat.reduceMul, Nat.reduceSub, Nat.reduceLeDiff, Int.reduceNeg, Int.reduceLT, Int.reduceLE, Int.reduceEq, Int.reduceAdd, Int.reduceToNat, q2, q3, q4, q5, q6, q7, q8, q9, q10, q11, f1, fk, hl1, Nat.zero_le])
    exact .inr h
  by_cases cs : shp x.code = 5
  · have q2 : ¬ shp x.code = 2 := by omega
    have q3 : ¬ shp x.code = 3 := by omega
    have q4 : ¬ shp x.code = 4 := by omega
    have q5 : (shp x.code = 5) = True := eq_true cs
    have q6 : ¬ shp x.code = 6 := by omega
    have q7 : ¬ shp x.code = 7 := by omega
    have q8 : ¬ shp x.code = 8 := by omega
    have q9 : ¬ shp x.code = 9 := by omega
    have q10 : ¬ shp x.code = 10 := by omega
    have q11 : ¬ shp x.code = 11 := by omega
    have ht : tail1 x 0 = putU x.a := by unfold tail1; repeat (first | rw [if_pos (by omega)] | rw [if_neg (by omega)])
    rw [hcat _ (by rw [put1, ht])] at h
    ((try first | refine walk_aw env_ok (none) ?_ | refine walk_aw envR_ok (none) ?_); try simp -implicitDefEqProofs (maxSteps := 1000000) only [go_sem, ↓reduceIte, reduceCtorEq, Nat.reduceLT, Nat.reduceEqDiff, Nat.reduceBEq, Nat.reduceAdd, Nat.reduceMul, Nat.reduceSub, Nat.reduceLeDiff, Int.reduceNeg, Int.reduceLT, Int.reduceLE, Int.reduceEq, Int.reduceAdd, Int.reduceToNat, q2, q3, q4, q5, q6, q7, q8, q9, q10, q11, f1, fk, hl1, Nat.zero_le])
    refine PutU_spec (by rw [hl1]; omega) (by rw [hl1]; omega) xa ?_
    ((try first | refine walk_aw env_ok (none) ?_ | refine walk_aw envR_ok (none) ?_); try simp -implicitDefEqProofs (maxSteps := 1000000) only [go_sem, ↓reduceIte, reduceCtorEq, Nat.reduceLT, Nat.reduceEqDiff, Nat.reduceBEq, Nat.reduceAdd, Nat.reduceMul, Nat.reduceSub, Nat.reduceLeDiff, Int.reduceNeg, Int.reduceLT, Int.reduceLE, Int.reduceEq, Int.reduceAdd, Int.reduceToNat, q2, q3, q4, q5, q6, q7, q8, q9, q10, q11, f1, fk, hl1, Nat.zero_le])
    exact .inr h
  by_cases cs : shp x.code = 6
  · have q2 : ¬ shp x.code = 2 := by omega
    have q3 : ¬ shp x.code = 3 := by omega
    have q4 : ¬ shp x.code = 4 := by omega
    have q5 : ¬ shp x.code = 5 := by omega
    have q6 : (shp x.code = 6) = True := eq_true cs
    have q7 : ¬ shp x.code = 7 := by omega
    have q8 : ¬ shp x.code = 8 := by omega
    have q9 : ¬ shp x.code = 9 := by omega
    have q10 : ¬ shp x.code = 10 := by omega
    have q11 : ¬ shp x.code = 11 := by omega
    have ht : tail1 x 0 = putS (sgn x.a) := by unfold tail1; repeat (first | rw [if_pos (by omega)] | rw [if_neg (by omega)])
    rw [hcat _ (by rw [put1, ht])] at h
    have hws := wi_sgn xa
    ((try first | refine walk_aw env_ok (none) ?_ | refine walk_aw envR_ok (none) ?_); try simp -implicitDefEqProofs (maxSteps := 1000000) only [go_sem, ↓reduceIte, reduceCtorEq, Nat.reduceLT, Nat.reduceEqDiff, Nat.reduceBEq, Nat.reduceAdd, Nat.reduceMul, Nat.reduceSub, Nat.reduceLeDiff, Int.reduceNeg, Int.reduceLT, Int.reduceLE, Int.reduceEq, Int.reduceAdd, Int.reduceToNat, q2, q3, q4, q5, q6, q7, q8, q9, q10, q11, f1, fk, hl1, Nat.zero_le, hws])
    refine PutS_spec (by rw [hl1]; omega) (by rw [hl1]; omega) (sgn_range xa) ?_
    ((try first | refine walk_aw env_ok (none) ?_ | refine walk_aw envR_ok (none) ?_); try simp -implicitDefEqProofs (maxSteps := 1000000) only [go_sem, ↓reduceIte, reduceCtorEq, Nat.reduceLT, Nat.reduceEqDiff, Nat.reduceBEq, Nat.reduceAdd, Nat.reduceMul, Nat.reduceSub, Nat.reduceLeDiff, Int.reduceNeg, Int.reduceLT, Int.reduceLE, Int.reduceEq, Int.reduceAdd, Int.reduceToNat, q2, q3, q4, q5, q6, q7, q8, q9, q10, q11, f1, fk, hl1, Nat.zero_le])
    exact .inr h
  by_cases cs : shp x.code = 7
  · have q2 : ¬ shp x.code = 2 := by omega
    have q3 : ¬ shp x.code = 3 := by omega
    have q4 : ¬ shp x.code = 4 := by omega
    have q5 : ¬ shp x.code = 5 := by omega
    have q6 : ¬ shp x.code = 6 := by omega
    have q7 : (shp x.code = 7) = True := eq_true cs
    have q8 : ¬ shp x.code = 8 := by omega
    have q9 : ¬ shp x.code = 9 := by omega
    have q10 : ¬ shp x.code = 10 := by omega
    have q11 : ¬ shp x.code = 11 := by omega
    have ht : tail1 x 0 = leB 1 x.a := by unfold tail1; repeat (first | rw [if_pos (by omega)] | rw [if_neg (by omega)])
    rw [hcat _ (by rw [put1, ht])] at h
    have hu : IntKind.u8.wrap (x.a : Int) = ((x.a % 256 : Nat) : Int) := u8_nat _
    have e2 : bA (b ++ [UInt8.ofNat x.code.toNat]) ++ ([V.int .u8 ((x.a % 256 : Nat) : Int)] : List A) = bA ((b ++ [UInt8.ofNat x.code.toNat]) ++ leB 1 x.a) := by rw [bA_snoc _ _ (Nat.mod_lt _ (by decide))]; rfl
    have f2 : b.length + 1 + 1 ≤ 140737488355328 := by omega
    ((try first | refine walk_aw env_ok (none) ?_ | refine walk_aw envR_ok (none) ?_); try simp -implicitDefEqProofs (maxSteps := 1000000) only [go_sem, ↓reduceIte, reduceCtorEq, Nat.reduceLT, Nat.reduceEqDiff, Nat.reduceBEq, Nat.reduceAdd, Nat.reduceMul, Nat.reduceSub, Nat.reduceLeDiff, Int.reduceNeg, Int.reduceLT, Int.reduceLE, Int.reduceEq, Int.reduceAdd, Int.reduceToNat, q2, q3, q4, q5, q6, q7, q8, q9, q10, q11, f1, fk, hl1, Nat.zero_le, hu, e2, f2])
    exact .inr h
  by_cases cs : shp x.code = 8
  · have q2 : ¬ shp x.code = 2 := by omega
    have q3 : ¬ shp x.code = 3 := by omega
    have q4 : ¬ shp x.code = 4 := by omega
    have q5 : ¬ shp x.code = 5 := by omega
    have q6 : ¬ shp x.code = 6 := by omega
    have q7 : ¬ shp x.code = 7 := by omega
    have q8 : (shp x.code = 8) = True := eq_true cs
    have q9 : ¬ shp x.code = 9 := by omega
    have q10 : ¬ shp x.code = 10 := by omega
    have q11 : ¬ shp x.code = 11 := by omega
    have ht : tail1 x 0 = leB 2 0 := by unfold tail1; repeat (first | rw [if_pos (by omega)] | rw [if_neg (by omega)])
    rw [hcat _ (by rw [put1, ht])] at h
    have e2 : bA (b ++ [UInt8.ofNat x.code.toNat]) ++ ([V.int .u8 0, V.int .u8 0] : List A) = bA ((b ++ [UInt8.ofNat x.code.toNat]) ++ leB 2 0) := by simp [bA, byteA, leB]
    have f2 : b.length + 1 + 2 ≤ 140737488355328 := by omega
    have u2 : Uni 1 ([V.int .u8 0, V.int .u8 0] : List A) = true := rfl
    ((try first | refine walk_aw env_ok (none) ?_ | refine walk_aw envR_ok (none) ?_); try simp -implicitDefEqProofs (maxSteps := 1000000) only [go_sem, ↓reduceIte, reduceCtorEq, Nat.reduceLT, Nat.reduceEqDiff, Nat.reduceBEq, Nat.reduceAdd, Nat.reduceMul, Nat.reduceSub, Nat.reduceLeDiff, Int.reduceNeg, Int.reduceLT, Int.reduceLE, Int.reduceEq, Int.reduceAdd, Int.reduceToNat, q2, q3, q4, q5, q6, q7, q8, q9, q10, q11, f1, fk, hl1, Nat.zero_le, e2, f2, u2])
    exact .inr h
  by_cases cs : shp x.code = 9
  · have q2 : ¬ shp x.code = 2 := by omega
    have q3 : ¬ shp x.code = 3 := by omega
    have q4 : ¬ shp x.code = 4 := by omega
    have q5 : ¬ shp x.code = 5 := by omega
    have q6 : ¬ shp x.code = 6 := by omega
    have q7 : ¬ shp x.code = 7 := by omega
    have q8 : ¬ shp x.code = 8 := by omega
    have q9 : (shp x.code = 9) = True := eq_true cs
    have q10 : ¬ shp x.code = 10 := by omega
    have q11 : ¬ shp x.code = 11 := by omega
    have ht : tail1 x 0 = putU x.a ++ putS (sgn x.b) := by unfold tail1; repeat (first | rw [if_pos (by omega)] | rw [if_neg (by omega)])
    rw [hcat _ (by rw [put1, ht])] at h
    rw [← List.append_assoc] at h
    have hws := wi_sgn xb
    have hu1 := putU_le xa
    ((try first | refine walk_aw env_ok (none) ?_ | refine walk_aw envR_ok (none) ?_); try simp -implicitDefEqProofs (maxSteps := 1000000) only [go_sem, ↓reduceIte, reduceCtorEq, Nat.reduceLT, Nat.reduceEqDiff, Nat.reduceBEq, Nat.reduceAdd, Nat.reduceMul, Nat.reduceSub, Nat.reduceLeDiff, Int.reduceNeg, Int.reduceLT, Int.reduceLE, Int.reduceEq, Int.reduceAdd, Int.reduceToNat, q2, q3, q4, q5, q6, q7, q8, q9, q10, q11, f1, fk, hl1, Nat.zero_le, hws])
    refine AW.chain env_ok [0, 0, 2, 7, 0, 16, 48, 127, 255] [1, 2, 4, 5, 6] [(0, [1, 2, 4, 5, 6], []), (3, [4, 5, 6], []), (7, [], []), (8, [], [])] mixed (by decide) ?_
    ((try first | refine walk_aw env_ok (none) ?_ | refine walk_aw envR_ok (none) ?_); try simp -implicitDefEqProofs (maxSteps := 1000000) only [go_sem, ↓reduceIte, reduceCtorEq, Nat.reduceLT, Nat.reduceEqDiff, Nat.reduceBEq, Nat.reduceAdd, Nat.reduceMul, Nat.reduceSub, Nat.reduceLeDiff, Int.reduceNeg, Int.reduceLT, Int.reduceLE, Int.reduceEq, Int.reduceAdd, Int.reduceToNat, q2, q3, q4, q5, q6, q7, q8, q9, q10, q11, f1, fk, hl1, Nat.zero_le, hws])
    refine PutU_spec (by rw [hl1]; omega) (by rw [hl1]; omega) xa ?_
    ((try first | refine walk_aw env_ok (none) ?_ | refine walk_aw envR_ok (none) ?_); try simp -implicitDefEqProofs (maxSteps := 1000000) only [go_sem, ↓reduceIte, reduceCtorEq, Nat.reduceLT, Nat.reduceEqDiff, Nat.reduceBEq, Nat.reduceAdd, Nat.reduceMul, Nat.reduceSub, Nat.reduceLeDiff, Int.reduceNeg, Int.reduceLT, Int.reduceLE, Int.reduceEq, Int.reduceAdd, Int.reduceToNat, q2, q3, q4, q5, q6, q7, q8, q9, q10, q11, f1, fk, hl1, Nat.zero_le, hws])
    refine PutS_spec (by rw [List.length_append, hl1]; omega) (by rw [List.length_append, hl1]; omega) (sgn_range xb) ?_
    ((try first | refine walk_aw env_ok (none) ?_ | refine walk_aw envR_ok (none) ?_); try simp -implicitDefEqProofs (maxSteps := 1000000) only [go_sem, ↓reduceIte, reduceCtorEq, Nat.reduceLT, Nat.reduceEqDiff, Nat.reduceBEq, Nat.reduceAdd, Nat.reduceMul, Nat.reduceSub, Nat.reduceLeDiff, Int.reduceNeg, Int.reduceLT, Int.reduceLE, Int.reduceEq, Int.reduceAdd, Int.reduceToNat, q2, q3, q4, q5, q6, q7, q8, q9, q10, q11, f1, fk, hl1, Nat.zero_le])
    exact .inr h
  by_cases cs : shp x.code = 10
  · have q2 : ¬ shp x.code = 2 := by omega
    have q3 : ¬ shp x.code = 3 := by omega
    have q4 : ¬ shp x.code = 4 := by omega
    have q5 : ¬ shp x.code = 5 := by omega
    have q6 : ¬ shp x.code = 6 := by omega
    have q7 : ¬ shp x.code = 7 := by omega
    have q8 : ¬ shp x.code = 8 := by omega
    have q9 : ¬ shp x.code = 9 := by omega
    have q10 : (shp x.code = 10) = True := eq_true cs
    have q11 : ¬ shp x.code = 11 := by omega
    have ht : tail1 x 0 = putU x.a ++ putU x.b := by unfold tail1; repeat (first | rw [if_pos (by omega)] | rw [if_neg (by omega)])
    rw [hcat _ (by rw [put1, ht])] at h
    rw [← List.append_assoc] at h
    have hu1 := putU_le xa
    ((try first | refine walk_aw env_ok (none) ?_ | refine walk_aw envR_ok (none) ?_); try simp -implicitDefEqProofs (maxSteps := 1000000) only [go_sem, ↓reduceIte, reduceCtorEq, Nat.reduceLT, Nat.reduceEqDiff, Nat.reduceBEq, Nat.reduceAdd, Nat.reduceMul, Nat.reduceSub, Nat.reduceLeDiff, Int.reduceNeg, Int.reduceLT, Int.reduceLE, Int.reduceEq, Int.reduceAdd, Int.reduceToNat, q2, q3, q4, q5, q6, q7, q8, q9, q10, q11, f1, fk, hl1, Nat.zero_le])
    refine AW.chain env_ok [0, 0, 2, 7, 0, 16, 63, 127] [1, 2, 4, 5] [(0, [1, 2, 4, 5], []), (3, [4, 5], []), (6, [], []), (7, [], [])] mixed (by decide) ?_
    ((try first | refine walk_aw env_ok (none) ?_ | refine walk_aw envR_ok (none) ?_); try simp -implicitDefEqProofs (maxSteps := 1000000) only [go_sem, ↓reduceIte, reduceCtorEq, Nat.reduceLT, Nat.reduceEqDiff, Nat.reduceBEq, Nat.reduceAdd, Nat.reduceMul, Nat.reduceSub, Nat.reduceLeDiff, Int.reduceNeg, Int.reduceLT, Int.reduceLE, Int.reduceEq, Int.reduceAdd, Int.reduceToNat, q2, q3, q4, q5, q6, q7, q8, q9, q10, q11, f1, fk, hl1, Nat.zero_le])
    refine PutU_spec (by rw [hl1]; omega) (by rw [hl1]; omega) xa ?_
    ((try first | refine walk_aw env_ok (none) ?_ | refine walk_aw envR_ok (none) ?_); try simp -implicitDefEqProofs (maxSteps := 1000000) only [go_sem, ↓reduceIte, reduceCtorEq, Nat.reduceLT, Nat.reduceEqDiff, Nat.reduceBEq, Nat.reduceAdd, Nat.reduceMul, Nat.reduceSub, Nat.reduceLeDiff, Int.reduceNeg, Int.reduceLT, Int.reduceLE, Int.reduceEq, Int.reduceAdd, Int.reduceToNat, q2, q3, q4, q5, q6, q7, q8, q9, q10, q11, f1, fk, hl1, Nat.zero_le])
    refine PutU_spec (by rw [List.length_append, hl1]; omega) (by rw [List.length_append, hl1]; omega) xb ?_
    ((try first | refine walk_aw env_ok (none) ?_ | refine walk_aw envR_ok (none) ?_); try simp -implicitDefEqProofs (maxSteps := 1000000) only [go_sem, ↓reduceIte, reduceCtorEq, Nat.reduceLT, Nat.reduceEqDiff, Nat.reduceBEq, Nat.reduceAdd, Nat.reduceMul, Nat.reduceSub, Nat.reduceLeDiff, Int.reduceNeg, Int.reduceLT, Int.reduceLE, Int.reduceEq, Int.reduceAdd, Int.reduceToNat, q2, q3, q4, q5, q6, q7, q8, q9, q10, q11, f1, fk, hl1, Nat.zero_le])
    exact .inr h
  have cs : shp x.code = 11 := by omega
  have q2 : ¬ shp x.code = 2 := by omega
  have q3 : ¬ shp x.code = 3 := by omega
  have q4 : ¬ shp x.code = 4 := by omega
  have q5 : ¬ shp x.code = 5 := by omega
  have q6 : ¬ shp x.code = 6 := by omega
  have q7 : ¬ shp x.code = 7 := by omega
  have q8 : ¬ shp x.code = 8 := by omega
  have q9 : ¬ shp x.code = 9 := by omega
  have q10 : ¬ shp x.code = 10 := by omega
  have q11 : (shp x.code = 11) = True := eq_true cs
  have ht : tail1 x 0 = putU x.d.length ++ x.d := by unfold tail1; repeat (first | rw [if_pos (by omega)] | rw [if_neg (by omega)])
  rw [hcat _ (by rw [put1, ht])] at h
  have hud : (x.d.length : Nat) < 18446744073709551616 := by omega
  have hu1 := putU_le hud
  have hwl : IntKind.u64.wrap (x.d.length : Int) = x.d.length := by rw [wu64]; omega
  ((try first | refine walk_aw env_ok (none) ?_ | refine walk_aw envR_ok (none) ?_); try simp -implicitDefEqProofs (maxSteps := 1000000) only [go_sem, ↓reduceIte, reduceCtorEq, Nat.reduceLT, Nat.reduceEqDiff, Nat.reduceBEq, Nat.reduceAdd, Nat.reduceMul, Nat.reduceSub, Nat.reduceLeDiff, Int.reduceNeg, Int.reduceLT, Int.reduceLE, Int.reduceEq, Int.reduceAdd, Int.reduceToNat, q2, q3, q4, q5, q6, q7, q8, q9, q10, q11, f1, fk, hl1, Nat.zero_le, hwl])
  refine AW.chain env_ok [0, 0, 2, 6, 14, 31, 0, 64, 255, 511] [1, 2, 3, 4, 6, 7] [(0, [1, 2, 3, 4, 6, 7], []), (5, [6, 7], []), (8, [], []), (9, [], [])] mixed (by decide) ?_
  ((try first | refine walk_aw env_ok (none) ?_ | refine walk_aw envR_ok (none) ?_); try simp -implicitDefEqProofs (maxSteps := 1000000) only [go_sem, ↓reduceIte, reduceCtorEq, Nat.reduceLT, Nat.reduceEqDiff, Nat.reduceBEq, Nat.reduceAdd, Nat.reduceMul, Nat.reduceSub, Nat.reduceLeDiff, Int.reduceNeg, Int.reduceLT, Int.reduceLE, Int.reduceEq, Int.reduceAdd, Int.reduceToNat, q2, q3, q4, q5, q6, q7, q8, q9, q10, q11, f1, fk, hl1, Nat.zero_le, hwl])
  refine PutU_spec (by rw [hl1]; omega) (by rw [hl1]; omega) hud ?_
  rw [← List.append_assoc] at h
  have f2 : ((b ++ [UInt8.ofNat x.code.toNat]) ++ putU x.d.length).length + x.d.length ≤ 140737488355328 := by rw [List.length_append, hl1]; omega
  have f3 : k ≤ ((b ++ [UInt8.ofNat x.code.toNat]) ++ putU x.d.length).length := by rw [List.length_append, hl1]; omega
  have e2 : bA ((b ++ [UInt8.ofNat x.code.toNat]) ++ putU x.d.length) ++ bA x.d = bA (((b ++ [UInt8.ofNat x.code.toNat]) ++ putU x.d.length) ++ x.d) := by simp [bA]
  ((try first | refine walk_aw env_ok (none) ?_ | refine walk_aw envR_ok (none) ?_); try simp -implicitDefEqProofs (maxSteps := 1000000) only [go_sem, ↓reduceIte, reduceCtorEq, Nat.reduceLT, Nat.reduceEqDiff, Nat.reduceBEq, Nat.reduceAdd, Nat.reduceMul, Nat.reduceSub, Nat.reduceLeDiff, Int.reduceNeg, Int.reduceLT, Int.reduceLE, Int.reduceEq, Int.reduceAdd, Int.reduceToNat, q2, q3, q4, q5, q6, q7, q8, q9, q10, q11, hwl, f2, f3, e2])
  exact .inr h
end
end Go.Ab
end

section
/- The document's operations that are put, one by one. -/
namespace Go.Ab
open V Go.Proofs
set_option maxHeartbeats 8000000
set_option maxRecDepth 10000
set_option linter.unusedSimpArgs false
set_option linter.unusedVariables false

section
variable {H : Heap} {Q : A → Heap → Prop}
theorem rput_spec {x : OV} {w : Nat} (hx : x.In) (h0 : shp x.code ≠ 0) (hw : w < 18446744073709551616) (h : Q (.sl (bA (put1 x w)) (some 0) ()) H) :
    AC Try.prog 46 [.agg x.cells, .int .u64 w] H Q := by
  obtain ⟨xa, xb, xd⟩ := id hx
  have hr := shp_range x.code
  have hcode := shp_code h0
  have hcn : x.code = ((x.code.toNat : Nat) : Int) := by omega
  have hu8 : IntKind.u8.wrap x.code = ((x.code.toNat : Nat) : Int) := by rw [hcn, u8_nat, Int.toNat_natCast]; congr 1; omega
  have e0 : ([V.int .u8 ((x.code.toNat : Nat) : Int)] : List A) = bA [UInt8.ofNat x.code.toNat] := bA_snoc [] _ (by omega)
  have hl1 : ([UInt8.ofNat x.code.toNat] : List UInt8).length = 1 := rfl
  have hcat : ∀ t, tail1 x w = t → put1 x w = UInt8.ofNat x.code.toNat :: t := by
    intro t e; rw [put1, e]
  have hcons : ∀ l : List UInt8, V.int .u8 ((x.code.toNat : Nat) : Int) :: bA l = bA (UInt8.ofNat x.code.toNat :: l) := fun l => by
    show _ = byteA _ :: bA l
    rw [byteA, UInt8.toNat_ofNat']; congr 2; omega
  have bapp : ∀ a b : List UInt8, bA a ++ bA b = bA (a ++ b) := fun a b => by simp [bA]
  refine AC.enter (E := env Try.prog 99 (fun t => if t == 15 || t == 23 || t == 33 || t == 40 || t == 48 || t == 56 || t == 62 || t == 67 || t == 75 || t == 80 || t == 87 || t == 94 || t == 98 then .take else .copy) (fun _ => false)) env_ok Try.func46 rfl rfl rfl (by simp only [List.length_cons, List.length_nil]; exact of_decide_eq_true rfl) ?_
  ((try first | refine walk_aw env_ok (none) ?_ | refine walk_aw envR_ok (none) ?_); try simp -implicitDefEqProofs (maxSteps := 1000000) only [go_sem, ↓reduceIte, reduceCtorEq, Nat.reduceLT, Nat.reduceEqDiff, Nat.reduceBEq, Nat.reduceAdd, Nat.reduceMul, Nat.reduceSub, Nat.reduceLeDiff, Int.reduceNeg, Int.reduceLT, Int.reduceLE, Int.reduceEq, Int.reduceAdd, Int.reduceToNat, hu8])
  refine rShape_spec ?_
  by_cases cs : shp x.code = 1
  · have q2 : ¬ shp x.code = 2 := by omega
    have q3 : ¬ shp x.code = 3 := by omega
    have q4 : ¬ shp x.code = 4 := by omega
    have q5 : ¬ shp x.code = 5 := by omega
    have q6 : ¬ shp x.code = 6 := by omega
    have q7 : ¬ shp x.code = 7 := by omega
    have q8 : ¬ shp x.code = 8 := by omega
    have q9 : ¬ shp x.code = 9 := by omega
    have q10 : ¬ shp x.code = 10 := by omega
    have q11 : ¬ shp x.code = 11 := by omega
    have ht : tail1 x w = [] := by unfold tail1; repeat (first | rw [if_pos (by omega)] | rw [if_neg (by omega)])
    rw [hcat _ ht] at h
    rw [← e0] at h
    ((try first | refine walk_aw env_ok (none) ?_ | refine walk_aw envR_ok (none) ?_); try simp -implicitDefEqProofs (maxSteps := 1000000) only [go_sem, ↓reduceIte, reduceCtorEq, Nat.reduceLT, Nat.reduceEqDiff, Nat.reduceBEq, Nat.reduceAdd, Nat.reduceMul, Nat.reduceSub, Nat.reduceLeDiff, Int.reduceNeg, Int.reduceLT, Int.reduceLE, Int.reduceEq, Int.reduceAdd, Int.reduceToNat, q2, q3, q4, q5, q6, q7, q8, q9, q10, q11, hl1, Nat.zero_le, bapp, hcons])
    exact .inr h
  by_cases cs : shp x.code = 2
  · have q2 : (shp x.code = 2) = True := eq_true cs
    have q3 : ¬ shp x.code = 3 := by omega
    have q4 : ¬ shp x.code = 4 := by omega
    have q5 : ¬ shp x.code = 5 := by omega
    have q6 : ¬ shp x.code = 6 := by omega
    have q7 : ¬ shp x.code = 7 := by omega
    have q8 : ¬ shp x.code = 8 := by omega
    have q9 : ¬ shp x.code = 9 := by omega
    have q10 : ¬ shp x.code = 10 := by omega
    have q11 : ¬ shp x.code = 11 := by omega
    have ht : tail1 x w = leB 8 x.a := by unfold tail1; repeat (first | rw [if_pos (by omega)] | rw [if_neg (by omega)])
    rw [hcat _ ht] at h
    ((try first | refine walk_aw env_ok (none) ?_ | refine walk_aw envR_ok (none) ?_); try simp -implicitDefEqProofs (maxSteps := 1000000) only [go_sem, ↓reduceIte, reduceCtorEq, Nat.reduceLT, Nat.reduceEqDiff, Nat.reduceBEq, Nat.reduceAdd, Nat.reduceMul, Nat.reduceSub, Nat.reduceLeDiff, Int.reduceNeg, Int.reduceLT, Int.reduceLE, Int.reduceEq, Int.reduceAdd, Int.reduceToNat, q2, q3, q4, q5, q6, q7, q8, q9, q10, q11, hl1, Nat.zero_le, bapp, hcons])
    refine rcPut_spec xa ?_
    have f1 : 1 + (leB (min (max (8 : Int) 0) 8).toNat x.a).length ≤ 140737488355328 := by rw [leB_length]; decide
    ((try first | refine walk_aw env_ok (none) ?_ | refine walk_aw envR_ok (none) ?_); try simp -implicitDefEqProofs (maxSteps := 1000000) only [go_sem, ↓reduceIte, reduceCtorEq, Nat.reduceLT, Nat.reduceEqDiff, Nat.reduceBEq, Nat.reduceAdd, Nat.reduceMul, Nat.reduceSub, Nat.reduceLeDiff, Int.reduceNeg, Int.reduceLT, Int.reduceLE, Int.reduceEq, Int.reduceAdd, Int.reduceToNat, q2, q3, q4, q5, q6, q7, q8, q9, q10, q11, hl1, Nat.zero_le, bapp, hcons, f1])
    exact .inr h
  by_cases cs : shp x.code = 3
  · have q2 : ¬ shp x.code = 2 := by omega
    have q3 : (shp x.code = 3) = True := eq_true cs
    have q4 : ¬ shp x.code = 4 := by omega
    have q5 : ¬ shp x.code = 5 := by omega
    have q6 : ¬ shp x.code = 6 := by omega
    have q7 : ¬ shp x.code = 7 := by omega
    have q8 : ¬ shp x.code = 8 := by omega
    have q9 : ¬ shp x.code = 9 := by omega
    have q10 : ¬ shp x.code = 10 := by omega
    have q11 : ¬ shp x.code = 11 := by omega
    have ht : tail1 x w = leB (szo x.code) x.a := by unfold tail1; repeat (first | rw [if_pos (by omega)] | rw [if_neg (by omega)])
    rw [hcat _ ht] at h
    have hc := shp_plain (c := x.code) (by omega)
    have hsz := szo_or x.code
    have hm : (min (max ((szo x.code : Nat) : Int) 0) 8).toNat = szo x.code := by rcases hsz with e | e | e | e <;> rw [e] <;> rfl
    have f1 : 1 + (leB (szo x.code) x.a).length ≤ 140737488355328 := by rw [leB_length]; omega
    ((try first | refine walk_aw env_ok (none) ?_ | refine walk_aw envR_ok (none) ?_); try simp -implicitDefEqProofs (maxSteps := 1000000) only [go_sem, ↓reduceIte, reduceCtorEq, Nat.reduceLT, Nat.reduceEqDiff, Nat.reduceBEq, Nat.reduceAdd, Nat.reduceMul, Nat.reduceSub, Nat.reduceLeDiff, Int.reduceNeg, Int.reduceLT, Int.reduceLE, Int.reduceEq, Int.reduceAdd, Int.reduceToNat, q2, q3, q4, q5, q6, q7, q8, q9, q10, q11, hl1, Nat.zero_le, bapp, hcons])
    refine AW.tree env_ok [0, 0, 2, 0, 8, 24, 62, 127, 255] [1, 2, 3, 4, 5] [0, 6, 7, 8] (.alt 0 [1, 2, 3, 4, 5] [] (.alt 6 [] [] (.alt 7 [] [] (.alt 8 [] [] .leaf .leaf) .leaf) .leaf) (.alt 6 [] [] (.alt 0 [1, 2, 3, 4, 5] [] (.alt 7 [] [] (.alt 8 [] [] .leaf .leaf) .leaf) .leaf) .leaf)) mixed (by decide) ?_
    ((try first | refine walk_aw env_ok (none) ?_ | refine walk_aw envR_ok (none) ?_); try simp -implicitDefEqProofs (maxSteps := 1000000) only [go_sem, ↓reduceIte, reduceCtorEq, Nat.reduceLT, Nat.reduceEqDiff, Nat.reduceBEq, Nat.reduceAdd, Nat.reduceMul, Nat.reduceSub, Nat.reduceLeDiff, Int.reduceNeg, Int.reduceLT, Int.reduceLE, Int.reduceEq, Int.reduceAdd, Int.reduceToNat, q2, q3, q4, q5, q6, q7, q8, q9, q10, q11, hl1, Nat.zero_le, bapp, hcons])
    repeat (first | (refine QC.mk (orsize_spec hc ⟨rfl, rfl⟩) ?_; ((try first | refine walk_aw env_ok (none) ?_ | refine walk_aw envR_ok (none) ?_); try simp -implicitDefEqProofs (maxSteps := 1000000) only [go_sem, ↓reduceIte, reduceCtorEq, Nat.reduceLT, Nat.reduceEqDiff, Nat.reduceBEq, Nat.reduceAdd, Nat.reduceMul, Nat.reduceSub, Nat.reduceLeDiff, Int.reduceNeg, Int.reduceLT, Int.reduceLE, Int.reduceEq, Int.reduceAdd, Int.reduceToNat, q2, q3, q4, q5, q6, q7, q8, q9, q10, q11, hl1, Nat.zero_le, bapp, hcons, f1])) | (refine And.intro (QC.mk (orsize_spec hc ⟨rfl, rfl⟩) (by ((try first | refine walk_aw env_ok (none) ?_ | refine walk_aw envR_ok (none) ?_); try simp -implicitDefEqProofs (maxSteps := 1000000) only [go_sem, ↓reduceIte, reduceCtorEq, Nat.reduceLT, Nat.reduceEqDiff, Nat.reduceBEq, Nat.reduceAdd, Nat.reduceMul, Nat.reduceSub, Nat.reduceLeDiff, Int.reduceNeg, Int.reduceLT, Int.reduceLE, Int.reduceEq, Int.reduceAdd, Int.reduceToNat, q2, q3, q4, q5, q6, q7, q8, q9, q10, q11, hl1, Nat.zero_le, bapp, hcons, f1]))) ?_; ((try first | refine walk_aw env_ok (none) ?_ | refine walk_aw envR_ok (none) ?_); try simp -implicitDefEqProofs (maxSteps := 1000000) only [go_sem, ↓reduceIte, reduceCtorEq, Nat.reduceLT, Nat.reduceEqDiff, Nat.reduceBEq, Nat.reduceAdd, Nat.reduceMul, Nat.reduceSub, Nat.reduceLeDiff, Int.reduceNeg, Int.reduceLT, Int.reduceLE, Int.reduceEq, Int.reduceAdd, Int.reduceToNat, q2, q3, q4, q5, q6, q7, q8, q9, q10, q11, hl1, Nat.zero_le, bapp, hcons, f1])) | (refine And.intro ?_ ?_) | (refine rcPut_spec xa ?_; rw [hm]; ((try first | refine walk_aw env_ok (none) ?_ | refine walk_aw envR_ok (none) ?_); try simp -implicitDefEqProofs (maxSteps := 1000000) only [go_sem, ↓reduceIte, reduceCtorEq, Nat.reduceLT, Nat.reduceEqDiff, Nat.reduceBEq, Nat.reduceAdd, Nat.reduceMul, Nat.reduceSub, Nat.reduceLeDiff, Int.reduceNeg, Int.reduceLT, Int.reduceLE, Int.reduceEq, Int.reduceAdd, Int.reduceToNat, q2, q3, q4, q5, q6, q7, q8, q9, q10, q11, hl1, Nat.zero_le, bapp, hcons, f1])) | exact .inr h)
  by_cases cs : shp x.code = 4
  · have q2 : ¬ shp x.code = 2 := by omega
    have q3 : ¬ shp x.code = 3 := by omega
    have q4 : (shp x.code = 4) = True := eq_true cs
    have q5 : ¬ shp x.code = 5 := by omega
    have q6 : ¬ shp x.code = 6 := by omega
    have q7 : ¬ shp x.code = 7 := by omega
    have q8 : ¬ shp x.code = 8 := by omega
    have q9 : ¬ shp x.code = 9 := by omega
    have q10 : ¬ shp x.code = 10 := by omega
    have q11 : ¬ shp x.code = 11 := by omega
    have ht : tail1 x w = leB (szo x.code) x.a := by unfold tail1; repeat (first | rw [if_pos (by omega)] | rw [if_neg (by omega)])
    rw [hcat _ ht] at h
    have hc := shp_plain (c := x.code) (by omega)
    have hsz := szo_or x.code
    have hm : (min (max ((szo x.code : Nat) : Int) 0) 8).toNat = szo x.code := by rcases hsz with e | e | e | e <;> rw [e] <;> rfl
    have f1 : 1 + (leB (szo x.code) x.a).length ≤ 140737488355328 := by rw [leB_length]; omega
    ((try first | refine walk_aw env_ok (none) ?_ | refine walk_aw envR_ok (none) ?_); try simp -implicitDefEqProofs (maxSteps := 1000000) only [go_sem, ↓reduceIte, reduceCtorEq, Nat.reduceLT, Nat.reduceEqDiff, Nat.reduceBEq, Nat.reduceAdd, Nat.reduceMul, Nat.reduceSub, Nat.reduceLeDiff, Int.reduceNeg, Int.reduceLT, Int.reduceLE, Int.reduceEq, Int.reduceAdd, Int.reduceToNat, q2, q3, q4, q5, q6, q7, q8, q9, q10, q11, hl1, Nat.zero_le, bapp, hcons])
    refine AW.tree env_ok [0, 0, 2, 0, 8, 24, 62, 127, 255] [1, 2, 3, 4, 5] [0, 6, 7, 8] (.alt 0 [1, 2, 3, 4, 5] [] (.alt 6 [] [] (.alt 7 [] [] (.alt 8 [] [] .leaf .leaf) .leaf) .leaf) (.alt 6 [] [] (.alt 0 [1, 2, 3, 4, 5] [] (.alt 7 [] [] (.alt 8 [] [] .leaf .leaf) .leaf) .leaf) .leaf)) mixed (by decide) ?_
    ((try first | refine walk_aw env_ok (none) ?_ | refine walk_aw envR_ok (none) ?_); try simp -implicitDefEqProofs (maxSteps := 1000000) only [go_sem, ↓reduceIte, reduceCtorEq, Nat.reduceLT, Nat.reduceEqDiff, Nat.reduceBEq, Nat.reduceAdd, Nat.reduceMul, Nat.reduceSub, Nat.reduceLeDiff, Int.reduceNeg, Int.reduceLT, Int.reduceLE, Int.reduceEq, Int.reduceAdd, Int.reduceToNat, q2, q3, q4, q5, q6, q7, q8, q9, q10, q11, hl1, Nat.zero_le, bapp, hcons])
    repeat (first | (refine QC.mk (orsize_spec hc ⟨rfl, rfl⟩) ?_; ((try first | refine walk_aw env_ok (none) ?_ | refine walk_aw envR_ok (none) ?_); try simp -implicitDefEqProofs (maxSteps := 1000000) only [go_sem, ↓reduceIte, reduceCtorEq, Nat.reduceLT, Nat.reduceEqDiff, Nat.reduceBEq, Nat.reduceAdd, Nat.reduceMul, Nat.reduceSub, Nat.reduceLeDiff, Int.reduceNeg, Int.reduceLT, Int.reduceLE, Int.reduceEq, Int.reduceAdd, Int.reduceToNat, q2, q3, q4, q5, q6, q7, q8, q9, q10, q11, hl1, Nat.zero_le, bapp, hcons, f1])) | (refine And.intro (QC.mk (orsize_spec hc ⟨rfl, rfl⟩) (by ((try first | refine walk_aw env_ok (none) ?_ | refine walk_aw envR_ok (none) ?_); try simp -implicitDefEqProofs (maxSteps := 1000000) only [go_sem, ↓reduceIte, reduceCtorEq, Nat.reduceLT, Nat.reduceEqDiff, Nat.reduceBEq, Nat.reduceAdd, Nat.reduceMul, Nat.reduceSub, Nat.reduceLeDiff, Int.reduceNeg, Int.reduceLT, Int.reduceLE, Int.reduceEq, Int.reduceAdd, Int.reduceToNat, q2, q3, q4, q5, q6, q7, q8, q9, q10, q11, hl1, Nat.zero_le, bapp, hcons, f1]))) ?_; ((try first | refine walk_aw env_ok (none) ?_ | refine walk_aw envR_ok (none) ?_); try simp -implicitDefEqProofs (maxSteps := 1000000) only [go_sem, ↓reduceIte, reduceCtorEq, Nat.reduceLT, Nat.reduceEqDiff, Nat.reduceBEq, Nat.reduceAdd, Nat.reduceMul, Nat.reduceSub, Nat.reduceLeDiff, Int.reduceNeg, Int.reduceLT, Int.reduceLE, Int.reduceEq, Int.reduceAdd, Int.reduceToNat, q2, q3, q4, q5, q6, q7, q8, q9, q10, q11, hl1, Nat.zero_le, bapp, hcons, f1])) | (refine And.intro ?_ ?_) | (refine rcPut_spec xa ?_; rw [hm]; ((try first | refine walk_aw env_ok (none) ?_ | refine walk_aw envR_ok (none) ?_); try simp -implicitDefEqProofs (maxSteps := 1000000) only [go_sem, ↓reduceIte, reduceCtorEq, Nat.reduceLT, Nat.reduceEqDiff, Nat.reduceBEq, Nat.reduceAdd, Nat.reduceMul, Nat.reduceSub, Nat.reduceLeDiff, Int.reduceNeg, Int.reduceLT, Int.reduceLE, Int.reduceEq, Int.reduceAdd, Int.reduceToNat, q2, q3, q4, q5, q6, q7, q8, q9, q10, q11, hl1, Nat.zero_le, bapp, hcons, f1])) | exact .inr h)
  by_cases cs : shp x.code = 5
  · have q2 : ¬ shp x.code = 2 := by omega
    have q3 : ¬ shp x.code = 3 := by omega
    have q4 : ¬ shp x.code = 4 := by omega
    have q5 : (shp x.code = 5) = True := eq_true cs
    have q6 : ¬ shp x.code = 6 := by omega
    have q7 : ¬ shp x.code = 7 := by omega
    have q8 : ¬ shp x.code = 8 := by omega
    have q9 : ¬ shp x.code = 9 := by omega
    have q10 : ¬ shp x.code = 10 := by omega
    have q11 : ¬ shp x.code = 11 := by omega
    have ht : tail1 x w = putU x.a := by unfold tail1; repeat (first | rw [if_pos (by omega)] | rw [if_neg (by omega)])
    rw [hcat _ ht] at h
    ((try first | refine walk_aw env_ok (none) ?_ | refine walk_aw envR_ok (none) ?_); try simp -implicitDefEqProofs (maxSteps := 1000000) only [go_sem, ↓reduceIte, reduceCtorEq, Nat.reduceLT, Nat.reduceEqDiff, Nat.reduceBEq, Nat.reduceAdd, Nat.reduceMul, Nat.reduceSub, Nat.reduceLeDiff, Int.reduceNeg, Int.reduceLT, Int.reduceLE, Int.reduceEq, Int.reduceAdd, Int.reduceToNat, q2, q3, q4, q5, q6, q7, q8, q9, q10, q11, hl1, Nat.zero_le, bapp, hcons])
    refine rPutU_spec xa ?_
    have f1 : 1 + (putU x.a).length ≤ 140737488355328 := by have := putU_le xa; omega
    ((try first | refine walk_aw env_ok (none) ?_ | refine walk_aw envR_ok (none) ?_); try simp -implicitDefEqProofs (maxSteps := 1000000) only [go_sem, ↓reduceIte, reduceCtorEq, Nat.reduceLT, Nat.reduceEqDiff, Nat.reduceBEq, Nat.reduceAdd, Nat.reduceMul, Nat.reduceSub, Nat.reduceLeDiff, Int.reduceNeg, Int.reduceLT, Int.reduceLE, Int.reduceEq, Int.reduceAdd, Int.reduceToNat, q2, q3, q4, q5, q6, q7, q8, q9, q10, q11, hl1, Nat.zero_le, bapp, hcons, f1])
    exact .inr h
  by_cases cs : shp x.code = 6
  · have q2 : ¬ shp x.code = 2 := by omega
    have q3 : ¬ shp x.code = 3 := by omega
    have q4 : ¬ shp x.code = 4 := by omega
    have q5 : ¬ shp x.code = 5 := by omega
    have q6 : (shp x.code = 6) = True := eq_true cs
    have q7 : ¬ shp x.code = 7 := by omega
    have q8 : ¬ shp x.code = 8 := by omega
    have q9 : ¬ shp x.code = 9 := by omega
    have q10 : ¬ shp x.code = 10 := by omega
    have q11 : ¬ shp x.code = 11 := by omega
    have ht : tail1 x w = putS (sgn x.a) := by unfold tail1; repeat (first | rw [if_pos (by omega)] | rw [if_neg (by omega)])
    rw [hcat _ ht] at h
    have hws := wi_sgn xa
    ((try first | refine walk_aw env_ok (none) ?_ | refine walk_aw envR_ok (none) ?_); try simp -implicitDefEqProofs (maxSteps := 1000000) only [go_sem, ↓reduceIte, reduceCtorEq, Nat.reduceLT, Nat.reduceEqDiff, Nat.reduceBEq, Nat.reduceAdd, Nat.reduceMul, Nat.reduceSub, Nat.reduceLeDiff, Int.reduceNeg, Int.reduceLT, Int.reduceLE, Int.reduceEq, Int.reduceAdd, Int.reduceToNat, q2, q3, q4, q5, q6, q7, q8, q9, q10, q11, hl1, Nat.zero_le, bapp, hcons, hws])
    refine rPutS_spec (sgn_range xa) ?_
    have f1 : 1 + (putS (sgn x.a)).length ≤ 140737488355328 := by have := putS_le (sgn_range xa); omega
    ((try first | refine walk_aw env_ok (none) ?_ | refine walk_aw envR_ok (none) ?_); try simp -implicitDefEqProofs (maxSteps := 1000000) only [go_sem, ↓reduceIte, reduceCtorEq, Nat.reduceLT, Nat.reduceEqDiff, Nat.reduceBEq, Nat.reduceAdd, Nat.reduceMul, Nat.reduceSub, Nat.reduceLeDiff, Int.reduceNeg, Int.reduceLT, Int.reduceLE, Int.reduceEq, Int.reduceAdd, Int.reduceToNat, q2, q3, q4, q5, q6, q7, q8, q9, q10, q11, hl1, Nat.zero_le, bapp, hcons, f1])
    exact .inr h
  by_cases cs : shp x.code = 7
  · have q2 : ¬ shp x.code = 2 := by omega
    have q3 : ¬ shp x.code = 3 := by omega
    have q4 : ¬ shp x.code = 4 := by omega
    have q5 : ¬ shp x.code = 5 := by omega
    have q6 : ¬ shp x.code = 6 := by omega
    have q7 : (shp x.code = 7) = True := eq_true cs
    have q8 : ¬ shp x.code = 8 := by omega
    have q9 : ¬ shp x.code = 9 := by omega
    have q10 : ¬ shp x.code = 10 := by omega
    have q11 : ¬ shp x.code = 11 := by omega
    have ht : tail1 x w = leB 1 x.a := by unfold tail1; repeat (first | rw [if_pos (by omega)] | rw [if_neg (by omega)])
    rw [hcat _ ht] at h
    have hu : IntKind.u8.wrap (x.a : Int) = ((x.a % 256 : Nat) : Int) := u8_nat _
    have e2 : ([V.int .u8 ((x.code.toNat : Nat) : Int), V.int .u8 ((x.a % 256 : Nat) : Int)] : List A) = bA (UInt8.ofNat x.code.toNat :: leB 1 x.a) := by rw [← hcons]; congr 1; exact bA_snoc [] _ (Nat.mod_lt _ (by decide))
    have f1 : 1 + 1 ≤ 140737488355328 := by decide
    rw [← e2] at h
    ((try first | refine walk_aw env_ok (none) ?_ | refine walk_aw envR_ok (none) ?_); try simp -implicitDefEqProofs (maxSteps := 1000000) only [go_sem, ↓reduceIte, reduceCtorEq, Nat.reduceLT, Nat.reduceEqDiff, Nat.reduceBEq, Nat.reduceAdd, Nat.reduceMul, Nat.reduceSub, Nat.reduceLeDiff, Int.reduceNeg, Int.reduceLT, Int.reduceLE, Int.reduceEq, Int.reduceAdd, Int.reduceToNat, q2, q3, q4, q5, q6, q7, q8, q9, q10, q11, hl1, Nat.zero_le, bapp, hcons, hu])
    exact .inr h
  by_cases cs : shp x.code = 8
  · have q2 : ¬ shp x.code = 2 := by omega
    have q3 : ¬ shp x.code = 3 := by omega
    have q4 : ¬ shp x.code = 4 := by omega
    have q5 : ¬ shp x.code = 5 := by omega
    have q6 : ¬ shp x.code = 6 := by omega
    have q7 : ¬ shp x.code = 7 := by omega
    have q8 : (shp x.code = 8) = True := eq_true cs
    have q9 : ¬ shp x.code = 9 := by omega
    have q10 : ¬ shp x.code = 10 := by omega
    have q11 : ¬ shp x.code = 11 := by omega
    have ht : tail1 x w = leB 2 w := by unfold tail1; repeat (first | rw [if_pos (by omega)] | rw [if_neg (by omega)])
    rw [hcat _ ht] at h
    ((try first | refine walk_aw env_ok (none) ?_ | refine walk_aw envR_ok (none) ?_); try simp -implicitDefEqProofs (maxSteps := 1000000) only [go_sem, ↓reduceIte, reduceCtorEq, Nat.reduceLT, Nat.reduceEqDiff, Nat.reduceBEq, Nat.reduceAdd, Nat.reduceMul, Nat.reduceSub, Nat.reduceLeDiff, Int.reduceNeg, Int.reduceLT, Int.reduceLE, Int.reduceEq, Int.reduceAdd, Int.reduceToNat, q2, q3, q4, q5, q6, q7, q8, q9, q10, q11, hl1, Nat.zero_le, bapp, hcons])
    refine rcPut_spec hw ?_
    have f1 : 1 + (leB (min (max (2 : Int) 0) 8).toNat w).length ≤ 140737488355328 := by rw [leB_length]; decide
    ((try first | refine walk_aw env_ok (none) ?_ | refine walk_aw envR_ok (none) ?_); try simp -implicitDefEqProofs (maxSteps := 1000000) only [go_sem, ↓reduceIte, reduceCtorEq, Nat.reduceLT, Nat.reduceEqDiff, Nat.reduceBEq, Nat.reduceAdd, Nat.reduceMul, Nat.reduceSub, Nat.reduceLeDiff, Int.reduceNeg, Int.reduceLT, Int.reduceLE, Int.reduceEq, Int.reduceAdd, Int.reduceToNat, q2, q3, q4, q5, q6, q7, q8, q9, q10, q11, hl1, Nat.zero_le, bapp, hcons, f1])
    exact .inr h
  by_cases cs : shp x.code = 9
  · have q2 : ¬ shp x.code = 2 := by omega
    have q3 : ¬ shp x.code = 3 := by omega
    have q4 : ¬ shp x.code = 4 := by omega
    have q5 : ¬ shp x.code = 5 := by omega
    have q6 : ¬ shp x.code = 6 := by omega
    have q7 : ¬ shp x.code = 7 := by omega
    have q8 : ¬ shp x.code = 8 := by omega
    have q9 : (shp x.code = 9) = True := eq_true cs
    have q10 : ¬ shp x.code = 10 := by omega
    have q11 : ¬ shp x.code = 11 := by omega
    have ht : tail1 x w = putU x.a ++ putS (sgn x.b) := by unfold tail1; repeat (first | rw [if_pos (by omega)] | rw [if_neg (by omega)])
    rw [hcat _ ht] at h
    have hws := wi_sgn xb
    have hu1 := putU_le xa
    have hu2 := putS_le (sgn_range xb)
    ((try first | refine walk_aw env_ok (none) ?_ | refine walk_aw envR_ok (none) ?_); try simp -implicitDefEqProofs (maxSteps := 1000000) only [go_sem, ↓reduceIte, reduceCtorEq, Nat.reduceLT, Nat.reduceEqDiff, Nat.reduceBEq, Nat.reduceAdd, Nat.reduceMul, Nat.reduceSub, Nat.reduceLeDiff, Int.reduceNeg, Int.reduceLT, Int.reduceLE, Int.reduceEq, Int.reduceAdd, Int.reduceToNat, q2, q3, q4, q5, q6, q7, q8, q9, q10, q11, hl1, Nat.zero_le, bapp, hcons, hws])
    refine rPutU_spec xa ?_
    have f1 : 1 + (putU x.a).length ≤ 140737488355328 := by omega
    have f2 : 1 + (putU x.a).length + (putS (sgn x.b)).length ≤ 140737488355328 := by omega
    have hl2 : (UInt8.ofNat x.code.toNat :: putU x.a).length = 1 + (putU x.a).length := by rw [List.length_cons]; omega
    ((try first | refine walk_aw env_ok (none) ?_ | refine walk_aw envR_ok (none) ?_); try simp -implicitDefEqProofs (maxSteps := 1000000) only [go_sem, ↓reduceIte, reduceCtorEq, Nat.reduceLT, Nat.reduceEqDiff, Nat.reduceBEq, Nat.reduceAdd, Nat.reduceMul, Nat.reduceSub, Nat.reduceLeDiff, Int.reduceNeg, Int.reduceLT, Int.reduceLE, Int.reduceEq, Int.reduceAdd, Int.reduceToNat, q2, q3, q4, q5, q6, q7, q8, q9, q10, q11, hl1, Nat.zero_le, bapp, hcons, hws, f1])
    refine rPutS_spec (sgn_range xb) ?_
    ((try first | refine walk_aw env_ok (none) ?_ | refine walk_aw envR_ok (none) ?_); try simp -implicitDefEqProofs (maxSteps := 1000000) only [go_sem, ↓reduceIte, reduceCtorEq, Nat.reduceLT, Nat.reduceEqDiff, Nat.reduceBEq, Nat.reduceAdd, Nat.reduceMul, Nat.reduceSub, Nat.reduceLeDiff, Int.reduceNeg, Int.reduceLT, Int.reduceLE, Int.reduceEq, Int.reduceAdd, Int.reduceToNat, q2, q3, q4, q5, q6, q7, q8, q9, q10, q11, hl1, Nat.zero_le, bapp, hcons, f2, hl2])
    exact .inr h
  by_cases cs : shp x.code = 10
  · have q2 : ¬ shp x.code = 2 := by omega
    have q3 : ¬ shp x.code = 3 := by omega
    have q4 : ¬ shp x.code = 4 := by omega
    have q5 : ¬ shp x.code = 5 := by omega
    have q6 : ¬ shp x.code = 6 := by omega
    have q7 : ¬ shp x.code = 7 := by omega
    have q8 : ¬ shp x.code = 8 := by omega
    have q9 : ¬ shp x.code = 9 := by omega
    have q10 : (shp x.code = 10) = True := eq_true cs
    have q11 : ¬ shp x.code = 11 := by omega
    have ht : tail1 x w = putU x.a ++ putU x.b := by unfold tail1; repeat (first | rw [if_pos (by omega)] | rw [if_neg (by omega)])
    rw [hcat _ ht] at h
    have hws := wi_sgn xb
    have hu1 := putU_le xa
    have hu2 := putU_le xb
    ((try first | refine walk_aw env_ok (none) ?_ | refine walk_aw envR_ok (none) ?_); try simp -implicitDefEqProofs (maxSteps := 1000000) only [go_sem, ↓reduceIte, reduceCtorEq, Nat.reduceLT, Nat.reduceEqDiff, Nat.reduceBEq, Nat.reduceAdd, Nat.reduceMul, Nat.reduceSub, Nat.reduceLeDiff, Int.reduceNeg, Int.reduceLT, Int.reduceLE, Int.reduceEq, Int.reduceAdd, Int.reduceToNat, q2, q3, q4, q5, q6, q7, q8, q9, q10, q11, hl1, Nat.zero_le, bapp, hcons, hws])
    refine rPutU_spec xa ?_
    have f1 : 1 + (putU x.a).length ≤ 140737488355328 := by omega
    have f2 : 1 + (putU x.a).length + (putU x.b).length ≤ 140737488355328 := by omega
    have hl2 : (UInt8.ofNat x.code.toNat :: putU x.a).length = 1 + (putU x.a).length := by rw [List.length_cons]; omega
    ((try first | refine walk_aw env_ok (none) ?_ | refine walk_aw envR_ok (none) ?_); try simp -implicitDefEqProofs (maxSteps := 1000000) only [go_sem, ↓reduceIte, reduceCtorEq, Nat.reduceLT, Nat.reduceEqDiff, Nat.reduceBEq, Nat.reduceAdd, Nat.reduceMul, Nat.reduceSub, Nat.reduceLeDiff, Int.reduceNeg, Int.reduceLT, Int.reduceLE, Int.reduceEq, Int.reduceAdd, Int.reduceToNat, q2, q3, q4, q5, q6, q7, q8, q9, q10, q11, hl1, Nat.zero_le, bapp, hcons, hws, f1])
    refine rPutU_spec xb ?_
    ((try first | refine walk_aw env_ok (none) ?_ | refine walk_aw envR_ok (none) ?_); try simp -implicitDefEqProofs (maxSteps := 1000000) only [go_sem, ↓reduceIte, reduceCtorEq, Nat.reduceLT, Nat.reduceEqDiff, Nat.reduceBEq, Nat.reduceAdd, Nat.reduceMul, Nat.reduceSub, Nat.reduceLeDiff, Int.reduceNeg, Int.reduceLT, Int.reduceLE, Int.reduceEq, Int.reduceAdd, Int.reduceToNat, q2, q3, q4, q5, q6, q7, q8, q9, q10, q11, hl1, Nat.zero_le, bapp, hcons, f2, hl2])
    exact .inr h
  have cs : shp x.code = 11 := by omega
  have q2 : ¬ shp x.code = 2 := by omega
  have q3 : ¬ shp x.code = 3 := by omega
  have q4 : ¬ shp x.code = 4 := by omega
  have q5 : ¬ shp x.code = 5 := by omega
  have q6 : ¬ shp x.code = 6 := by omega
  have q7 : ¬ shp x.code = 7 := by omega
  have q8 : ¬ shp x.code = 8 := by omega
  have q9 : ¬ shp x.code = 9 := by omega
  have q10 : ¬ shp x.code = 10 := by omega
  have q11 : (shp x.code = 11) = True := eq_true cs
  have ht : tail1 x w = putU x.d.length ++ x.d := by unfold tail1; repeat (first | rw [if_pos (by omega)] | rw [if_neg (by omega)])
  rw [hcat _ ht] at h
  have hud : (x.d.length : Nat) < 18446744073709551616 := by omega
  have hu1 := putU_le hud
  have hwl : IntKind.u64.wrap (x.d.length : Int) = x.d.length := by rw [wu64]; omega
  ((try first | refine walk_aw env_ok (none) ?_ | refine walk_aw envR_ok (none) ?_); try simp -implicitDefEqProofs (maxSteps := 1000000) only [go_sem, ↓reduceIte, reduceCtorEq, Nat.reduceLT, Nat.reduceEqDiff, Nat.reduceBEq, Nat.reduceAdd, Nat.reduceMul, Nat.reduceSub, Nat.reduceLeDiff, Int.reduceNeg, Int.reduceLT, Int.reduceLE, Int.reduceEq, Int.reduceAdd, Int.reduceToNat, q2, q3, q4, q5, q6, q7, q8, q9, q10, q11, hl1, Nat.zero_le, bapp, hcons, hwl])
  refine rPutU_spec hud ?_
  have f1 : 1 + (putU x.d.length).length ≤ 140737488355328 := by omega
  have f2 : 1 + (putU x.d.length).length + x.d.length ≤ 140737488355328 := by omega
  have hl2 : (UInt8.ofNat x.code.toNat :: putU x.d.length).length = 1 + (putU x.d.length).length := by rw [List.length_cons]; omega
  ((try first | refine walk_aw env_ok (none) ?_ | refine walk_aw envR_ok (none) ?_); try simp -implicitDefEqProofs (maxSteps := 1000000) only [go_sem, ↓reduceIte, reduceCtorEq, Nat.reduceLT, Nat.reduceEqDiff, Nat.reduceBEq, Nat.reduceAdd, Nat.reduceMul, Nat.reduceSub, Nat.reduceLeDiff, Int.reduceNeg, Int.reduceLT, Int.reduceLE, Int.reduceEq, Int.reduceAdd, Int.reduceToNat, q2, q3, q4, q5, q6, q7, q8, q9, q10, q11, hl1, Nat.zero_le, bapp, hcons, hwl, f1, f2, hl2])
  exact .inr h
end
end Go.Ab
end

section
/- Lists of operations: looked through, and told apart. -/
namespace Go.Ab
open V Go.Proofs
set_option maxHeartbeats 8000000
set_option maxRecDepth 10000
set_option linter.unusedSimpArgs false
set_option linter.unusedVariables false

def OV.v (x : OV) : A := .agg x.cells
def oA (l : List OV) : List A := l.map OV.v
theorem oA_nil : oA [] = [] := rfl
theorem oA_flagless (l : List OV) : flaglessL (oA l) = true := by
  rw [flaglessL_all, List.all_eq_true]; intro v hv; obtain ⟨x, _, rfl⟩ := List.mem_map.1 hv; simp only [OV.v, flagless]; exact ovCells_flag x
theorem oA_low (n : Nat) (l : List OV) : lowL n (oA l) = true := by
  rw [lowL_all, List.all_eq_true]; intro v hv; obtain ⟨x, _, rfl⟩ := List.mem_map.1 hv; simp only [OV.v, V.low]; exact ovCells_low n x
theorem oA_uni (l : List OV) : Uni 4 (oA l) = true := by
  simp only [Uni, List.all_eq_true, beq_iff_eq]; intro v hv; obtain ⟨x, _, rfl⟩ := List.mem_map.1 hv; rfl
theorem oA_length (l : List OV) : (oA l).length = l.length := by simp [oA]
theorem oA_strip (l : List OV) : stripL (oA l) = oA l := by
  rw [stripL_map, oA, List.map_map]; apply List.map_congr_left; intro x _; simp only [Function.comp, OV.v, V.strip]; rw [ovCells_strip]
def OV.zero : OV := ⟨0, 0, 0, []⟩
theorem oA_at (l : List OV) (i : Nat) (d : A) (h : i < l.length) : (oA l).getD i d = .agg (l.getD i OV.zero).cells := by
  simp [oA, h, OV.v]
theorem ovCells_dropf (r : OV) (n : Nat) : flaglessL (r.cells.drop n) = true := by
  have := ovCells_flag r
  rw [flaglessL_all, List.all_eq_true] at *
  exact fun x hx => this x (List.mem_of_mem_drop hx)
theorem ovCells_d1 (r : OV) : (r.cells.drop 1)[0]? = some (.int .u64 r.a) := rfl
theorem ovCells_d2 (r : OV) : (r.cells.drop 2)[0]? = some (.int .u64 r.b) := rfl
theorem ovCells_d3 (r : OV) : (r.cells.drop 3)[0]? = some (.sl (bA r.d) none ()) := rfl
attribute [go_sem] ovCells_dropf ovCells_d1 ovCells_d2 ovCells_d3
attribute [go_sem] oA_flagless oA_low oA_uni oA_length oA_strip oA_nil

theorem str_neq {a b : List UInt8} (h : a ≠ b) : ¬ (⟨a.toArray⟩ : ByteArray) = ⟨b.toArray⟩ := by
  intro e; exact h (by simpa using e)

theorem bA_bytes (l : List UInt8) : (bA l).mapM byteOfA = some l := by
  induction l with
  | nil => rfl
  | cons x l ih =>
    show (byteA x :: bA l).mapM byteOfA = _
    rw [List.mapM_cons, ih]
    simp [byteA, byteOfA]
section
variable {H : Heap} {Q : A → Heap → Prop}
theorem bytesEqual_spec {a b : List UInt8} (h : Q (.bool (decide (a = b))) H) : AC Try.prog 44 [.sl (bA a) none (), .sl (bA b) none ()] H Q := by
  refine AC.enter (E := env Try.prog 10 (fun _ => .copy) (fun _ => false)) env_ok Try.func44 rfl rfl rfl (by simp only [List.length_cons, List.length_nil]; exact of_decide_eq_true rfl) ?_
  by_cases e : a = b
  · rw [decide_eq_true e] at h
    ((try first | refine walk_aw env_ok (none) ?_ | refine walk_aw envR_ok (none) ?_); try simp -implicitDefEqProofs (maxSteps := 1000000) only [go_sem, ↓reduceIte, reduceCtorEq, Nat.reduceLT, Nat.reduceEqDiff, Nat.reduceBEq, Nat.reduceAdd, Nat.reduceMul, Nat.reduceSub, Nat.reduceLeDiff, Int.reduceNeg, Int.reduceLT, Int.reduceLE, Int.reduceEq, Int.reduceAdd, Int.reduceToNat, e, bA_bytes])
    exact .inl h
  · rw [decide_eq_false e] at h
    ((try first | refine walk_aw env_ok (none) ?_ | refine walk_aw envR_ok (none) ?_); try simp -implicitDefEqProofs (maxSteps := 1000000) only [go_sem, ↓reduceIte, reduceCtorEq, Nat.reduceLT, Nat.reduceEqDiff, Nat.reduceBEq, Nat.reduceAdd, Nat.reduceMul, Nat.reduceSub, Nat.reduceLeDiff, Int.reduceNeg, Int.reduceLT, Int.reduceLE, Int.reduceEq, Int.reduceAdd, Int.reduceToNat, str_neq e, bA_bytes])
    exact .inl h
def ovSame (x y : OV) : Bool := decide (x.code = y.code) && (decide (x.a = y.a) && (decide (x.b = y.b) && decide (x.d = y.d)))
theorem ovSame_eq {x y : OV} : ovSame x y = decide (x = y) := by
  rw [Bool.eq_iff_iff]
  simp only [ovSame, Bool.and_eq_true, decide_eq_true_eq]
  constructor
  · rintro ⟨h1, h2, h3, h4⟩; cases x; cases y; simp_all
  · rintro rfl; exact ⟨rfl, rfl, rfl, rfl⟩
theorem Same1_spec {x y : OV} (h : Q (.bool (ovSame x y)) H) : AC Try.prog 43 [.agg x.cells, .agg y.cells] H Q := by
  refine AC.enter (E := env Try.prog 31 (fun _ => .copy) (fun _ => false)) env_ok Try.func43 rfl rfl rfl (by simp only [List.length_cons, List.length_nil]; exact of_decide_eq_true rfl) ?_
  rw [ovSame] at h
  by_cases e1 : x.code = y.code
  · rw [decide_eq_true e1, Bool.true_and] at h
    by_cases e2 : x.a = y.a
    · rw [decide_eq_true e2, Bool.true_and] at h
      by_cases e3 : x.b = y.b
      · rw [decide_eq_true e3, Bool.true_and] at h
        ((try first | refine walk_aw env_ok (none) ?_ | refine walk_aw envR_ok (none) ?_); try simp -implicitDefEqProofs (maxSteps := 1000000) only [go_sem, ↓reduceIte, reduceCtorEq, Nat.reduceLT, Nat.reduceEqDiff, Nat.reduceBEq, Nat.reduceAdd, Nat.reduceMul, Nat.reduceSub, Nat.reduceLeDiff, Int.reduceNeg, Int.reduceLT, Int.reduceLE, Int.reduceEq, Int.reduceAdd, Int.reduceToNat, e1, e2, e3])
        refine bytesEqual_spec ?_
        ((try first | refine walk_aw env_ok (none) ?_ | refine walk_aw envR_ok (none) ?_); try simp -implicitDefEqProofs (maxSteps := 1000000) only [go_sem, ↓reduceIte, reduceCtorEq, Nat.reduceLT, Nat.reduceEqDiff, Nat.reduceBEq, Nat.reduceAdd, Nat.reduceMul, Nat.reduceSub, Nat.reduceLeDiff, Int.reduceNeg, Int.reduceLT, Int.reduceLE, Int.reduceEq, Int.reduceAdd, Int.reduceToNat])
        exact .inr h
      · rw [decide_eq_false e3, Bool.false_and] at h
        have n3 : ¬ (x.b : Int) = y.b := by omega
        ((try first | refine walk_aw env_ok (none) ?_ | refine walk_aw envR_ok (none) ?_); try simp -implicitDefEqProofs (maxSteps := 1000000) only [go_sem, ↓reduceIte, reduceCtorEq, Nat.reduceLT, Nat.reduceEqDiff, Nat.reduceBEq, Nat.reduceAdd, Nat.reduceMul, Nat.reduceSub, Nat.reduceLeDiff, Int.reduceNeg, Int.reduceLT, Int.reduceLE, Int.reduceEq, Int.reduceAdd, Int.reduceToNat, e1, e2, n3])
        exact .inr h
    · rw [decide_eq_false e2, Bool.false_and] at h
      have n2 : ¬ (x.a : Int) = y.a := by omega
      ((try first | refine walk_aw env_ok (none) ?_ | refine walk_aw envR_ok (none) ?_); try simp -implicitDefEqProofs (maxSteps := 1000000) only [go_sem, ↓reduceIte, reduceCtorEq, Nat.reduceLT, Nat.reduceEqDiff, Nat.reduceBEq, Nat.reduceAdd, Nat.reduceMul, Nat.reduceSub, Nat.reduceLeDiff, Int.reduceNeg, Int.reduceLT, Int.reduceLE, Int.reduceEq, Int.reduceAdd, Int.reduceToNat, e1, n2])
      exact .inr h
  · rw [decide_eq_false e1, Bool.false_and] at h
    ((try first | refine walk_aw env_ok (none) ?_ | refine walk_aw envR_ok (none) ?_); try simp -implicitDefEqProofs (maxSteps := 1000000) only [go_sem, ↓reduceIte, reduceCtorEq, Nat.reduceLT, Nat.reduceEqDiff, Nat.reduceBEq, Nat.reduceAdd, Nat.reduceMul, Nat.reduceSub, Nat.reduceLeDiff, Int.reduceNeg, Int.reduceLT, Int.reduceLE, Int.reduceEq, Int.reduceAdd, Int.reduceToNat, e1])
    exact .inr h
theorem laid1_spec {x : OV} (hx : x.In) (h : Q (.bool (!okN x)) H) : AC Try.prog 75 [.agg x.cells] H Q := by
  refine AC.enter (E := env Try.prog 6 (fun _ => .copy) (fun _ => false)) env_ok Try.func75 rfl rfl rfl (by simp only [List.length_cons, List.length_nil]; exact of_decide_eq_true rfl) ?_
  ((try first | refine walk_aw env_ok (none) ?_ | refine walk_aw envR_ok (none) ?_); try simp -implicitDefEqProofs (maxSteps := 1000000) only [go_sem, ↓reduceIte, reduceCtorEq, Nat.reduceLT, Nat.reduceEqDiff, Nat.reduceBEq, Nat.reduceAdd, Nat.reduceMul, Nat.reduceSub, Nat.reduceLeDiff, Int.reduceNeg, Int.reduceLT, Int.reduceLE, Int.reduceEq, Int.reduceAdd, Int.reduceToNat])
  refine room8_spec hx ?_
  ((try first | refine walk_aw env_ok (none) ?_ | refine walk_aw envR_ok (none) ?_); try simp -implicitDefEqProofs (maxSteps := 1000000) only [go_sem, ↓reduceIte, reduceCtorEq, Nat.reduceLT, Nat.reduceEqDiff, Nat.reduceBEq, Nat.reduceAdd, Nat.reduceMul, Nat.reduceSub, Nat.reduceLeDiff, Int.reduceNeg, Int.reduceLT, Int.reduceLE, Int.reduceEq, Int.reduceAdd, Int.reduceToNat])
  exact .inr h
/-- Where the first one stands of which p says yes. -/
def idxO (p : OV → Bool) : List OV → Int
  | [] => -1
  | x :: l => if p x then 0 else if idxO p l = -1 then -1 else idxO p l + 1
theorem IndexFunc_spec {l : List OV} {F : FuncId} {p : OV → Bool} (hF : ∀ x ∈ l, ∀ (G : Heap) (R : A → Heap → Prop), R (.bool (p x)) G → AC Try.prog F [.agg x.cells] G R) (hl : l.length < 9223372036854775807)
    (h : ∀ z : Int, (z ≥ 0 ↔ l.any p = true) → Q (.int .i64 z) H) : AC Try.prog 122 [.sl (oA l) none (), .fn (.func F) [] []] H Q := by
  refine AC.enter (E := env Try.prog 19 (fun _ => .copy) (fun _ => false)) env_ok Try.func122 rfl rfl rfl (by simp only [List.length_cons, List.length_nil]; exact of_decide_eq_true rfl) ?_
  ((try first | refine walk_aw env_ok (none) ?_ | refine walk_aw envR_ok (none) ?_); try simp -implicitDefEqProofs (maxSteps := 1000000) only [go_sem, ↓reduceIte, reduceCtorEq, Nat.reduceLT, Nat.reduceEqDiff, Nat.reduceBEq, Nat.reduceAdd, Nat.reduceMul, Nat.reduceSub, Nat.reduceLeDiff, Int.reduceNeg, Int.reduceLT, Int.reduceLE, Int.reduceEq, Int.reduceAdd, Int.reduceToNat])
  refine AW.loop (fun st => ∃ i : Nat, st.σ 0 = .sl (oA l) none () ∧ st.σ 1 = .fn (.func F) [] [] ∧ st.σ 7 = .int .i64 l.length ∧ st.σ 8 = .int .i64 i ∧ i ≤ l.length ∧ (l.take i).any p = false ∧ st.H = H) (fun st => match st.σ 8 with | .int _ n => l.length - n.toNat | _ => 0) ⟨0, by ((try first | refine walk_aw env_ok (none) ?_ | refine walk_aw envR_ok (none) ?_); try simp -implicitDefEqProofs (maxSteps := 1000000) only [go_sem, ↓reduceIte, reduceCtorEq, Nat.reduceLT, Nat.reduceEqDiff, Nat.reduceBEq, Nat.reduceAdd, Nat.reduceMul, Nat.reduceSub, Nat.reduceLeDiff, Int.reduceNeg, Int.reduceLT, Int.reduceLE, Int.reduceEq, Int.reduceAdd, Int.reduceToNat]); exact ⟨Nat.zero_le _, rfl⟩⟩ ?_
  rintro ⟨σ, H2⟩ ⟨i, s0, s1, s7, s8, hi, hp, hH⟩
  simp only at s0 s1 s7 s8 hH
  subst hH
  by_cases c : (i : Int) < l.length
  · have hil : i < l.length := by omega
    have c0 : (0 : Int) ≤ i := by omega
    have hat := oA_at l i (.undef ()) hil
    have hmem : l.getD i OV.zero ∈ l := by rw [List.getD_eq_getElem?_getD, List.getElem?_eq_getElem hil]; exact List.getElem_mem hil
    ((try first | refine walk_aw env_ok (none) ?_ | refine walk_aw envR_ok (none) ?_); try simp -implicitDefEqProofs (maxSteps := 1000000) only [go_sem, ↓reduceIte, reduceCtorEq, Nat.reduceLT, Nat.reduceEqDiff, Nat.reduceBEq, Nat.reduceAdd, Nat.reduceMul, Nat.reduceSub, Nat.reduceLeDiff, Int.reduceNeg, Int.reduceLT, Int.reduceLE, Int.reduceEq, Int.reduceAdd, Int.reduceToNat, s0, s1, s7, s8, c, c0, hat])
    refine hF _ hmem _ _ ?_
    cases hpx : p (l.getD i OV.zero) with
    | true =>
      ((try first | refine walk_aw env_ok (none) ?_ | refine walk_aw envR_ok (none) ?_); try simp -implicitDefEqProofs (maxSteps := 1000000) only [go_sem, ↓reduceIte, reduceCtorEq, Nat.reduceLT, Nat.reduceEqDiff, Nat.reduceBEq, Nat.reduceAdd, Nat.reduceMul, Nat.reduceSub, Nat.reduceLeDiff, Int.reduceNeg, Int.reduceLT, Int.reduceLE, Int.reduceEq, Int.reduceAdd, Int.reduceToNat, s0, s1, s7, s8, c, c0, hat])
      refine .inl (h _ ⟨fun _ => List.any_eq_true.2 ⟨_, hmem, hpx⟩, fun _ => c0⟩)
    | false =>
      have hw : IntKind.i64.wrap ((i : Int) + 1) = ((i + 1 : Nat) : Int) := by rw [wi64]; omega
      ((try first | refine walk_aw env_ok (none) ?_ | refine walk_aw envR_ok (none) ?_); try simp -implicitDefEqProofs (maxSteps := 1000000) only [go_sem, ↓reduceIte, reduceCtorEq, Nat.reduceLT, Nat.reduceEqDiff, Nat.reduceBEq, Nat.reduceAdd, Nat.reduceMul, Nat.reduceSub, Nat.reduceLeDiff, Int.reduceNeg, Int.reduceLT, Int.reduceLE, Int.reduceEq, Int.reduceAdd, Int.reduceToNat, s0, s1, s7, s8, c, c0, hat, hw])
      refine ⟨⟨i + 1, rfl, by omega, ?_⟩, by omega⟩
      rw [List.take_succ_eq_append_getElem hil, List.any_append, hp]
      rw [List.getD_eq_getElem?_getD, List.getElem?_eq_getElem hil] at hpx
      simpa using hpx
  · ((try first | refine walk_aw env_ok (none) ?_ | refine walk_aw envR_ok (none) ?_); try simp -implicitDefEqProofs (maxSteps := 1000000) only [go_sem, ↓reduceIte, reduceCtorEq, Nat.reduceLT, Nat.reduceEqDiff, Nat.reduceBEq, Nat.reduceAdd, Nat.reduceMul, Nat.reduceSub, Nat.reduceLeDiff, Int.reduceNeg, Int.reduceLT, Int.reduceLE, Int.reduceEq, Int.reduceAdd, Int.reduceToNat, s0, s1, s7, s8, c])
    have hi' : i = l.length := by omega
    rw [hi', List.take_of_length_le (by omega)] at hp
    refine .inl (h _ ⟨fun e => by omega, fun e => ?_⟩)
    rw [hp] at e; cases e
theorem ContainsFunc_spec {l : List OV} {F : FuncId} {p : OV → Bool} (hF : ∀ x ∈ l, ∀ (G : Heap) (R : A → Heap → Prop), R (.bool (p x)) G → AC Try.prog F [.agg x.cells] G R) (hl : l.length < 9223372036854775807)
    (h : Q (.bool (l.any p)) H) : AC Try.prog 70 [.sl (oA l) none (), .fn (.func F) [] []] H Q := by
  refine AC.enter (E := env Try.prog 9 (fun _ => .copy) (fun _ => false)) env_ok Try.func70 rfl rfl rfl (by simp only [List.length_cons, List.length_nil]; exact of_decide_eq_true rfl) ?_
  ((try first | refine walk_aw env_ok (none) ?_ | refine walk_aw envR_ok (none) ?_); try simp -implicitDefEqProofs (maxSteps := 1000000) only [go_sem, ↓reduceIte, reduceCtorEq, Nat.reduceLT, Nat.reduceEqDiff, Nat.reduceBEq, Nat.reduceAdd, Nat.reduceMul, Nat.reduceSub, Nat.reduceLeDiff, Int.reduceNeg, Int.reduceLT, Int.reduceLE, Int.reduceEq, Int.reduceAdd, Int.reduceToNat])
  refine IndexFunc_spec hF hl fun z hz => ?_
  by_cases c : z ≥ 0
  · rw [hz.1 c] at h
    ((try first | refine walk_aw env_ok (none) ?_ | refine walk_aw envR_ok (none) ?_); try simp -implicitDefEqProofs (maxSteps := 1000000) only [go_sem, ↓reduceIte, reduceCtorEq, Nat.reduceLT, Nat.reduceEqDiff, Nat.reduceBEq, Nat.reduceAdd, Nat.reduceMul, Nat.reduceSub, Nat.reduceLeDiff, Int.reduceNeg, Int.reduceLT, Int.reduceLE, Int.reduceEq, Int.reduceAdd, Int.reduceToNat, c])
    exact .inl h
  · have : l.any p = false := by rw [Bool.eq_false_iff]; exact fun e => c (hz.2 e)
    rw [this] at h
    ((try first | refine walk_aw env_ok (none) ?_ | refine walk_aw envR_ok (none) ?_); try simp -implicitDefEqProofs (maxSteps := 1000000) only [go_sem, ↓reduceIte, reduceCtorEq, Nat.reduceLT, Nat.reduceEqDiff, Nat.reduceBEq, Nat.reduceAdd, Nat.reduceMul, Nat.reduceSub, Nat.reduceLeDiff, Int.reduceNeg, Int.reduceLT, Int.reduceLE, Int.reduceEq, Int.reduceAdd, Int.reduceToNat, c])
    exact .inl h
theorem gd_mem {α : Type} {l : List α} {i : Nat} {d : α} (h : i < l.length) : l.getD i d ∈ l := by
  rw [List.getD_eq_getElem?_getD, List.getElem?_eq_getElem h]; exact List.getElem_mem h
theorem gd_get {α : Type} {l : List α} {i : Nat} {d : α} (h : i < l.length) : l.getD i d = l[i] := by
  rw [List.getD_eq_getElem?_getD, List.getElem?_eq_getElem h]; rfl
theorem take_eq_succ {l m : List OV} {i : Nat} (hl : i < l.length) (hm : i < m.length) (h : l.take i = m.take i) (e : l.getD i OV.zero = m.getD i OV.zero) : l.take (i + 1) = m.take (i + 1) := by
  rw [List.take_succ_eq_append_getElem hl, List.take_succ_eq_append_getElem hm, h, ← gd_get (d := OV.zero) hl, ← gd_get (d := OV.zero) hm, e]
theorem ne_of_at {l m : List OV} {i : Nat} (e : l.getD i OV.zero ≠ m.getD i OV.zero) : l ≠ m := by rintro rfl; exact e rfl
theorem EqualFunc_spec {l m : List OV} (hl : l.length < 9223372036854775807)
    (h : Q (.bool (decide (l = m))) H) : AC Try.prog 42 [.sl (oA l) none (), .sl (oA m) none (), .fn (.func 43) [] []] H Q := by
  refine AC.enter (E := env Try.prog 32 (fun _ => .copy) (fun _ => false)) env_ok Try.func42 rfl rfl rfl (by simp only [List.length_cons, List.length_nil]; exact of_decide_eq_true rfl) ?_
  by_cases hlm : (l.length : Int) = m.length
  · ((try first | refine walk_aw env_ok (none) ?_ | refine walk_aw envR_ok (none) ?_); try simp -implicitDefEqProofs (maxSteps := 1000000) only [go_sem, ↓reduceIte, reduceCtorEq, Nat.reduceLT, Nat.reduceEqDiff, Nat.reduceBEq, Nat.reduceAdd, Nat.reduceMul, Nat.reduceSub, Nat.reduceLeDiff, Int.reduceNeg, Int.reduceLT, Int.reduceLE, Int.reduceEq, Int.reduceAdd, Int.reduceToNat, hlm])
    refine AW.loop (fun st => ∃ i : Nat, st.σ 0 = .sl (oA l) none () ∧ st.σ 1 = .sl (oA m) none () ∧ st.σ 2 = .fn (.func 43) [] [] ∧ st.σ 15 = .sl (oA l) none () ∧ st.σ 16 = .int .i64 m.length ∧ st.σ 17 = .int .i64 i ∧ i ≤ l.length ∧ l.take i = m.take i ∧ st.H.take H.length = H ∧ H.length ≤ st.H.length)
      (fun st => match st.σ 17 with | .int _ n => l.length - n.toNat | _ => 0) ⟨0, by ((try first | refine walk_aw env_ok (none) ?_ | refine walk_aw envR_ok (none) ?_); try simp -implicitDefEqProofs (maxSteps := 1000000) only [go_sem, ↓reduceIte, reduceCtorEq, Nat.reduceLT, Nat.reduceEqDiff, Nat.reduceBEq, Nat.reduceAdd, Nat.reduceMul, Nat.reduceSub, Nat.reduceLeDiff, Int.reduceNeg, Int.reduceLT, Int.reduceLE, Int.reduceEq, Int.reduceAdd, Int.reduceToNat]); simp⟩ ?_
    rintro ⟨σ, G⟩ ⟨i, s0, s1, s2, s15, s16, s17, hi, hp, hG, hGl⟩
    simp only at s0 s1 s2 s15 s16 s17 hG hGl
    by_cases c : (i : Int) < m.length
    · have hil : i < l.length := by omega
      have him : i < m.length := by omega
      have c0 : (0 : Int) ≤ i := by omega
      have c1 : (i : Int) < l.length := by omega
      have hat := oA_at l i (.undef ()) hil
      have ham := oA_at m i (.undef ()) him
      ((try first | refine walk_aw env_ok (none) ?_ | refine walk_aw envR_ok (none) ?_); try simp -implicitDefEqProofs (maxSteps := 1000000) only [go_sem, ↓reduceIte, reduceCtorEq, Nat.reduceLT, Nat.reduceEqDiff, Nat.reduceBEq, Nat.reduceAdd, Nat.reduceMul, Nat.reduceSub, Nat.reduceLeDiff, Int.reduceNeg, Int.reduceLT, Int.reduceLE, Int.reduceEq, Int.reduceAdd, Int.reduceToNat, s0, s1, s2, s15, s16, s17, c, c0, c1, hat, ham])
      refine Same1_spec ?_
      rw [ovSame_eq]
      by_cases e : l.getD i OV.zero = m.getD i OV.zero
      · have hw : IntKind.i64.wrap ((i : Int) + 1) = ((i + 1 : Nat) : Int) := by rw [wi64]; omega
        rw [decide_eq_true e]
        ((try first | refine walk_aw env_ok (none) ?_ | refine walk_aw envR_ok (none) ?_); try simp -implicitDefEqProofs (maxSteps := 1000000) only [go_sem, ↓reduceIte, reduceCtorEq, Nat.reduceLT, Nat.reduceEqDiff, Nat.reduceBEq, Nat.reduceAdd, Nat.reduceMul, Nat.reduceSub, Nat.reduceLeDiff, Int.reduceNeg, Int.reduceLT, Int.reduceLE, Int.reduceEq, Int.reduceAdd, Int.reduceToNat, s0, s1, s2, s15, s16, s17, c, c0, c1, hat, ham, hw])
        refine ⟨⟨i + 1, rfl, by omega, take_eq_succ hil him hp e, ?_, ?_⟩, by omega⟩
        · rw [List.take_append_of_le_length hGl, hG]
        · omega
      · rw [decide_eq_false e]
        rw [decide_eq_false (ne_of_at e)] at h
        ((try first | refine walk_aw env_ok (none) ?_ | refine walk_aw envR_ok (none) ?_); try simp -implicitDefEqProofs (maxSteps := 1000000) only [go_sem, ↓reduceIte, reduceCtorEq, Nat.reduceLT, Nat.reduceEqDiff, Nat.reduceBEq, Nat.reduceAdd, Nat.reduceMul, Nat.reduceSub, Nat.reduceLeDiff, Int.reduceNeg, Int.reduceLT, Int.reduceLE, Int.reduceEq, Int.reduceAdd, Int.reduceToNat, s0, s1, s2, s15, s16, s17, c, c0, c1, hat, ham])
        refine .inr ?_
        rw [List.take_append_of_le_length hGl, hG]; exact h
    · have hi' : i = l.length := by omega
      rw [hi', List.take_of_length_le (by omega), List.take_of_length_le (by omega)] at hp
      rw [decide_eq_true hp] at h
      ((try first | refine walk_aw env_ok (none) ?_ | refine walk_aw envR_ok (none) ?_); try simp -implicitDefEqProofs (maxSteps := 1000000) only [go_sem, ↓reduceIte, reduceCtorEq, Nat.reduceLT, Nat.reduceEqDiff, Nat.reduceBEq, Nat.reduceAdd, Nat.reduceMul, Nat.reduceSub, Nat.reduceLeDiff, Int.reduceNeg, Int.reduceLT, Int.reduceLE, Int.reduceEq, Int.reduceAdd, Int.reduceToNat, s0, s1, s2, s15, s16, s17, c])
      exact .inr (by rw [hG]; exact h)
  · have : l ≠ m := by rintro rfl; exact hlm rfl
    rw [decide_eq_false this] at h
    ((try first | refine walk_aw env_ok (none) ?_ | refine walk_aw envR_ok (none) ?_); try simp -implicitDefEqProofs (maxSteps := 1000000) only [go_sem, ↓reduceIte, reduceCtorEq, Nat.reduceLT, Nat.reduceEqDiff, Nat.reduceBEq, Nat.reduceAdd, Nat.reduceMul, Nat.reduceSub, Nat.reduceLeDiff, Int.reduceNeg, Int.reduceLT, Int.reduceLE, Int.reduceEq, Int.reduceAdd, Int.reduceToNat, hlm])
    exact .inl h
theorem oSame_spec {l m : List OV} (hl : l.length < 9223372036854775807) (h : Q (.bool (decide (l = m))) H) : AC Try.prog 18 [.sl (oA l) none (), .sl (oA m) none ()] H Q := by
  refine AC.enter (E := env Try.prog 8 (fun _ => .copy) (fun _ => false)) env_ok Try.func18 rfl rfl rfl (by simp only [List.length_cons, List.length_nil]; exact of_decide_eq_true rfl) ?_
  ((try first | refine walk_aw env_ok (none) ?_ | refine walk_aw envR_ok (none) ?_); try simp -implicitDefEqProofs (maxSteps := 1000000) only [go_sem, ↓reduceIte, reduceCtorEq, Nat.reduceLT, Nat.reduceEqDiff, Nat.reduceBEq, Nat.reduceAdd, Nat.reduceMul, Nat.reduceSub, Nat.reduceLeDiff, Int.reduceNeg, Int.reduceLT, Int.reduceLE, Int.reduceEq, Int.reduceAdd, Int.reduceToNat])
  refine EqualFunc_spec hl ?_
  ((try first | refine walk_aw env_ok (none) ?_ | refine walk_aw envR_ok (none) ?_); try simp -implicitDefEqProofs (maxSteps := 1000000) only [go_sem, ↓reduceIte, reduceCtorEq, Nat.reduceLT, Nat.reduceEqDiff, Nat.reduceBEq, Nat.reduceAdd, Nat.reduceMul, Nat.reduceSub, Nat.reduceLeDiff, Int.reduceNeg, Int.reduceLT, Int.reduceLE, Int.reduceEq, Int.reduceAdd, Int.reduceToNat])
  exact .inl h
end
end Go.Ab
end

section
/- Lists of operations: told apart, and measured, by the document. -/
namespace Go.Ab
open V Go.Proofs
set_option maxHeartbeats 8000000
set_option maxRecDepth 10000
set_option linter.unusedSimpArgs false
set_option linter.unusedVariables false

section
variable {H : Heap} {Q : A → Heap → Prop}
theorem roSame_spec {l m : List OV} (hl : l.length < 9223372036854775807) (h : Q (.bool (decide (l = m))) H) : AC Try.prog 22 [.sl (oA l) none (), .sl (oA m) none ()] H Q := by
  refine AC.enter (E := env Try.prog 69 (fun _ => .copy) (fun _ => false)) env_ok Try.func22 rfl rfl rfl (by simp only [List.length_cons, List.length_nil]; exact of_decide_eq_true rfl) ?_
  by_cases hlm : (l.length : Int) = m.length
  · ((try first | refine walk_aw env_ok (none) ?_ | refine walk_aw envR_ok (none) ?_); try simp -implicitDefEqProofs (maxSteps := 1000000) only [go_sem, ↓reduceIte, reduceCtorEq, Nat.reduceLT, Nat.reduceEqDiff, Nat.reduceBEq, Nat.reduceAdd, Nat.reduceMul, Nat.reduceSub, Nat.reduceLeDiff, Int.reduceNeg, Int.reduceLT, Int.reduceLE, Int.reduceEq, Int.reduceAdd, Int.reduceToNat, hlm])
    refine AW.loop (fun st => ∃ i : Nat, st.σ 0 = .sl (oA l) none () ∧ st.σ 1 = .sl (oA m) none () ∧ st.σ 5 = .int .i64 i ∧ i ≤ l.length ∧ l.take i = m.take i ∧ st.H = H)
      (fun st => match st.σ 5 with | .int _ n => l.length - n.toNat | _ => 0) ⟨0, by ((try first | refine walk_aw env_ok (none) ?_ | refine walk_aw envR_ok (none) ?_); try simp -implicitDefEqProofs (maxSteps := 1000000) only [go_sem, ↓reduceIte, reduceCtorEq, Nat.reduceLT, Nat.reduceEqDiff, Nat.reduceBEq, Nat.reduceAdd, Nat.reduceMul, Nat.reduceSub, Nat.reduceLeDiff, Int.reduceNeg, Int.reduceLT, Int.reduceLE, Int.reduceEq, Int.reduceAdd, Int.reduceToNat]); simp⟩ ?_
    rintro ⟨σ, G⟩ ⟨i, s0, s1, s5, hi, hp, hG⟩
    simp only at s0 s1 s5 hG
    subst hG
    by_cases c : (i : Int) < l.length
    · have hil : i < l.length := by omega
      have him : i < m.length := by omega
      have c0 : (0 : Int) ≤ i := by omega
      have c1 : (i : Int) < m.length := by omega
      have hat := oA_at l i (.undef ()) hil
      have ham := oA_at m i (.undef ()) him
      have hw : IntKind.i64.wrap ((i : Int) + 1) = ((i + 1 : Nat) : Int) := by rw [wi64]; omega
      ((try first | refine walk_aw env_ok (none) ?_ | refine walk_aw envR_ok (none) ?_); try simp -implicitDefEqProofs (maxSteps := 1000000) only [go_sem, ↓reduceIte, reduceCtorEq, Nat.reduceLT, Nat.reduceEqDiff, Nat.reduceBEq, Nat.reduceAdd, Nat.reduceMul, Nat.reduceSub, Nat.reduceLeDiff, Int.reduceNeg, Int.reduceLT, Int.reduceLE, Int.reduceEq, Int.reduceAdd, Int.reduceToNat, s0, s1, s5, c])
      refine AW.chain env_ok [0, 0, 3, 7, 15, 0, 0, 96, 224, 480, 1023, 2047, 4095, 4095, 16383, 32767, 65535, 4095, 4095, 397311, 921599, 1970175, 4194303, 8388607, 16777215, 33554431, 33554431, 134217727, 268435455, 536870911, 33554431, 33554431, 3254779903, 7549747199, 16139681791, 34359738367, 68719476735, 137438953471, 274877906943, 274877906943, 1099511627775, 2199023255551, 4398046511103, 8796093022207, 274877906943, 274877906943, 53051436040191, 123420180217855, 264157668573183, 545632645283839, 1125899906842623, 2251799813685247] [0, 1, 2, 3, 4, 5, 6, 7, 8, 9, 10, 11, 12, 13, 14, 15, 16, 17, 18, 19, 20, 21, 22, 23, 24, 25, 26, 27, 28, 29, 30, 31, 32, 33, 34, 35, 36, 37, 38, 39, 40, 41, 42, 43, 44, 45, 46, 47, 48, 49, 50, 51] [] mixed (by decide) ?_
      by_cases e1 : (l.getD i OV.zero).code = (m.getD i OV.zero).code
      · by_cases e2 : (l.getD i OV.zero).a = (m.getD i OV.zero).a
        · by_cases e3 : (l.getD i OV.zero).b = (m.getD i OV.zero).b
          · by_cases e4 : (l.getD i OV.zero).d = (m.getD i OV.zero).d
            · have e : l.getD i OV.zero = m.getD i OV.zero := by
                exact of_decide_eq_true (ovSame_eq.symm.trans (by rw [ovSame, decide_eq_true e1, decide_eq_true e2, decide_eq_true e3, decide_eq_true e4]; rfl))
              ((try first | refine walk_aw env_ok (none) ?_ | refine walk_aw envR_ok (none) ?_); try simp -implicitDefEqProofs (maxSteps := 1000000) only [go_sem, ↓reduceIte, reduceCtorEq, Nat.reduceLT, Nat.reduceEqDiff, Nat.reduceBEq, Nat.reduceAdd, Nat.reduceMul, Nat.reduceSub, Nat.reduceLeDiff, Int.reduceNeg, Int.reduceLT, Int.reduceLE, Int.reduceEq, Int.reduceAdd, Int.reduceToNat, s0, s1, s5, c, c0, c1, hat, ham, e, bA_bytes])
              ((try first | refine walk_aw env_ok (none) ?_ | refine walk_aw envR_ok (none) ?_); try simp -implicitDefEqProofs (maxSteps := 1000000) only [go_sem, ↓reduceIte, reduceCtorEq, Nat.reduceLT, Nat.reduceEqDiff, Nat.reduceBEq, Nat.reduceAdd, Nat.reduceMul, Nat.reduceSub, Nat.reduceLeDiff, Int.reduceNeg, Int.reduceLT, Int.reduceLE, Int.reduceEq, Int.reduceAdd, Int.reduceToNat, s0, s1, s5, hw])
              exact ⟨⟨i + 1, rfl, by omega, take_eq_succ hil him hp e⟩, by omega⟩
            · have n : l.getD i OV.zero ≠ m.getD i OV.zero := fun e => e4 (by rw [e])
              rw [decide_eq_false (ne_of_at n)] at h
              ((try first | refine walk_aw env_ok (none) ?_ | refine walk_aw envR_ok (none) ?_); try simp -implicitDefEqProofs (maxSteps := 1000000) only [go_sem, ↓reduceIte, reduceCtorEq, Nat.reduceLT, Nat.reduceEqDiff, Nat.reduceBEq, Nat.reduceAdd, Nat.reduceMul, Nat.reduceSub, Nat.reduceLeDiff, Int.reduceNeg, Int.reduceLT, Int.reduceLE, Int.reduceEq, Int.reduceAdd, Int.reduceToNat, s0, s1, s5, c, c0, c1, hat, ham, e1, e2, e3, str_neq e4, bA_bytes])
              exact .inl h
          · have n : l.getD i OV.zero ≠ m.getD i OV.zero := fun e => e3 (by rw [e])
            rw [decide_eq_false (ne_of_at n)] at h
            have n3 : ¬ ((l.getD i OV.zero).b : Int) = (m.getD i OV.zero).b := by omega
            ((try first | refine walk_aw env_ok (none) ?_ | refine walk_aw envR_ok (none) ?_); try simp -implicitDefEqProofs (maxSteps := 1000000) only [go_sem, ↓reduceIte, reduceCtorEq, Nat.reduceLT, Nat.reduceEqDiff, Nat.reduceBEq, Nat.reduceAdd, Nat.reduceMul, Nat.reduceSub, Nat.reduceLeDiff, Int.reduceNeg, Int.reduceLT, Int.reduceLE, Int.reduceEq, Int.reduceAdd, Int.reduceToNat, s0, s1, s5, c, c0, c1, hat, ham, e1, e2, n3])
            exact .inl h
        · have n : l.getD i OV.zero ≠ m.getD i OV.zero := fun e => e2 (by rw [e])
          rw [decide_eq_false (ne_of_at n)] at h
          have n3 : ¬ ((l.getD i OV.zero).a : Int) = (m.getD i OV.zero).a := by omega
          ((try first | refine walk_aw env_ok (none) ?_ | refine walk_aw envR_ok (none) ?_); try simp -implicitDefEqProofs (maxSteps := 1000000) only [go_sem, ↓reduceIte, reduceCtorEq, Nat.reduceLT, Nat.reduceEqDiff, Nat.reduceBEq, Nat.reduceAdd, Nat.reduceMul, Nat.reduceSub, Nat.reduceLeDiff, Int.reduceNeg, Int.reduceLT, Int.reduceLE, Int.reduceEq, Int.reduceAdd, Int.reduceToNat, s0, s1, s5, c, c0, c1, hat, ham, e1, n3])
          exact .inl h
      · have n : l.getD i OV.zero ≠ m.getD i OV.zero := fun e => e1 (by rw [e])
        rw [decide_eq_false (ne_of_at n)] at h
        ((try first | refine walk_aw env_ok (none) ?_ | refine walk_aw envR_ok (none) ?_); try simp -implicitDefEqProofs (maxSteps := 1000000) only [go_sem, ↓reduceIte, reduceCtorEq, Nat.reduceLT, Nat.reduceEqDiff, Nat.reduceBEq, Nat.reduceAdd, Nat.reduceMul, Nat.reduceSub, Nat.reduceLeDiff, Int.reduceNeg, Int.reduceLT, Int.reduceLE, Int.reduceEq, Int.reduceAdd, Int.reduceToNat, s0, s1, s5, c, c0, c1, hat, ham, e1])
        exact .inl h
    · have hi' : i = l.length := by omega
      rw [hi', List.take_of_length_le (by omega), List.take_of_length_le (by omega)] at hp
      rw [decide_eq_true hp] at h
      ((try first | refine walk_aw env_ok (none) ?_ | refine walk_aw envR_ok (none) ?_); try simp -implicitDefEqProofs (maxSteps := 1000000) only [go_sem, ↓reduceIte, reduceCtorEq, Nat.reduceLT, Nat.reduceEqDiff, Nat.reduceBEq, Nat.reduceAdd, Nat.reduceMul, Nat.reduceSub, Nat.reduceLeDiff, Int.reduceNeg, Int.reduceLT, Int.reduceLE, Int.reduceEq, Int.reduceAdd, Int.reduceToNat, s0, s1, s5, c])
      exact .inl h
  · have : l ≠ m := by rintro rfl; exact hlm rfl
    rw [decide_eq_false this] at h
    ((try first | refine walk_aw env_ok (none) ?_ | refine walk_aw envR_ok (none) ?_); try simp -implicitDefEqProofs (maxSteps := 1000000) only [go_sem, ↓reduceIte, reduceCtorEq, Nat.reduceLT, Nat.reduceEqDiff, Nat.reduceBEq, Nat.reduceAdd, Nat.reduceMul, Nat.reduceSub, Nat.reduceLeDiff, Int.reduceNeg, Int.reduceLT, Int.reduceLE, Int.reduceEq, Int.reduceAdd, Int.reduceToNat, hlm])
    exact .inl h

/-- How many operations and bytes, as far as most. -/
def bulkO (l : List OV) (n : Nat) : Nat := match l with | [] => n | x :: l => bulkO l (n + x.d.length)
theorem bulkO_le : ∀ (l : List OV) (n : Nat), n ≤ bulkO l n := by
  intro l
  induction l with
  | nil => intro n; exact Nat.le_refl _
  | cons x l ih => intro n; exact Nat.le_trans (by omega) (ih (n + x.d.length))
theorem bulkO_mem : ∀ (l : List OV) (n : Nat) (x : OV), x ∈ l → n + x.d.length ≤ bulkO l n := by
  intro l
  induction l with
  | nil => intro n x h; cases h
  | cons y l ih =>
    intro n x h
    rcases List.mem_cons.1 h with rfl | h
    · exact bulkO_le l _
    · have := ih (n + y.d.length) x h; simp only [bulkO]; omega
theorem Bulk_spec {l : List OV} {n : Nat} (hn : n < 1000000)
    (h : ∀ z : Int, (z ≤ n ↔ l.length ≤ n ∧ bulkO l l.length ≤ n) → Q (.int .i64 z) H) : AC Try.prog 14 [.sl (oA l) none (), .int .i64 n] H Q := by
  refine AC.enter (E := env Try.prog 45 (fun _ => .copy) (fun _ => false)) env_ok Try.func14 rfl rfl rfl (by simp only [List.length_cons, List.length_nil]; exact of_decide_eq_true rfl) ?_
  have hwn : IntKind.i64.wrap ((n : Int) + 1) = n + 1 := by rw [wi64]; omega
  by_cases c : (l.length : Int) > n
  · ((try first | refine walk_aw env_ok (none) ?_ | refine walk_aw envR_ok (none) ?_); try simp -implicitDefEqProofs (maxSteps := 1000000) only [go_sem, ↓reduceIte, reduceCtorEq, Nat.reduceLT, Nat.reduceEqDiff, Nat.reduceBEq, Nat.reduceAdd, Nat.reduceMul, Nat.reduceSub, Nat.reduceLeDiff, Int.reduceNeg, Int.reduceLT, Int.reduceLE, Int.reduceEq, Int.reduceAdd, Int.reduceToNat, c, hwn])
    exact .inl (h _ (by omega))
  · ((try first | refine walk_aw env_ok (none) ?_ | refine walk_aw envR_ok (none) ?_); try simp -implicitDefEqProofs (maxSteps := 1000000) only [go_sem, ↓reduceIte, reduceCtorEq, Nat.reduceLT, Nat.reduceEqDiff, Nat.reduceBEq, Nat.reduceAdd, Nat.reduceMul, Nat.reduceSub, Nat.reduceLeDiff, Int.reduceNeg, Int.reduceLT, Int.reduceLE, Int.reduceEq, Int.reduceAdd, Int.reduceToNat, c])
    refine AW.loop (fun st => ∃ i k : Nat, st.σ 0 = .sl (oA l) none () ∧ st.σ 1 = .int .i64 n ∧ st.σ 5 = .int .i64 k ∧ st.σ 6 = .int .i64 i ∧ i ≤ l.length ∧ k ≤ 2000000 ∧ bulkO (l.drop i) k = bulkO l l.length ∧ st.H = H)
      (fun st => match st.σ 6 with | .int _ n => l.length - n.toNat | _ => 0) ⟨0, l.length, by ((try first | refine walk_aw env_ok (none) ?_ | refine walk_aw envR_ok (none) ?_); try simp -implicitDefEqProofs (maxSteps := 1000000) only [go_sem, ↓reduceIte, reduceCtorEq, Nat.reduceLT, Nat.reduceEqDiff, Nat.reduceBEq, Nat.reduceAdd, Nat.reduceMul, Nat.reduceSub, Nat.reduceLeDiff, Int.reduceNeg, Int.reduceLT, Int.reduceLE, Int.reduceEq, Int.reduceAdd, Int.reduceToNat]); exact ⟨Nat.zero_le _, by omega⟩⟩ ?_
    rintro ⟨σ, G⟩ ⟨i, k, s0, s1, s5, s6, hi, hk, hp, hG⟩
    simp only at s0 s1 s5 s6 hG
    subst hG
    by_cases c2 : (i : Int) < l.length
    · have hil : i < l.length := by omega
      have c0 : (0 : Int) ≤ i := by omega
      have hat := oA_at l i (.undef ()) hil
      have hdr : l.drop i = l.getD i OV.zero :: l.drop (i + 1) := by rw [gd_get hil]; exact List.drop_eq_getElem_cons hil
      have hw : IntKind.i64.wrap ((i : Int) + 1) = ((i + 1 : Nat) : Int) := by rw [wi64]; omega
      rw [hdr] at hp
      simp only [bulkO] at hp
      by_cases c3 : (k : Int) > n
      · ((try first | refine walk_aw env_ok (none) ?_ | refine walk_aw envR_ok (none) ?_); try simp -implicitDefEqProofs (maxSteps := 1000000) only [go_sem, ↓reduceIte, reduceCtorEq, Nat.reduceLT, Nat.reduceEqDiff, Nat.reduceBEq, Nat.reduceAdd, Nat.reduceMul, Nat.reduceSub, Nat.reduceLeDiff, Int.reduceNeg, Int.reduceLT, Int.reduceLE, Int.reduceEq, Int.reduceAdd, Int.reduceToNat, s0, s1, s5, s6, c2, c0, hat, c3, hwn])
        refine .inl (h _ ⟨fun e => by omega, fun e => ?_⟩)
        have := bulkO_le (l.drop (i + 1)) (k + (l.getD i OV.zero).d.length); omega
      · by_cases c4 : ((l.getD i OV.zero).d.length : Int) > n
        · ((try first | refine walk_aw env_ok (none) ?_ | refine walk_aw envR_ok (none) ?_); try simp -implicitDefEqProofs (maxSteps := 1000000) only [go_sem, ↓reduceIte, reduceCtorEq, Nat.reduceLT, Nat.reduceEqDiff, Nat.reduceBEq, Nat.reduceAdd, Nat.reduceMul, Nat.reduceSub, Nat.reduceLeDiff, Int.reduceNeg, Int.reduceLT, Int.reduceLE, Int.reduceEq, Int.reduceAdd, Int.reduceToNat, s0, s1, s5, s6, c2, c0, hat, c3, c4, hwn])
          refine .inl (h _ ⟨fun e => by omega, fun e => ?_⟩)
          have := bulkO_le (l.drop (i + 1)) (k + (l.getD i OV.zero).d.length); omega
        · have hw2 : IntKind.i64.wrap ((k : Int) + (l.getD i OV.zero).d.length) = ((k + (l.getD i OV.zero).d.length : Nat) : Int) := by rw [wi64]; omega
          ((try first | refine walk_aw env_ok (none) ?_ | refine walk_aw envR_ok (none) ?_); try simp -implicitDefEqProofs (maxSteps := 1000000) only [go_sem, ↓reduceIte, reduceCtorEq, Nat.reduceLT, Nat.reduceEqDiff, Nat.reduceBEq, Nat.reduceAdd, Nat.reduceMul, Nat.reduceSub, Nat.reduceLeDiff, Int.reduceNeg, Int.reduceLT, Int.reduceLE, Int.reduceEq, Int.reduceAdd, Int.reduceToNat, s0, s1, s5, s6, c2, c0, hat, c3, c4, hw, hw2])
          exact ⟨⟨i + 1, k + (l.getD i OV.zero).d.length, rfl, rfl, by omega, by omega, hp⟩, by omega⟩
    · have hi' : i = l.length := by omega
      rw [hi', List.drop_length] at hp
      simp only [bulkO] at hp
      ((try first | refine walk_aw env_ok (none) ?_ | refine walk_aw envR_ok (none) ?_); try simp -implicitDefEqProofs (maxSteps := 1000000) only [go_sem, ↓reduceIte, reduceCtorEq, Nat.reduceLT, Nat.reduceEqDiff, Nat.reduceBEq, Nat.reduceAdd, Nat.reduceMul, Nat.reduceSub, Nat.reduceLeDiff, Int.reduceNeg, Int.reduceLT, Int.reduceLE, Int.reduceEq, Int.reduceAdd, Int.reduceToNat, s0, s1, s5, s6, c2])
      exact .inl (h _ (by omega))
end
end Go.Ab
end

section
/- How operations are laid one behind the other. -/
namespace Go.Ab
open V Go.Proofs
set_option maxHeartbeats 8000000
set_option maxRecDepth 10000
set_option linter.unusedSimpArgs false
set_option linter.unusedVariables false

def nA (l : List Nat) : List A := l.map fun (x : Nat) => V.int .i64 x
theorem nA_flagless (l : List Nat) : flaglessL (nA l) = true := by
  rw [flaglessL_all, List.all_eq_true]; intro v hv; obtain ⟨x, _, rfl⟩ := List.mem_map.1 hv; rfl
theorem nA_low (n : Nat) (l : List Nat) : lowL n (nA l) = true := by
  rw [lowL_all, List.all_eq_true]; intro v hv; obtain ⟨x, _, rfl⟩ := List.mem_map.1 hv; rfl
theorem nA_uni (l : List Nat) : Uni 1 (nA l) = true := by
  simp only [Uni, List.all_eq_true, beq_iff_eq]; intro v hv; obtain ⟨x, _, rfl⟩ := List.mem_map.1 hv; rfl
theorem nA_length (l : List Nat) : (nA l).length = l.length := by simp [nA]
theorem nA_strip (l : List Nat) : stripL (nA l) = nA l := by
  rw [stripL_map, nA, List.map_map]; rfl
theorem nA_at (l : List Nat) (i : Nat) (d : A) (h : i < l.length) : (nA l).getD i d = .int .i64 (l.getD i 0 : Nat) := by simp [nA, h]
theorem nA_snoc (l : List Nat) (x : Nat) : nA l ++ [V.int .i64 (x : Int)] = nA (l ++ [x]) := by simp [nA]
theorem Uni_i64 (x : Int) : Uni 1 [V.int (δ := Unit) .i64 x] = true := rfl
attribute [go_sem] nA_flagless nA_low nA_uni nA_length nA_strip Uni_i64

/-- All bytes, the jumps' ways left out. -/
def P0 (l : List OV) : List UInt8 := l.flatMap (put1 · 0)
/-- Where an operation begins. -/
def atL (l : List OV) (i : Nat) : Nat := (P0 (l.take i)).length
/-- A jump's way. -/
def wayI (l : List OV) (i : Nat) : Int := (atL l (l.getD i OV.zero).a : Int) - atL l (i + 1)
def wayU (l : List OV) (i : Nat) : Nat := (wayI l i % 18446744073709551616).toNat
def wOf (l : List OV) (i : Nat) : Nat := if shp (l.getD i OV.zero).code = 8 then wayU l i else 0
/-- The bytes of the first i operations. -/
def PB (l : List OV) (i : Nat) : List UInt8 := (List.range i).flatMap fun j => put1 (l.getD j OV.zero) (wOf l j)
def jOk (l : List OV) (i : Nat) : Bool := decide (shp (l.getD i OV.zero).code ≠ 8 ∨ ((l.getD i OV.zero).a ≤ l.length ∧ -32768 ≤ wayI l i ∧ wayI l i ≤ 32767))
def layOk (l : List OV) : Bool := decide (l.length ≤ 60) && (l.all okN && (List.range l.length).all (jOk l))
def layB (l : List OV) : List UInt8 := PB l l.length
/-- The bytes, when the ways of the first i operations are put. -/
def BB (l : List OV) (i : Nat) : List UInt8 := PB l i ++ P0 (l.drop i)
theorem P0_cons (x : OV) (l : List OV) : P0 (x :: l) = put1 x 0 ++ P0 l := rfl
theorem P0_app (l m : List OV) : P0 (l ++ m) = P0 l ++ P0 m := by simp [P0]
theorem drop_at {l : List OV} {i : Nat} (h : i < l.length) : l.drop i = l.getD i OV.zero :: l.drop (i + 1) := by rw [gd_get h]; exact List.drop_eq_getElem_cons h
theorem take_at {l : List OV} {i : Nat} (h : i < l.length) : l.take (i + 1) = l.take i ++ [l.getD i OV.zero] := by rw [gd_get h]; exact List.take_succ_eq_append_getElem h
theorem P0_take {l : List OV} {i : Nat} (h : i < l.length) : P0 (l.take (i + 1)) = P0 (l.take i) ++ put1 (l.getD i OV.zero) 0 := by
  rw [take_at h, P0_app, P0_cons]; simp [P0]
theorem atL_succ {l : List OV} {i : Nat} (h : i < l.length) : atL l (i + 1) = atL l i + (put1 (l.getD i OV.zero) 0).length := by
  rw [atL, P0_take h, List.length_append]; rfl
theorem atL_zero (l : List OV) : atL l 0 = 0 := rfl
theorem atL_all (l : List OV) : atL l l.length = (P0 l).length := by rw [atL, List.take_length]
theorem PB_succ (l : List OV) (i : Nat) : PB l (i + 1) = PB l i ++ put1 (l.getD i OV.zero) (wOf l i) := by
  simp [PB, List.range_succ, List.flatMap_append]
theorem PB_len {l : List OV} : ∀ {i : Nat}, i ≤ l.length → (PB l i).length = atL l i := by
  intro i
  induction i with
  | zero => intro _; rfl
  | succ i ih =>
    intro h
    rw [PB_succ, List.length_append, ih (by omega), atL_succ (by omega), put1_way _ (wOf l i) 0]
theorem BB_zero (l : List OV) : BB l 0 = P0 l := by simp [BB, PB]
theorem BB_all (l : List OV) : BB l l.length = layB l := by simp [BB, layB, P0]
theorem BB_plain {l : List OV} {i : Nat} (h : i < l.length) (h8 : shp (l.getD i OV.zero).code ≠ 8) : BB l (i + 1) = BB l i := by
  rw [BB, BB, PB_succ, drop_at h, P0_cons, List.append_assoc, put1_no h8 (wOf l i) 0]
theorem put1_jump {x : OV} (h8 : shp x.code = 8) (w : Nat) : put1 x w = UInt8.ofNat x.code.toNat :: leB 2 w := by
  unfold put1 tail1
  repeat (first | rw [if_pos (by omega)] | rw [if_neg (by omega)])
theorem leB_bA (k n : Nat) : (bA (leB k n)).length = k := by rw [bA_length, leB_length]
theorem BB_len {l : List OV} {i : Nat} (h : i ≤ l.length) : (BB l i).length = (P0 l).length := by
  rw [BB, List.length_append, PB_len h]
  conv => rhs; rw [← List.take_append_drop i l, P0_app, List.length_append]
  rfl
theorem at_fit {l : List OV} {i : Nat} (h : i < l.length) (h8 : shp (l.getD i OV.zero).code = 8) : atL l i + 3 ≤ (P0 l).length := by
  have h1 := BB_len (l := l) (i := i) (by omega)
  rw [BB, List.length_append, PB_len (by omega), drop_at h, P0_cons, List.length_append, put1_jump h8, List.length_cons, leB_length] at h1
  omega
theorem BB_jump {l : List OV} {i : Nat} (h : i < l.length) (h8 : shp (l.getD i OV.zero).code = 8) : putRange (bA (BB l i)) (atL l i + 1) (bA (leB 2 (wayU l i))) = bA (BB l (i + 1)) := by
  have hw : wOf l i = wayU l i := if_pos h8
  rw [BB, BB, PB_succ, drop_at h, P0_cons, put1_jump h8, put1_jump h8, hw]
  have hl := PB_len (l := l) (i := i) (by omega)
  simp only [putRange, bA, List.map_append, List.map_cons, List.length_map, leB_length, List.append_assoc, List.cons_append]
  have e1 : ∀ (a b : List A) (c : A), (a ++ (c :: b)).take (a.length + 1) = a ++ [c] := by
    intro a b c
    rw [List.take_append, List.take_of_length_le (by omega), Nat.add_sub_cancel_left]; rfl
  have e2 : ∀ (a b m : List A) (c : A), m.length = 2 → (a ++ (c :: (m ++ b))).drop (a.length + 1 + 2) = b := by
    intro a b m c hm
    rw [List.drop_append, List.drop_of_length_le (by omega), show a.length + 1 + 2 - a.length = 3 by omega]
    show [] ++ (m ++ b).drop 2 = b
    rw [List.drop_append, List.drop_of_length_le (by omega), hm]; rfl
  have hlm : ((PB l i).map byteA).length = atL l i := by rw [List.length_map, hl]
  rw [← hlm, e1, e2 _ _ _ _ (by rw [List.length_map, leB_length])]
  simp
theorem P0_le {l : List OV} (hx : ∀ x ∈ l, x.In ∧ x.d.length ≤ 65536) (hl : l.length ≤ 60) : ∀ i, i ≤ l.length → atL l i ≤ i * 70000 := by
  intro i
  induction i with
  | zero => intro _; exact Nat.le_refl _
  | succ i ih =>
    intro h
    have h1 := hx _ (gd_mem (d := OV.zero) (show i < l.length by omega))
    have h2 := put1_len h1.1 0
    rw [atL_succ (by omega)]
    have := ih (by omega)
    omega
/-- The places at which the first i operations begin. -/
def offs (l : List OV) (i : Nat) : List Nat := (List.range i).map (atL l)
theorem offs_len (l : List OV) (i : Nat) : (offs l i).length = i := by simp [offs]
theorem offs_at {l : List OV} {i j : Nat} (h : j < i) : (offs l i).getD j 0 = atL l j := by simp [offs, h]
theorem offs_succ (l : List OV) (i : Nat) : offs l i ++ [atL l i] = offs l (i + 1) := by simp [offs, List.range_succ]
theorem okN_d {x : OV} (h : okN x = true) : x.d.length ≤ 65536 ∧ shp x.code ≠ 0 := by
  unfold okN at h
  split at h
  · cases h
  · rename_i hb; unfold badN at hb; omega
theorem wayU_lt (l : List OV) (i : Nat) : wayU l i < 18446744073709551616 := by unfold wayU; omega
theorem way_ext {l : List OV} {i : Nat} (hr : -4611686018427387904 ≤ wayI l i ∧ wayI l i < 4611686018427387904) : ext (wayU l i) 2 = wayU l i ↔ (-32768 ≤ wayI l i ∧ wayI l i ≤ 32767) := by
  unfold ext wayU
  simp only [Nat.reducePow, Nat.reduceMul, Nat.reduceSub]
  generalize wayI l i = z at hr
  split <;> omega
end Go.Ab
end

section
/- Operations that are read, one by one. -/
namespace Go.Ab
open V Go.Proofs
set_option maxHeartbeats 16000000
set_option maxRecDepth 10000
set_option linter.unusedSimpArgs false
set_option linter.unusedVariables false

def usg (z : Int) : Nat := (z % 18446744073709551616).toNat
theorem wu_usg (z : Int) : IntKind.u64.wrap z = (usg z : Nat) := by rw [wu64]; unfold usg; omega
theorem usg_lt (z : Int) : usg z < 18446744073709551616 := by unfold usg; omega
/-- Bytes behind their size. -/
def dat (s : CS) : List UInt8 × CS := (if s.uleb.1 > 65536 then s.uleb.2.fail 3 else s.uleb.2).take s.uleb.1
/-- An operation is read; a jump's A is its way. -/
def tkv (s : CS) (c : Int) : OV × CS :=
  if shp c = 0 then (⟨c, 0, 0, []⟩, s.fail 46)
  else if shp c = 2 then (⟨c, le (s.take 8).1, 0, []⟩, (s.take 8).2)
  else if shp c = 3 then (⟨c, le (s.take (szo c)).1, 0, []⟩, (s.take (szo c)).2)
  else if shp c = 4 then (⟨c, ext (le (s.take (szo c)).1) (szo c), 0, []⟩, (s.take (szo c)).2)
  else if shp c = 5 then (⟨c, s.uleb.1, 0, []⟩, s.uleb.2)
  else if shp c = 6 then (⟨c, usg s.sleb.1, 0, []⟩, s.sleb.2)
  else if shp c = 7 then (⟨c, le (s.take 1).1, 0, []⟩, (s.take 1).2)
  else if shp c = 8 then (⟨c, ext (le (s.take 2).1) 2, 0, []⟩, (s.take 2).2)
  else if shp c = 9 then (⟨c, s.uleb.1, usg s.uleb.2.sleb.1, []⟩, s.uleb.2.sleb.2)
  else if shp c = 10 then (⟨c, s.uleb.1, s.uleb.2.uleb.1, []⟩, s.uleb.2.uleb.2)
  else if shp c = 11 then (⟨c, 0, 0, (dat s).1⟩, (dat s).2)
  else (⟨c, 0, 0, []⟩, s)
def tk1 (s : CS) : OV × CS :=
  if (s.take 1).2.err ≠ 0 then (OV.zero, (s.take 1).2) else tkv (s.take 1).2 (le (s.take 1).1 : Nat)

theorem le_u64 {l : List UInt8} (h : l.length ≤ 8) : le l < 18446744073709551616 :=
  Nat.lt_of_lt_of_le (le_lt l) (Nat.le_trans (Nat.pow_le_pow_right (by decide) h) (by decide))
section
variable {p : Nat} {s : CS} {H : Heap} {Q : A → Heap → Prop}
theorem dat_b {s : CS} (hs : s.Ok) : (dat s).2.b = s.b := by
  unfold dat; rw [CS.take_b]; split
  · rw [CS.fail_b, CS.uleb_b hs]
  · rw [CS.uleb_b hs]
theorem dat_ok {s : CS} (hs : s.Ok) : (dat s).2.Ok := by
  unfold dat; refine CS.Ok.take ?_ _; split
  · exact hs.uleb.fail (by omega) (by omega)
  · exact hs.uleb
theorem data_spec (hs : s.Ok) (hb : s.b.length < 140737488355328) (hp : H[p]? = some (.cells s.cur)) (h : Q (.sl (bA (dat s).1) none ()) (H.set p (.cells (dat s).2.cur))) : AC Try.prog 88 [.ptr (some (p, 0))] H Q := by
  have hg := fun y => get_set (x := .cells s.cur) (y := y) hp
  unfold dat at h
  refine AC.enter (E := env Try.prog 13 (fun _ => .copy) (fun _ => false)) env_ok Try.func88 rfl rfl rfl (by simp only [List.length_cons, List.length_nil]; exact of_decide_eq_true rfl) ?_
  ((try first | refine walk_aw env_ok (none) ?_ | refine walk_aw envR_ok (none) ?_); try simp -implicitDefEqProofs (maxSteps := 1000000) only [go_sem, ↓reduceIte, reduceCtorEq, Nat.reduceLT, Nat.reduceEqDiff, Nat.reduceBEq, Nat.reduceAdd, Nat.reduceMul, Nat.reduceSub, Nat.reduceLeDiff, Int.reduceNeg, Int.reduceLT, Int.reduceLE, Int.reduceEq, Int.reduceAdd, Int.reduceToNat])
  refine U_spec hs hp ?_
  have hlt := s.uleb_lt hs
  have hok := hs.uleb
  have hub := CS.uleb_b hs
  by_cases c : (s.uleb.1 : Int) > 65536
  · rw [if_pos (by omega)] at h
    ((try first | refine walk_aw env_ok (none) ?_ | refine walk_aw envR_ok (none) ?_); try simp -implicitDefEqProofs (maxSteps := 1000000) only [go_sem, ↓reduceIte, reduceCtorEq, Nat.reduceLT, Nat.reduceEqDiff, Nat.reduceBEq, Nat.reduceAdd, Nat.reduceMul, Nat.reduceSub, Nat.reduceLeDiff, Int.reduceNeg, Int.reduceLT, Int.reduceLE, Int.reduceEq, Int.reduceAdd, Int.reduceToNat, c])
    refine Fail_spec (hg _) ?_
    rw [set_set]
    ((try first | refine walk_aw env_ok (none) ?_ | refine walk_aw envR_ok (none) ?_); try simp -implicitDefEqProofs (maxSteps := 1000000) only [go_sem, ↓reduceIte, reduceCtorEq, Nat.reduceLT, Nat.reduceEqDiff, Nat.reduceBEq, Nat.reduceAdd, Nat.reduceMul, Nat.reduceSub, Nat.reduceLeDiff, Int.reduceNeg, Int.reduceLT, Int.reduceLE, Int.reduceEq, Int.reduceAdd, Int.reduceToNat])
    refine Bytes_spec hlt (by rw [CS.fail_b, hub]; exact hb) (hok.fail (by omega) (by omega)) (hg _) ?_
    rw [set_set]
    ((try first | refine walk_aw env_ok (none) ?_ | refine walk_aw envR_ok (none) ?_); try simp -implicitDefEqProofs (maxSteps := 1000000) only [go_sem, ↓reduceIte, reduceCtorEq, Nat.reduceLT, Nat.reduceEqDiff, Nat.reduceBEq, Nat.reduceAdd, Nat.reduceMul, Nat.reduceSub, Nat.reduceLeDiff, Int.reduceNeg, Int.reduceLT, Int.reduceLE, Int.reduceEq, Int.reduceAdd, Int.reduceToNat])
    exact .inl h
  · rw [if_neg (by omega)] at h
    ((try first | refine walk_aw env_ok (none) ?_ | refine walk_aw envR_ok (none) ?_); try simp -implicitDefEqProofs (maxSteps := 1000000) only [go_sem, ↓reduceIte, reduceCtorEq, Nat.reduceLT, Nat.reduceEqDiff, Nat.reduceBEq, Nat.reduceAdd, Nat.reduceMul, Nat.reduceSub, Nat.reduceLeDiff, Int.reduceNeg, Int.reduceLT, Int.reduceLE, Int.reduceEq, Int.reduceAdd, Int.reduceToNat, c])
    refine Bytes_spec hlt (by rw [hub]; exact hb) hok (hg _) ?_
    rw [set_set]
    ((try first | refine walk_aw env_ok (none) ?_ | refine walk_aw envR_ok (none) ?_); try simp -implicitDefEqProofs (maxSteps := 1000000) only [go_sem, ↓reduceIte, reduceCtorEq, Nat.reduceLT, Nat.reduceEqDiff, Nat.reduceBEq, Nat.reduceAdd, Nat.reduceMul, Nat.reduceSub, Nat.reduceLeDiff, Int.reduceNeg, Int.reduceLT, Int.reduceLE, Int.reduceEq, Int.reduceAdd, Int.reduceToNat])
    exact .inl h
theorem tk_spec (hs : s.Ok) (hb : s.b.length < 140737488355328) (hp : H[p]? = some (.cells s.cur)) (h : Q (.agg (tk1 s).1.cells) (H.set p (.cells (tk1 s).2.cur))) :
    AC Try.prog 39 [.ptr (some (p, 0))] H Q := by
  have hin := fun Z => in_get (x := .cells s.cur) (H := H) (p := p) Z hp
  have his := fun Z y => in_set (x := .cells s.cur) (H := H) (p := p) Z y hp
  have hsg := fun Z y => sin_get (x := .cells s.cur) (H := H) (p := p) Z y hp
  have hss := fun Z y z => sin_set (x := .cells s.cur) (H := H) (p := p) Z y z hp
  refine AC.strip (E := env Try.prog 0 (fun _ => .copy) (fun _ => false)) env_ok ?_
  have hl1 := take_len s 1
  have hv1 := le_lt (s.take 1).1
  have hv2 : le (s.take 1).1 < 256 := Nat.lt_of_lt_of_le hv1 (Nat.le_trans (Nat.pow_le_pow_right (by decide) hl1) (by decide))
  have hwc : IntKind.i64.wrap (le (s.take 1).1 : Nat) = ((le (s.take 1).1 : Nat) : Int) := by rw [wi64]; omega
  refine AC.enter (E := env Try.prog 96 (fun _ => .copy) (fun _ => false)) env_ok Try.func39 rfl rfl rfl (by simp only [List.length_cons, List.length_nil]; exact of_decide_eq_true rfl) ?_
  ((try first | refine walk_aw env_ok (none) ?_ | refine walk_aw envR_ok (none) ?_); try simp -implicitDefEqProofs (maxSteps := 1000000) only [go_sem, ↓reduceIte, reduceCtorEq, Nat.reduceLT, Nat.reduceEqDiff, Nat.reduceBEq, Nat.reduceAdd, Nat.reduceMul, Nat.reduceSub, Nat.reduceLeDiff, Int.reduceNeg, Int.reduceLT, Int.reduceLE, Int.reduceEq, Int.reduceAdd, Int.reduceToNat])
  refine U8_spec hs (hin _) ?_
  ((try first | refine walk_aw env_ok (none) ?_ | refine walk_aw envR_ok (none) ?_); try simp -implicitDefEqProofs (maxSteps := 1000000) only [go_sem, ↓reduceIte, reduceCtorEq, Nat.reduceLT, Nat.reduceEqDiff, Nat.reduceBEq, Nat.reduceAdd, Nat.reduceMul, Nat.reduceSub, Nat.reduceLeDiff, Int.reduceNeg, Int.reduceLT, Int.reduceLE, Int.reduceEq, Int.reduceAdd, Int.reduceToNat, his, hss, hwc])
  refine Err_spec (hsg _ _) ?_
  by_cases e1 : (s.take 1).2.err = 0
  · rw [tk1, if_neg (by omega)] at h
    have hs1 := hs.take 1
    have hb1 : (s.take 1).2.b.length < 140737488355328 := by rw [CS.take_b]; exact hb
    generalize hs1e : (s.take 1).2 = s1 at *
    generalize hc : ((le (s.take 1).1 : Nat) : Int) = c at *
    have hr := shp_range c
    ((try first | refine walk_aw env_ok (none) ?_ | refine walk_aw envR_ok (none) ?_); try simp -implicitDefEqProofs (maxSteps := 1000000) only [go_sem, ↓reduceIte, reduceCtorEq, Nat.reduceLT, Nat.reduceEqDiff, Nat.reduceBEq, Nat.reduceAdd, Nat.reduceMul, Nat.reduceSub, Nat.reduceLeDiff, Int.reduceNeg, Int.reduceLT, Int.reduceLE, Int.reduceEq, Int.reduceAdd, Int.reduceToNat, e1])
    refine Shape_spec ?_
    by_cases cs : shp c = 0
    · have q0 : (shp c = 0) = True := eq_true cs
      have q2 : ¬ shp c = 2 := by omega
      have q3 : ¬ shp c = 3 := by omega
      have q4 : ¬ shp c = 4 := by omega
      have q5 : ¬ shp c = 5 := by omega
      have q6 : ¬ shp c = 6 := by omega
      have q7 : ¬ shp c = 7 := by omega
      have q8 : ¬ shp c = 8 := by omega
      have q9 : ¬ shp c = 9 := by omega
      have q10 : ¬ shp c = 10 := by omega
      have q11 : ¬ shp c = 11 := by omega
      have ht : tkv s1 c = (⟨c, 0, 0, []⟩, s1.fail 46) := by unfold tkv; (repeat (first | rw [if_pos (by omega)] | rw [if_neg (by omega)]))
      rw [ht] at h
      ((try first | refine walk_aw env_ok (none) ?_ | refine walk_aw envR_ok (none) ?_); try simp -implicitDefEqProofs (maxSteps := 1000000) only [go_sem, ↓reduceIte, reduceCtorEq, Nat.reduceLT, Nat.reduceEqDiff, Nat.reduceBEq, Nat.reduceAdd, Nat.reduceMul, Nat.reduceSub, Nat.reduceLeDiff, Int.reduceNeg, Int.reduceLT, Int.reduceLE, Int.reduceEq, Int.reduceAdd, Int.reduceToNat, q0, q2, q3, q4, q5, q6, q7, q8, q9, q10, q11, his, hss])
      refine Fail_spec (hsg _ _) ?_
      ((try first | refine walk_aw env_ok (none) ?_ | refine walk_aw envR_ok (none) ?_); try simp -implicitDefEqProofs (maxSteps := 1000000) only [go_sem, ↓reduceIte, reduceCtorEq, Nat.reduceLT, Nat.reduceEqDiff, Nat.reduceBEq, Nat.reduceAdd, Nat.reduceMul, Nat.reduceSub, Nat.reduceLeDiff, Int.reduceNeg, Int.reduceLT, Int.reduceLE, Int.reduceEq, Int.reduceAdd, Int.reduceToNat, q0, q2, q3, q4, q5, q6, q7, q8, q9, q10, q11, his, hss])
      exact .inr h
    by_cases cs : shp c = 1
    · have q0 : ¬ shp c = 0 := by omega
      have q2 : ¬ shp c = 2 := by omega
      have q3 : ¬ shp c = 3 := by omega
      have q4 : ¬ shp c = 4 := by omega
      have q5 : ¬ shp c = 5 := by omega
      have q6 : ¬ shp c = 6 := by omega
      have q7 : ¬ shp c = 7 := by omega
      have q8 : ¬ shp c = 8 := by omega
      have q9 : ¬ shp c = 9 := by omega
      have q10 : ¬ shp c = 10 := by omega
      have q11 : ¬ shp c = 11 := by omega
      have ht : tkv s1 c = (⟨c, 0, 0, []⟩, s1) := by unfold tkv; (repeat (first | rw [if_pos (by omega)] | rw [if_neg (by omega)]))
      rw [ht] at h
      ((try first | refine walk_aw env_ok (none) ?_ | refine walk_aw envR_ok (none) ?_); try simp -implicitDefEqProofs (maxSteps := 1000000) only [go_sem, ↓reduceIte, reduceCtorEq, Nat.reduceLT, Nat.reduceEqDiff, Nat.reduceBEq, Nat.reduceAdd, Nat.reduceMul, Nat.reduceSub, Nat.reduceLeDiff, Int.reduceNeg, Int.reduceLT, Int.reduceLE, Int.reduceEq, Int.reduceAdd, Int.reduceToNat, q0, q2, q3, q4, q5, q6, q7, q8, q9, q10, q11, his, hss])
      exact .inr h
    by_cases cs : shp c = 2
    · have q0 : ¬ shp c = 0 := by omega
      have q2 : (shp c = 2) = True := eq_true cs
      have q3 : ¬ shp c = 3 := by omega
      have q4 : ¬ shp c = 4 := by omega
      have q5 : ¬ shp c = 5 := by omega
      have q6 : ¬ shp c = 6 := by omega
      have q7 : ¬ shp c = 7 := by omega
      have q8 : ¬ shp c = 8 := by omega
      have q9 : ¬ shp c = 9 := by omega
      have q10 : ¬ shp c = 10 := by omega
      have q11 : ¬ shp c = 11 := by omega
      have ht : tkv s1 c = (⟨c, le (s1.take 8).1, 0, []⟩, (s1.take 8).2) := by unfold tkv; (repeat (first | rw [if_pos (by omega)] | rw [if_neg (by omega)]))
      rw [ht] at h
      ((try first | refine walk_aw env_ok (none) ?_ | refine walk_aw envR_ok (none) ?_); try simp -implicitDefEqProofs (maxSteps := 1000000) only [go_sem, ↓reduceIte, reduceCtorEq, Nat.reduceLT, Nat.reduceEqDiff, Nat.reduceBEq, Nat.reduceAdd, Nat.reduceMul, Nat.reduceSub, Nat.reduceLeDiff, Int.reduceNeg, Int.reduceLT, Int.reduceLE, Int.reduceEq, Int.reduceAdd, Int.reduceToNat, q0, q2, q3, q4, q5, q6, q7, q8, q9, q10, q11, his, hss])
      refine U64_spec hs1 (hsg _ _) ?_
      ((try first | refine walk_aw env_ok (none) ?_ | refine walk_aw envR_ok (none) ?_); try simp -implicitDefEqProofs (maxSteps := 1000000) only [go_sem, ↓reduceIte, reduceCtorEq, Nat.reduceLT, Nat.reduceEqDiff, Nat.reduceBEq, Nat.reduceAdd, Nat.reduceMul, Nat.reduceSub, Nat.reduceLeDiff, Int.reduceNeg, Int.reduceLT, Int.reduceLE, Int.reduceEq, Int.reduceAdd, Int.reduceToNat, q0, q2, q3, q4, q5, q6, q7, q8, q9, q10, q11, his, hss])
      exact .inr h
    by_cases cs : shp c = 3
    · have q0 : ¬ shp c = 0 := by omega
      have q2 : ¬ shp c = 2 := by omega
      have q3 : (shp c = 3) = True := eq_true cs
      have q4 : ¬ shp c = 4 := by omega
      have q5 : ¬ shp c = 5 := by omega
      have q6 : ¬ shp c = 6 := by omega
      have q7 : ¬ shp c = 7 := by omega
      have q8 : ¬ shp c = 8 := by omega
      have q9 : ¬ shp c = 9 := by omega
      have q10 : ¬ shp c = 10 := by omega
      have q11 : ¬ shp c = 11 := by omega
      have ht : tkv s1 c = (⟨c, le (s1.take (szo c)).1, 0, []⟩, (s1.take (szo c)).2) := by unfold tkv; (repeat (first | rw [if_pos (by omega)] | rw [if_neg (by omega)]))
      rw [ht] at h
      have hsz := szo_or c
      have hm : (min (max ((szo c : Nat) : Int) 0) 8).toNat = szo c := by rcases hsz with e | e | e | e <;> rw [e] <;> rfl
      ((try first | refine walk_aw env_ok (none) ?_ | refine walk_aw envR_ok (none) ?_); try simp -implicitDefEqProofs (maxSteps := 1000000) only [go_sem, ↓reduceIte, reduceCtorEq, Nat.reduceLT, Nat.reduceEqDiff, Nat.reduceBEq, Nat.reduceAdd, Nat.reduceMul, Nat.reduceSub, Nat.reduceLeDiff, Int.reduceNeg, Int.reduceLT, Int.reduceLE, Int.reduceEq, Int.reduceAdd, Int.reduceToNat, q0, q2, q3, q4, q5, q6, q7, q8, q9, q10, q11, his, hss])
      refine osize_spec (shp_plain (c := c) (by omega)) ?_
      ((try first | refine walk_aw env_ok (none) ?_ | refine walk_aw envR_ok (none) ?_); try simp -implicitDefEqProofs (maxSteps := 1000000) only [go_sem, ↓reduceIte, reduceCtorEq, Nat.reduceLT, Nat.reduceEqDiff, Nat.reduceBEq, Nat.reduceAdd, Nat.reduceMul, Nat.reduceSub, Nat.reduceLeDiff, Int.reduceNeg, Int.reduceLT, Int.reduceLE, Int.reduceEq, Int.reduceAdd, Int.reduceToNat, q0, q2, q3, q4, q5, q6, q7, q8, q9, q10, q11, his, hss])
      refine Uint_spec hs1 (hsg _ _) ?_
      rw [hm]
      ((try first | refine walk_aw env_ok (none) ?_ | refine walk_aw envR_ok (none) ?_); try simp -implicitDefEqProofs (maxSteps := 1000000) only [go_sem, ↓reduceIte, reduceCtorEq, Nat.reduceLT, Nat.reduceEqDiff, Nat.reduceBEq, Nat.reduceAdd, Nat.reduceMul, Nat.reduceSub, Nat.reduceLeDiff, Int.reduceNeg, Int.reduceLT, Int.reduceLE, Int.reduceEq, Int.reduceAdd, Int.reduceToNat, q0, q2, q3, q4, q5, q6, q7, q8, q9, q10, q11, his, hss])
      exact .inr h
    by_cases cs : shp c = 4
    · have q0 : ¬ shp c = 0 := by omega
      have q2 : ¬ shp c = 2 := by omega
      have q3 : ¬ shp c = 3 := by omega
      have q4 : (shp c = 4) = True := eq_true cs
      have q5 : ¬ shp c = 5 := by omega
      have q6 : ¬ shp c = 6 := by omega
      have q7 : ¬ shp c = 7 := by omega
      have q8 : ¬ shp c = 8 := by omega
      have q9 : ¬ shp c = 9 := by omega
      have q10 : ¬ shp c = 10 := by omega
      have q11 : ¬ shp c = 11 := by omega
      have ht : tkv s1 c = (⟨c, ext (le (s1.take (szo c)).1) (szo c), 0, []⟩, (s1.take (szo c)).2) := by unfold tkv; (repeat (first | rw [if_pos (by omega)] | rw [if_neg (by omega)]))
      rw [ht] at h
      have hsz := szo_or c
      have hc0 := shp_plain (c := c) (by omega)
      have hm : (min (max ((szo c : Nat) : Int) 0) 8).toNat = szo c := by rcases hsz with e | e | e | e <;> rw [e] <;> rfl
      have hlv : le (s1.take (szo c)).1 < 18446744073709551616 := le_u64 (Nat.le_trans (take_len s1 (szo c)) (by omega))
      ((try first | refine walk_aw env_ok (none) ?_ | refine walk_aw envR_ok (none) ?_); try simp -implicitDefEqProofs (maxSteps := 1000000) only [go_sem, ↓reduceIte, reduceCtorEq, Nat.reduceLT, Nat.reduceEqDiff, Nat.reduceBEq, Nat.reduceAdd, Nat.reduceMul, Nat.reduceSub, Nat.reduceLeDiff, Int.reduceNeg, Int.reduceLT, Int.reduceLE, Int.reduceEq, Int.reduceAdd, Int.reduceToNat, q0, q2, q3, q4, q5, q6, q7, q8, q9, q10, q11, his, hss])
      refine AW.chain env_ok [0, 0, 2, 6, 15, 0, 32, 127, 255, 511, 1023] [0, 1, 2, 3, 5, 6] [(4, [5, 6], [7, 8, 9]), (10, [], [])] mixed (by decide) ?_
      ((try first | refine walk_aw env_ok (none) ?_ | refine walk_aw envR_ok (none) ?_); try simp -implicitDefEqProofs (maxSteps := 1000000) only [go_sem, ↓reduceIte, reduceCtorEq, Nat.reduceLT, Nat.reduceEqDiff, Nat.reduceBEq, Nat.reduceAdd, Nat.reduceMul, Nat.reduceSub, Nat.reduceLeDiff, Int.reduceNeg, Int.reduceLT, Int.reduceLE, Int.reduceEq, Int.reduceAdd, Int.reduceToNat, q0, q2, q3, q4, q5, q6, q7, q8, q9, q10, q11, his, hss])
      refine QC.mk (osize_spec hc0 ⟨rfl, rfl⟩) ?_
      ((try first | refine walk_aw env_ok (none) ?_ | refine walk_aw envR_ok (none) ?_); try simp -implicitDefEqProofs (maxSteps := 1000000) only [go_sem, ↓reduceIte, reduceCtorEq, Nat.reduceLT, Nat.reduceEqDiff, Nat.reduceBEq, Nat.reduceAdd, Nat.reduceMul, Nat.reduceSub, Nat.reduceLeDiff, Int.reduceNeg, Int.reduceLT, Int.reduceLE, Int.reduceEq, Int.reduceAdd, Int.reduceToNat, q0, q2, q3, q4, q5, q6, q7, q8, q9, q10, q11, his, hss])
      refine Uint_spec hs1 (hsg _ _) ?_
      rw [hm]
      ((try first | refine walk_aw env_ok (none) ?_ | refine walk_aw envR_ok (none) ?_); try simp -implicitDefEqProofs (maxSteps := 1000000) only [go_sem, ↓reduceIte, reduceCtorEq, Nat.reduceLT, Nat.reduceEqDiff, Nat.reduceBEq, Nat.reduceAdd, Nat.reduceMul, Nat.reduceSub, Nat.reduceLeDiff, Int.reduceNeg, Int.reduceLT, Int.reduceLE, Int.reduceEq, Int.reduceAdd, Int.reduceToNat, q0, q2, q3, q4, q5, q6, q7, q8, q9, q10, q11, his, hss])
      refine QC.mk (osize_spec hc0 ⟨rfl, rfl⟩) ?_
      ((try first | refine walk_aw env_ok (none) ?_ | refine walk_aw envR_ok (none) ?_); try simp -implicitDefEqProofs (maxSteps := 1000000) only [go_sem, ↓reduceIte, reduceCtorEq, Nat.reduceLT, Nat.reduceEqDiff, Nat.reduceBEq, Nat.reduceAdd, Nat.reduceMul, Nat.reduceSub, Nat.reduceLeDiff, Int.reduceNeg, Int.reduceLT, Int.reduceLE, Int.reduceEq, Int.reduceAdd, Int.reduceToNat, q0, q2, q3, q4, q5, q6, q7, q8, q9, q10, q11, his, hss])
      refine QC.mk (extended_spec hlv hsz ⟨rfl, rfl⟩) ?_
      ((try first | refine walk_aw env_ok (none) ?_ | refine walk_aw envR_ok (none) ?_); try simp -implicitDefEqProofs (maxSteps := 1000000) only [go_sem, ↓reduceIte, reduceCtorEq, Nat.reduceLT, Nat.reduceEqDiff, Nat.reduceBEq, Nat.reduceAdd, Nat.reduceMul, Nat.reduceSub, Nat.reduceLeDiff, Int.reduceNeg, Int.reduceLT, Int.reduceLE, Int.reduceEq, Int.reduceAdd, Int.reduceToNat, q0, q2, q3, q4, q5, q6, q7, q8, q9, q10, q11, his, hss])
      exact .inr h
    by_cases cs : shp c = 5
    · have q0 : ¬ shp c = 0 := by omega
      have q2 : ¬ shp c = 2 := by omega
      have q3 : ¬ shp c = 3 := by omega
      have q4 : ¬ shp c = 4 := by omega
      have q5 : (shp c = 5) = True := eq_true cs
      have q6 : ¬ shp c = 6 := by omega
      have q7 : ¬ shp c = 7 := by omega
      have q8 : ¬ shp c = 8 := by omega
      have q9 : ¬ shp c = 9 := by omega
      have q10 : ¬ shp c = 10 := by omega
      have q11 : ¬ shp c = 11 := by omega
      have ht : tkv s1 c = (⟨c, s1.uleb.1, 0, []⟩, s1.uleb.2) := by unfold tkv; (repeat (first | rw [if_pos (by omega)] | rw [if_neg (by omega)]))
      rw [ht] at h
      ((try first | refine walk_aw env_ok (none) ?_ | refine walk_aw envR_ok (none) ?_); try simp -implicitDefEqProofs (maxSteps := 1000000) only [go_sem, ↓reduceIte, reduceCtorEq, Nat.reduceLT, Nat.reduceEqDiff, Nat.reduceBEq, Nat.reduceAdd, Nat.reduceMul, Nat.reduceSub, Nat.reduceLeDiff, Int.reduceNeg, Int.reduceLT, Int.reduceLE, Int.reduceEq, Int.reduceAdd, Int.reduceToNat, q0, q2, q3, q4, q5, q6, q7, q8, q9, q10, q11, his, hss])
      refine U_spec hs1 (hsg _ _) ?_
      ((try first | refine walk_aw env_ok (none) ?_ | refine walk_aw envR_ok (none) ?_); try simp -implicitDefEqProofs (maxSteps := 1000000) only [go_sem, ↓reduceIte, reduceCtorEq, Nat.reduceLT, Nat.reduceEqDiff, Nat.reduceBEq, Nat.reduceAdd, Nat.reduceMul, Nat.reduceSub, Nat.reduceLeDiff, Int.reduceNeg, Int.reduceLT, Int.reduceLE, Int.reduceEq, Int.reduceAdd, Int.reduceToNat, q0, q2, q3, q4, q5, q6, q7, q8, q9, q10, q11, his, hss])
      exact .inr h
    by_cases cs : shp c = 6
    · have q0 : ¬ shp c = 0 := by omega
      have q2 : ¬ shp c = 2 := by omega
      have q3 : ¬ shp c = 3 := by omega
      have q4 : ¬ shp c = 4 := by omega
      have q5 : ¬ shp c = 5 := by omega
      have q6 : (shp c = 6) = True := eq_true cs
      have q7 : ¬ shp c = 7 := by omega
      have q8 : ¬ shp c = 8 := by omega
      have q9 : ¬ shp c = 9 := by omega
      have q10 : ¬ shp c = 10 := by omega
      have q11 : ¬ shp c = 11 := by omega
      have ht : tkv s1 c = (⟨c, usg s1.sleb.1, 0, []⟩, s1.sleb.2) := by unfold tkv; (repeat (first | rw [if_pos (by omega)] | rw [if_neg (by omega)]))
      rw [ht] at h
      ((try first | refine walk_aw env_ok (none) ?_ | refine walk_aw envR_ok (none) ?_); try simp -implicitDefEqProofs (maxSteps := 1000000) only [go_sem, ↓reduceIte, reduceCtorEq, Nat.reduceLT, Nat.reduceEqDiff, Nat.reduceBEq, Nat.reduceAdd, Nat.reduceMul, Nat.reduceSub, Nat.reduceLeDiff, Int.reduceNeg, Int.reduceLT, Int.reduceLE, Int.reduceEq, Int.reduceAdd, Int.reduceToNat, q0, q2, q3, q4, q5, q6, q7, q8, q9, q10, q11, his, hss])
      refine S_spec hs1 (hsg _ _) ?_
      ((try first | refine walk_aw env_ok (none) ?_ | refine walk_aw envR_ok (none) ?_); try simp -implicitDefEqProofs (maxSteps := 1000000) only [go_sem, ↓reduceIte, reduceCtorEq, Nat.reduceLT, Nat.reduceEqDiff, Nat.reduceBEq, Nat.reduceAdd, Nat.reduceMul, Nat.reduceSub, Nat.reduceLeDiff, Int.reduceNeg, Int.reduceLT, Int.reduceLE, Int.reduceEq, Int.reduceAdd, Int.reduceToNat, q0, q2, q3, q4, q5, q6, q7, q8, q9, q10, q11, his, hss, wu_usg])
      exact .inr h
    by_cases cs : shp c = 7
    · have q0 : ¬ shp c = 0 := by omega
      have q2 : ¬ shp c = 2 := by omega
      have q3 : ¬ shp c = 3 := by omega
      have q4 : ¬ shp c = 4 := by omega
      have q5 : ¬ shp c = 5 := by omega
      have q6 : ¬ shp c = 6 := by omega
      have q7 : (shp c = 7) = True := eq_true cs
      have q8 : ¬ shp c = 8 := by omega
      have q9 : ¬ shp c = 9 := by omega
      have q10 : ¬ shp c = 10 := by omega
      have q11 : ¬ shp c = 11 := by omega
      have ht : tkv s1 c = (⟨c, le (s1.take 1).1, 0, []⟩, (s1.take 1).2) := by unfold tkv; (repeat (first | rw [if_pos (by omega)] | rw [if_neg (by omega)]))
      rw [ht] at h
      ((try first | refine walk_aw env_ok (none) ?_ | refine walk_aw envR_ok (none) ?_); try simp -implicitDefEqProofs (maxSteps := 1000000) only [go_sem, ↓reduceIte, reduceCtorEq, Nat.reduceLT, Nat.reduceEqDiff, Nat.reduceBEq, Nat.reduceAdd, Nat.reduceMul, Nat.reduceSub, Nat.reduceLeDiff, Int.reduceNeg, Int.reduceLT, Int.reduceLE, Int.reduceEq, Int.reduceAdd, Int.reduceToNat, q0, q2, q3, q4, q5, q6, q7, q8, q9, q10, q11, his, hss])
      refine U8_spec hs1 (hsg _ _) ?_
      ((try first | refine walk_aw env_ok (none) ?_ | refine walk_aw envR_ok (none) ?_); try simp -implicitDefEqProofs (maxSteps := 1000000) only [go_sem, ↓reduceIte, reduceCtorEq, Nat.reduceLT, Nat.reduceEqDiff, Nat.reduceBEq, Nat.reduceAdd, Nat.reduceMul, Nat.reduceSub, Nat.reduceLeDiff, Int.reduceNeg, Int.reduceLT, Int.reduceLE, Int.reduceEq, Int.reduceAdd, Int.reduceToNat, q0, q2, q3, q4, q5, q6, q7, q8, q9, q10, q11, his, hss])
      exact .inr h
    by_cases cs : shp c = 8
    · have q0 : ¬ shp c = 0 := by omega
      have q2 : ¬ shp c = 2 := by omega
      have q3 : ¬ shp c = 3 := by omega
      have q4 : ¬ shp c = 4 := by omega
      have q5 : ¬ shp c = 5 := by omega
      have q6 : ¬ shp c = 6 := by omega
      have q7 : ¬ shp c = 7 := by omega
      have q8 : (shp c = 8) = True := eq_true cs
      have q9 : ¬ shp c = 9 := by omega
      have q10 : ¬ shp c = 10 := by omega
      have q11 : ¬ shp c = 11 := by omega
      have ht : tkv s1 c = (⟨c, ext (le (s1.take 2).1) 2, 0, []⟩, (s1.take 2).2) := by unfold tkv; (repeat (first | rw [if_pos (by omega)] | rw [if_neg (by omega)]))
      rw [ht] at h
      have hlv : le (s1.take 2).1 < 18446744073709551616 := le_u64 (Nat.le_trans (take_len s1 2) (by omega))
      ((try first | refine walk_aw env_ok (none) ?_ | refine walk_aw envR_ok (none) ?_); try simp -implicitDefEqProofs (maxSteps := 1000000) only [go_sem, ↓reduceIte, reduceCtorEq, Nat.reduceLT, Nat.reduceEqDiff, Nat.reduceBEq, Nat.reduceAdd, Nat.reduceMul, Nat.reduceSub, Nat.reduceLeDiff, Int.reduceNeg, Int.reduceLT, Int.reduceLE, Int.reduceEq, Int.reduceAdd, Int.reduceToNat, q0, q2, q3, q4, q5, q6, q7, q8, q9, q10, q11, his, hss])
      refine U16_spec hs1 (hsg _ _) ?_
      ((try first | refine walk_aw env_ok (none) ?_ | refine walk_aw envR_ok (none) ?_); try simp -implicitDefEqProofs (maxSteps := 1000000) only [go_sem, ↓reduceIte, reduceCtorEq, Nat.reduceLT, Nat.reduceEqDiff, Nat.reduceBEq, Nat.reduceAdd, Nat.reduceMul, Nat.reduceSub, Nat.reduceLeDiff, Int.reduceNeg, Int.reduceLT, Int.reduceLE, Int.reduceEq, Int.reduceAdd, Int.reduceToNat, q0, q2, q3, q4, q5, q6, q7, q8, q9, q10, q11, his, hss])
      refine extended_spec (k := 2) hlv (by omega) ?_
      ((try first | refine walk_aw env_ok (none) ?_ | refine walk_aw envR_ok (none) ?_); try simp -implicitDefEqProofs (maxSteps := 1000000) only [go_sem, ↓reduceIte, reduceCtorEq, Nat.reduceLT, Nat.reduceEqDiff, Nat.reduceBEq, Nat.reduceAdd, Nat.reduceMul, Nat.reduceSub, Nat.reduceLeDiff, Int.reduceNeg, Int.reduceLT, Int.reduceLE, Int.reduceEq, Int.reduceAdd, Int.reduceToNat, q0, q2, q3, q4, q5, q6, q7, q8, q9, q10, q11, his, hss])
      exact .inr h
    by_cases cs : shp c = 9
    · have q0 : ¬ shp c = 0 := by omega
      have q2 : ¬ shp c = 2 := by omega
      have q3 : ¬ shp c = 3 := by omega
      have q4 : ¬ shp c = 4 := by omega
      have q5 : ¬ shp c = 5 := by omega
      have q6 : ¬ shp c = 6 := by omega
      have q7 : ¬ shp c = 7 := by omega
      have q8 : ¬ shp c = 8 := by omega
      have q9 : (shp c = 9) = True := eq_true cs
      have q10 : ¬ shp c = 10 := by omega
      have q11 : ¬ shp c = 11 := by omega
      have ht : tkv s1 c = (⟨c, s1.uleb.1, usg s1.uleb.2.sleb.1, []⟩, s1.uleb.2.sleb.2) := by unfold tkv; (repeat (first | rw [if_pos (by omega)] | rw [if_neg (by omega)]))
      rw [ht] at h
      ((try first | refine walk_aw env_ok (none) ?_ | refine walk_aw envR_ok (none) ?_); try simp -implicitDefEqProofs (maxSteps := 1000000) only [go_sem, ↓reduceIte, reduceCtorEq, Nat.reduceLT, Nat.reduceEqDiff, Nat.reduceBEq, Nat.reduceAdd, Nat.reduceMul, Nat.reduceSub, Nat.reduceLeDiff, Int.reduceNeg, Int.reduceLT, Int.reduceLE, Int.reduceEq, Int.reduceAdd, Int.reduceToNat, q0, q2, q3, q4, q5, q6, q7, q8, q9, q10, q11, his, hss])
      refine U_spec hs1 (hsg _ _) ?_
      ((try first | refine walk_aw env_ok (none) ?_ | refine walk_aw envR_ok (none) ?_); try simp -implicitDefEqProofs (maxSteps := 1000000) only [go_sem, ↓reduceIte, reduceCtorEq, Nat.reduceLT, Nat.reduceEqDiff, Nat.reduceBEq, Nat.reduceAdd, Nat.reduceMul, Nat.reduceSub, Nat.reduceLeDiff, Int.reduceNeg, Int.reduceLT, Int.reduceLE, Int.reduceEq, Int.reduceAdd, Int.reduceToNat, q0, q2, q3, q4, q5, q6, q7, q8, q9, q10, q11, his, hss])
      refine S_spec hs1.uleb (hsg _ _) ?_
      ((try first | refine walk_aw env_ok (none) ?_ | refine walk_aw envR_ok (none) ?_); try simp -implicitDefEqProofs (maxSteps := 1000000) only [go_sem, ↓reduceIte, reduceCtorEq, Nat.reduceLT, Nat.reduceEqDiff, Nat.reduceBEq, Nat.reduceAdd, Nat.reduceMul, Nat.reduceSub, Nat.reduceLeDiff, Int.reduceNeg, Int.reduceLT, Int.reduceLE, Int.reduceEq, Int.reduceAdd, Int.reduceToNat, q0, q2, q3, q4, q5, q6, q7, q8, q9, q10, q11, his, hss, wu_usg])
      exact .inr h
    by_cases cs : shp c = 10
    · have q0 : ¬ shp c = 0 := by omega
      have q2 : ¬ shp c = 2 := by omega
      have q3 : ¬ shp c = 3 := by omega
      have q4 : ¬ shp c = 4 := by omega
      have q5 : ¬ shp c = 5 := by omega
      have q6 : ¬ shp c = 6 := by omega
      have q7 : ¬ shp c = 7 := by omega
      have q8 : ¬ shp c = 8 := by omega
      have q9 : ¬ shp c = 9 := by omega
      have q10 : (shp c = 10) = True := eq_true cs
      have q11 : ¬ shp c = 11 := by omega
      have ht : tkv s1 c = (⟨c, s1.uleb.1, s1.uleb.2.uleb.1, []⟩, s1.uleb.2.uleb.2) := by unfold tkv; (repeat (first | rw [if_pos (by omega)] | rw [if_neg (by omega)]))
      rw [ht] at h
      ((try first | refine walk_aw env_ok (none) ?_ | refine walk_aw envR_ok (none) ?_); try simp -implicitDefEqProofs (maxSteps := 1000000) only [go_sem, ↓reduceIte, reduceCtorEq, Nat.reduceLT, Nat.reduceEqDiff, Nat.reduceBEq, Nat.reduceAdd, Nat.reduceMul, Nat.reduceSub, Nat.reduceLeDiff, Int.reduceNeg, Int.reduceLT, Int.reduceLE, Int.reduceEq, Int.reduceAdd, Int.reduceToNat, q0, q2, q3, q4, q5, q6, q7, q8, q9, q10, q11, his, hss])
      refine U_spec hs1 (hsg _ _) ?_
      ((try first | refine walk_aw env_ok (none) ?_ | refine walk_aw envR_ok (none) ?_); try simp -implicitDefEqProofs (maxSteps := 1000000) only [go_sem, ↓reduceIte, reduceCtorEq, Nat.reduceLT, Nat.reduceEqDiff, Nat.reduceBEq, Nat.reduceAdd, Nat.reduceMul, Nat.reduceSub, Nat.reduceLeDiff, Int.reduceNeg, Int.reduceLT, Int.reduceLE, Int.reduceEq, Int.reduceAdd, Int.reduceToNat, q0, q2, q3, q4, q5, q6, q7, q8, q9, q10, q11, his, hss])
      refine U_spec hs1.uleb (hsg _ _) ?_
      ((try first | refine walk_aw env_ok (none) ?_ | refine walk_aw envR_ok (none) ?_); try simp -implicitDefEqProofs (maxSteps := 1000000) only [go_sem, ↓reduceIte, reduceCtorEq, Nat.reduceLT, Nat.reduceEqDiff, Nat.reduceBEq, Nat.reduceAdd, Nat.reduceMul, Nat.reduceSub, Nat.reduceLeDiff, Int.reduceNeg, Int.reduceLT, Int.reduceLE, Int.reduceEq, Int.reduceAdd, Int.reduceToNat, q0, q2, q3, q4, q5, q6, q7, q8, q9, q10, q11, his, hss])
      exact .inr h
    have cs : shp c = 11 := by omega
    have q0 : ¬ shp c = 0 := by omega
    have q2 : ¬ shp c = 2 := by omega
    have q3 : ¬ shp c = 3 := by omega
    have q4 : ¬ shp c = 4 := by omega
    have q5 : ¬ shp c = 5 := by omega
    have q6 : ¬ shp c = 6 := by omega
    have q7 : ¬ shp c = 7 := by omega
    have q8 : ¬ shp c = 8 := by omega
    have q9 : ¬ shp c = 9 := by omega
    have q10 : ¬ shp c = 10 := by omega
    have q11 : (shp c = 11) = True := eq_true cs
    have ht : tkv s1 c = (⟨c, 0, 0, (dat s1).1⟩, (dat s1).2) := by unfold tkv; (repeat (first | rw [if_pos (by omega)] | rw [if_neg (by omega)]))
    rw [ht] at h
    ((try first | refine walk_aw env_ok (none) ?_ | refine walk_aw envR_ok (none) ?_); try simp -implicitDefEqProofs (maxSteps := 1000000) only [go_sem, ↓reduceIte, reduceCtorEq, Nat.reduceLT, Nat.reduceEqDiff, Nat.reduceBEq, Nat.reduceAdd, Nat.reduceMul, Nat.reduceSub, Nat.reduceLeDiff, Int.reduceNeg, Int.reduceLT, Int.reduceLE, Int.reduceEq, Int.reduceAdd, Int.reduceToNat, q0, q2, q3, q4, q5, q6, q7, q8, q9, q10, q11, his, hss])
    refine data_spec hs1 hb1 (hsg _ _) ?_
    ((try first | refine walk_aw env_ok (none) ?_ | refine walk_aw envR_ok (none) ?_); try simp -implicitDefEqProofs (maxSteps := 1000000) only [go_sem, ↓reduceIte, reduceCtorEq, Nat.reduceLT, Nat.reduceEqDiff, Nat.reduceBEq, Nat.reduceAdd, Nat.reduceMul, Nat.reduceSub, Nat.reduceLeDiff, Int.reduceNeg, Int.reduceLT, Int.reduceLE, Int.reduceEq, Int.reduceAdd, Int.reduceToNat, q0, q2, q3, q4, q5, q6, q7, q8, q9, q10, q11, his, hss])
    exact .inr h
  · rw [tk1, if_pos e1] at h
    ((try first | refine walk_aw env_ok (none) ?_ | refine walk_aw envR_ok (none) ?_); try simp -implicitDefEqProofs (maxSteps := 1000000) only [go_sem, ↓reduceIte, reduceCtorEq, Nat.reduceLT, Nat.reduceEqDiff, Nat.reduceBEq, Nat.reduceAdd, Nat.reduceMul, Nat.reduceSub, Nat.reduceLeDiff, Int.reduceNeg, Int.reduceLT, Int.reduceLE, Int.reduceEq, Int.reduceAdd, Int.reduceToNat, e1])
    exact .inr h
end
end Go.Ab
end

section
/- Package sindriref02: numbers that are read. -/
namespace Go.Ab
open V Go.Proofs
set_option maxHeartbeats 4000000
set_option maxRecDepth 10000
set_option linter.unusedSimpArgs false
set_option linter.unusedVariables false

def uA (l : List Nat) : List A := l.map fun (x : Nat) => V.int .u64 x
theorem uA_nil : uA [] = [] := rfl
theorem uA_snoc (l : List Nat) (x : Nat) : uA l ++ [V.int .u64 (x : Int)] = uA (l ++ [x]) := by simp [uA]
theorem uA_len (l : List Nat) : (uA l).length = l.length := by simp [uA]
theorem uA_flagless (l : List Nat) : flaglessL (uA l) = true := by
  rw [flaglessL_all]; simp only [uA, List.all_eq_true, List.mem_map]; rintro _ ⟨x, _, rfl⟩; rfl
theorem uA_low (n : Nat) (l : List Nat) : lowL n (uA l) = true := by
  rw [lowL_all]; simp only [uA, List.all_eq_true, List.mem_map]; rintro _ ⟨x, _, rfl⟩; rfl
theorem uA_uni (l : List Nat) : Uni 1 (uA l) = true := by
  simp only [Uni, uA, List.all_map, List.all_eq_true]; intro x _; rfl
theorem uA_strip (l : List Nat) : stripL (uA l) = uA l := by
  induction l with
  | nil => rfl
  | cons x l ih => show V.strip (V.int .u64 (x : Int)) :: stripL (uA l) = _; rw [ih]; rfl
theorem uA_share (l : List Nat) : shareL (uA l) = uA l := by
  induction l with
  | nil => rfl
  | cons x l ih => show V.share (V.int .u64 (x : Int)) :: shareL (uA l) = _; rw [ih]; rfl
theorem uA_at (l : List Nat) (i : Nat) (d : A) (h : i < l.length) : (uA l).getD i d = V.int .u64 (l.getD i 0 : Nat) := by
  simp [uA, h]
theorem Uni_one (x : A) (h : x.cells.length = 1) : Uni 1 [x] = true := by simp [Uni, h]
theorem Uni_u64 (x : Int) : Uni 1 [V.int (δ := Unit) .u64 x] = true := rfl
attribute [go_sem] uA_nil uA_len uA_flagless uA_low uA_uni uA_strip uA_share Uni_u64

theorem tmod128 (a : Nat) : Int.tmod (a : Int) 128 = ((a % 128 : Nat) : Int) := rfl
attribute [go_sem] tmod128

section
variable {p : Nat} {s : CS} {H : Heap} {Q : A → Heap → Prop}

theorem val7_step (l : List Nat) (i : Nat) (h : i < l.length) : val7 (l.drop i) = l.getD i 0 + 128 * val7 (l.drop (i + 1)) := by
  rw [List.drop_eq_getElem_cons h, val7]; simp [List.getD_eq_getElem?_getD, h]

theorem val7_small {l : List Nat} (j1 : 1 ≤ l.length) (j2 : l.length ≤ 10) (j3 : ∀ x ∈ l, x < 128) : val7 l < 18446744073709551616 ↔ ¬ (l.length = 10 ∧ 1 < l.getD 9 0) := by
  rcases Nat.lt_or_ge l.length 10 with c | c
  · have hv := val7_lt l j3
    have : 128 ^ l.length ≤ 128 ^ 9 := Nat.pow_le_pow_right (by omega) (by omega)
    omega
  · have hv := val7_last j1
    rw [show l.length = 10 by omega, show (10 : Nat) - 1 = 9 from rfl] at hv
    have hv9 := val7_lt (l.take 9) fun x hx => j3 x (List.mem_of_mem_take hx)
    rw [show (l.take 9).length = 9 by simp; omega] at hv9
    omega

theorem uleb_eq (s : CS) : s.uleb = if ((seven 10 s).1.getD []).length = 10 ∧ 1 < ((seven 10 s).1.getD []).getD 9 0 then (0, (seven 10 s).2.fail 11) else (val7 ((seven 10 s).1.getD []), (seven 10 s).2) := by
  unfold CS.uleb
  generalize seven 10 s = r
  obtain ⟨q, s2⟩ := r
  cases q <;> rfl

theorem sleb_eq (s : CS) : s.sleb = if ((seven 10 s).1.getD []).length = 10 ∧ ((seven 10 s).1.getD []).getD 9 0 ≠ 0 ∧ ((seven 10 s).1.getD []).getD 9 0 ≠ 127 then (0, (seven 10 s).2.fail 11) else (if ((seven 10 s).1.getD []).length = 0 then 0 else sval ((seven 10 s).1.getD []), (seven 10 s).2) := by
  have h : ∀ l, (seven 10 s).1 = some l → 1 ≤ l.length := by
    -- a number that is told has a part
    have : ∀ k s l, (seven k s).1 = some l → 1 ≤ l.length := by
      intro k
      induction k with
      | zero => simp [seven]
      | succ k ih =>
        intro s l
        simp only [seven]
        split
        · split
          · rintro ⟨⟩; simp
          · generalize seven k _ = q
            obtain ⟨r, s2⟩ := q
            cases r
            · simp
            · rintro ⟨⟩; simp
        · simp
    exact this 10 s
  unfold CS.sleb
  generalize seven 10 s = r at h
  obtain ⟨q, s2⟩ := r
  cases q with
  | none => simp
  | some l =>
    have := h l rfl
    simp only [Option.getD_some]
    rw [if_neg (show ¬ l.length = 0 by omega)]

/-- The digits from i on, the last one with its sign. -/
def sdrop (l : List Nat) (i : Nat) : Int := sval (l.drop i)
theorem sval_cons (x : Nat) {l : List Nat} (h : 1 ≤ l.length) : sval (x :: l) = x + 128 * sval l := by
  obtain ⟨y, m, rfl⟩ : ∃ y m, l = y :: m := by cases l; simp at h; exact ⟨_, _, rfl⟩
  simp only [sval, val7, List.length_cons, Nat.add_sub_cancel, List.getD_cons_succ]
  split
  · push_cast; omega
  · rw [Int.pow_succ _ (m.length + 1)]; push_cast; omega

theorem sval_last {l : List Nat} (h : 1 ≤ l.length) : sval l = val7 (l.take (l.length - 1)) + (if l.getD (l.length - 1) 0 < 64 then (l.getD (l.length - 1) 0 : Int) else (l.getD (l.length - 1) 0 : Int) - 128) * 128 ^ (l.length - 1) := by
  have hv := val7_last h
  have e : (2 : Nat) ^ (7 * (l.length - 1)) = 128 ^ (l.length - 1) := by rw [Nat.pow_mul]
  rw [e] at hv
  have hv' : (val7 l : Int) = val7 (l.take (l.length - 1)) + (l.getD (l.length - 1) 0 : Int) * 128 ^ (l.length - 1) := by rw [hv]; simp
  unfold sval
  split
  · exact hv'
  · rw [hv', Int.sub_mul, show (128 : Int) ^ l.length = 128 * 128 ^ (l.length - 1) by
      rw [← Int.pow_succ']; congr 1; omega]
    omega
theorem sval_bound {l : List Nat} (h : 1 ≤ l.length) (h3 : ∀ x ∈ l, x < 128) : -(64 * 128 ^ (l.length - 1)) ≤ sval l ∧ sval l < 64 * 128 ^ (l.length - 1) := by
  have hv := val7_lt (l.take (l.length - 1)) fun x hx => h3 x (List.mem_of_mem_take hx)
  rw [List.length_take, Nat.min_eq_left (by omega)] at hv
  have hl : l.getD (l.length - 1) 0 < 128 := by
    have := h3 (l[l.length - 1]'(by omega)) (List.getElem_mem _)
    simpa [List.getD_eq_getElem?_getD, show l.length - 1 < l.length by omega] using this
  rw [sval_last h]
  have hv' : (val7 (l.take (l.length - 1)) : Int) < 128 ^ (l.length - 1) := by exact_mod_cast hv
  generalize hd : (if l.getD (l.length - 1) 0 < 64 then (l.getD (l.length - 1) 0 : Int) else (l.getD (l.length - 1) 0 : Int) - 128) = d
  have hd1 : -64 ≤ d ∧ d ≤ 63 := by rw [← hd]; split <;> omega
  generalize hP : (128 : Int) ^ (l.length - 1) = P at *
  have hP0 : 0 ≤ P := by rw [← hP]; exact Int.pow_nonneg (by omega)
  have a1 := Int.mul_le_mul_of_nonneg_right hd1.1 hP0
  have a2 := Int.mul_le_mul_of_nonneg_right hd1.2 hP0
  omega
theorem sdrop1 {l : List Nat} (h : l.length = 10) (h3 : ∀ x ∈ l, x < 128) : (-72057594037927936 ≤ sdrop l 1 ∧ sdrop l 1 ≤ 72057594037927935) ↔ ¬ (l.getD 9 0 ≠ 0 ∧ l.getD 9 0 ≠ 127) := by
  have hl := sval_last (l := l.drop 1) (by simp; omega)
  have e1 : (l.drop 1).length - 1 = 8 := by simp [h]
  have e2 : (l.drop 1).getD 8 0 = l.getD 9 0 := by simp [List.getD_eq_getElem?_getD]
  rw [e1, e2] at hl
  have hv := val7_lt ((l.drop 1).take 8) fun x hx => h3 x (List.mem_of_mem_drop (List.mem_of_mem_take hx))
  rw [show ((l.drop 1).take 8).length = 8 by simp; omega] at hv
  have hlast : l.getD 9 0 < 128 := by
    have := h3 (l[9]'(by omega)) (List.getElem_mem _)
    simpa [List.getD_eq_getElem?_getD, show 9 < l.length by omega] using this
  unfold sdrop
  rw [hl]
  split <;> omega

theorem sdrop_last {l : List Nat} (h : 1 ≤ l.length) : sdrop l (l.length - 1) = if l.getD (l.length - 1) 0 < 64 then (l.getD (l.length - 1) 0 : Int) else (l.getD (l.length - 1) 0 : Int) - 128 := by
  have e : l.drop (l.length - 1) = [l.getD (l.length - 1) 0] := by
    rw [List.drop_eq_getElem_cons (show l.length - 1 < l.length by omega), show l.length - 1 + 1 = l.length by omega, List.drop_length]
    simp [List.getD_eq_getElem?_getD, show l.length - 1 < l.length by omega]
  unfold sdrop
  rw [e]
  generalize l.getD (l.length - 1) 0 = x
  simp [sval, val7]

end
end Go.Ab
end
