/- Contracts of the functions that the law reaches. -/
import Derived.Test.YtbdhocfaebchfaaOpPartB
import Derived.Test.YtbdhocfaebchfaaOpPartA
import Derived.Test.YtbdhocfaebchfaaOpLAbOb
set_option linter.all false
set_option linter.unusedSimpArgs false
set_option linter.unusedVariables false
set_option linter.unnecessarySimpa false
section
/- Package ops: the shapes of codes; numbers with their sign. -/
namespace Go.Ab
open V Go.Proofs
set_option maxHeartbeats 4000000
set_option maxRecDepth 10000
set_option linter.unusedSimpArgs false
set_option linter.unusedVariables false

section
variable {H : Heap} {Q : A → Heap → Prop}
theorem rShape_spec {c : Int} (h : Q (.int .i64 (shp c)) H) : AC Try.prog 21 [.int .i64 c] H Q := by
  refine AC.enter (E := env Try.prog 65 (fun _ => .copy) (fun _ => false)) env_ok Try.func21 rfl rfl rfl (by simp only [List.length_cons, List.length_nil]; exact of_decide_eq_true rfl) ?_
  by_cases n0 : c = 3
  · have n3 : (c = 3) = True := eq_true n0
    have n8 : ¬ c = 8 := by omega
    have n9 : ¬ c = 9 := by omega
    have n10 : ¬ c = 10 := by omega
    have n11 : ¬ c = 11 := by omega
    have n12 : ¬ c = 12 := by omega
    have n13 : ¬ c = 13 := by omega
    have n14 : ¬ c = 14 := by omega
    have n15 : ¬ c = 15 := by omega
    have n16 : ¬ c = 16 := by omega
    have n35 : ¬ c = 35 := by omega
    have n144 : ¬ c = 144 := by omega
    have n147 : ¬ c = 147 := by omega
    have n161 : ¬ c = 161 := by omega
    have n162 : ¬ c = 162 := by omega
    have n17 : ¬ c = 17 := by omega
    have n145 : ¬ c = 145 := by omega
    have n21 : ¬ c = 21 := by omega
    have n148 : ¬ c = 148 := by omega
    have n149 : ¬ c = 149 := by omega
    have n40 : ¬ c = 40 := by omega
    have n47 : ¬ c = 47 := by omega
    have n146 : ¬ c = 146 := by omega
    have n157 : ¬ c = 157 := by omega
    have n158 : ¬ c = 158 := by omega
    have n163 : ¬ c = 163 := by omega
    have n6 : ¬ c = 6 := by omega
    have n150 : ¬ c = 150 := by omega
    have n151 : ¬ c = 151 := by omega
    have n155 : ¬ c = 155 := by omega
    have n156 : ¬ c = 156 := by omega
    have n159 : ¬ c = 159 := by omega
    have b0 : ¬ c ≥ 8 := by omega
    have b1 : c ≤ 15 := by omega
    have b2 : ¬ c ≥ 112 := by omega
    have b3 : c ≤ 143 := by omega
    have b4 : ¬ c ≥ 18 := by omega
    have b5 : c ≤ 46 := by omega
    have b6 : ¬ c ≥ 48 := by omega
    have b7 : c ≤ 111 := by omega
    have b8 : ¬ c < 0 := by omega
    have b9 : ¬ c > 163 := by omega
    have hs : shp c = 2 := by rw [n0]; decide
    rw [hs] at h
    ((try first | refine walk_aw env_ok (none) ?_ | refine walk_aw envR_ok (none) ?_); try simp -implicitDefEqProofs (maxSteps := 1000000) only [go_sem, ↓reduceIte, reduceCtorEq, Nat.reduceLT, Nat.reduceEqDiff, Nat.reduceBEq, Nat.reduceAdd, Nat.reduceMul, Nat.reduceSub, Nat.reduceLeDiff, Int.reduceNeg, Int.reduceLT, Int.reduceLE, Int.reduceEq, Int.reduceAdd, Int.reduceToNat, n3, n8, n9, n10, n11, n12, n13, n14, n15, n16, n35, n144, n147, n161, n162, n17, n145, n21, n148, n149, n40, n47, n146, n157, n158, n163, n6, n150, n151, n155, n156, n159, b0, b1, b2, b3, b4, b5, b6, b7, b8, b9])
    exact .inl h
  by_cases n0 : c = 8
  · have n3 : ¬ c = 3 := by omega
    have n8 : (c = 8) = True := eq_true n0
    have n9 : ¬ c = 9 := by omega
    have n10 : ¬ c = 10 := by omega
    have n11 : ¬ c = 11 := by omega
    have n12 : ¬ c = 12 := by omega
    have n13 : ¬ c = 13 := by omega
    have n14 : ¬ c = 14 := by omega
    have n15 : ¬ c = 15 := by omega
    have n16 : ¬ c = 16 := by omega
    have n35 : ¬ c = 35 := by omega
    have n144 : ¬ c = 144 := by omega
    have n147 : ¬ c = 147 := by omega
    have n161 : ¬ c = 161 := by omega
    have n162 : ¬ c = 162 := by omega
    have n17 : ¬ c = 17 := by omega
    have n145 : ¬ c = 145 := by omega
    have n21 : ¬ c = 21 := by omega
    have n148 : ¬ c = 148 := by omega
    have n149 : ¬ c = 149 := by omega
    have n40 : ¬ c = 40 := by omega
    have n47 : ¬ c = 47 := by omega
    have n146 : ¬ c = 146 := by omega
    have n157 : ¬ c = 157 := by omega
    have n158 : ¬ c = 158 := by omega
    have n163 : ¬ c = 163 := by omega
    have n6 : ¬ c = 6 := by omega
    have n150 : ¬ c = 150 := by omega
    have n151 : ¬ c = 151 := by omega
    have n155 : ¬ c = 155 := by omega
    have n156 : ¬ c = 156 := by omega
    have n159 : ¬ c = 159 := by omega
    have b0 : c ≥ 8 := by omega
    have b1 : c ≤ 15 := by omega
    have b2 : ¬ c ≥ 112 := by omega
    have b3 : c ≤ 143 := by omega
    have b4 : ¬ c ≥ 18 := by omega
    have b5 : c ≤ 46 := by omega
    have b6 : ¬ c ≥ 48 := by omega
    have b7 : c ≤ 111 := by omega
    have b8 : ¬ c < 0 := by omega
    have b9 : ¬ c > 163 := by omega
    have hs : shp c = 3 := by rw [n0]; decide
    rw [hs] at h
    ((try first | refine walk_aw env_ok (none) ?_ | refine walk_aw envR_ok (none) ?_); try simp -implicitDefEqProofs (maxSteps := 1000000) only [go_sem, ↓reduceIte, reduceCtorEq, Nat.reduceLT, Nat.reduceEqDiff, Nat.reduceBEq, Nat.reduceAdd, Nat.reduceMul, Nat.reduceSub, Nat.reduceLeDiff, Int.reduceNeg, Int.reduceLT, Int.reduceLE, Int.reduceEq, Int.reduceAdd, Int.reduceToNat, n3, n8, n9, n10, n11, n12, n13, n14, n15, n16, n35, n144, n147, n161, n162, n17, n145, n21, n148, n149, n40, n47, n146, n157, n158, n163, n6, n150, n151, n155, n156, n159, b0, b1, b2, b3, b4, b5, b6, b7, b8, b9])
    exact .inl h
  by_cases n0 : c = 9
  · have n3 : ¬ c = 3 := by omega
    have n8 : ¬ c = 8 := by omega
    have n9 : (c = 9) = True := eq_true n0
    have n10 : ¬ c = 10 := by omega
    have n11 : ¬ c = 11 := by omega
    have n12 : ¬ c = 12 := by omega
    have n13 : ¬ c = 13 := by omega
    have n14 : ¬ c = 14 := by omega
    have n15 : ¬ c = 15 := by omega
    have n16 : ¬ c = 16 := by omega
    have n35 : ¬ c = 35 := by omega
    have n144 : ¬ c = 144 := by omega
    have n147 : ¬ c = 147 := by omega
    have n161 : ¬ c = 161 := by omega
    have n162 : ¬ c = 162 := by omega
    have n17 : ¬ c = 17 := by omega
    have n145 : ¬ c = 145 := by omega
    have n21 : ¬ c = 21 := by omega
    have n148 : ¬ c = 148 := by omega
    have n149 : ¬ c = 149 := by omega
    have n40 : ¬ c = 40 := by omega
    have n47 : ¬ c = 47 := by omega
    have n146 : ¬ c = 146 := by omega
    have n157 : ¬ c = 157 := by omega
    have n158 : ¬ c = 158 := by omega
    have n163 : ¬ c = 163 := by omega
    have n6 : ¬ c = 6 := by omega
    have n150 : ¬ c = 150 := by omega
    have n151 : ¬ c = 151 := by omega
    have n155 : ¬ c = 155 := by omega
    have n156 : ¬ c = 156 := by omega
    have n159 : ¬ c = 159 := by omega
    have b0 : c ≥ 8 := by omega
    have b1 : c ≤ 15 := by omega
    have b2 : ¬ c ≥ 112 := by omega
    have b3 : c ≤ 143 := by omega
    have b4 : ¬ c ≥ 18 := by omega
    have b5 : c ≤ 46 := by omega
    have b6 : ¬ c ≥ 48 := by omega
    have b7 : c ≤ 111 := by omega
    have b8 : ¬ c < 0 := by omega
    have b9 : ¬ c > 163 := by omega
    have hs : shp c = 4 := by rw [n0]; decide
    rw [hs] at h
    ((try first | refine walk_aw env_ok (none) ?_ | refine walk_aw envR_ok (none) ?_); try simp -implicitDefEqProofs (maxSteps := 1000000) only [go_sem, ↓reduceIte, reduceCtorEq, Nat.reduceLT, Nat.reduceEqDiff, Nat.reduceBEq, Nat.reduceAdd, Nat.reduceMul, Nat.reduceSub, Nat.reduceLeDiff, Int.reduceNeg, Int.reduceLT, Int.reduceLE, Int.reduceEq, Int.reduceAdd, Int.reduceToNat, n3, n8, n9, n10, n11, n12, n13, n14, n15, n16, n35, n144, n147, n161, n162, n17, n145, n21, n148, n149, n40, n47, n146, n157, n158, n163, n6, n150, n151, n155, n156, n159, b0, b1, b2, b3, b4, b5, b6, b7, b8, b9])
    exact .inl h
  by_cases n0 : c = 10
  · have n3 : ¬ c = 3 := by omega
    have n8 : ¬ c = 8 := by omega
    have n9 : ¬ c = 9 := by omega
    have n10 : (c = 10) = True := eq_true n0
    have n11 : ¬ c = 11 := by omega
    have n12 : ¬ c = 12 := by omega
    have n13 : ¬ c = 13 := by omega
    have n14 : ¬ c = 14 := by omega
    have n15 : ¬ c = 15 := by omega
    have n16 : ¬ c = 16 := by omega
    have n35 : ¬ c = 35 := by omega
    have n144 : ¬ c = 144 := by omega
    have n147 : ¬ c = 147 := by omega
    have n161 : ¬ c = 161 := by omega
    have n162 : ¬ c = 162 := by omega
    have n17 : ¬ c = 17 := by omega
    have n145 : ¬ c = 145 := by omega
    have n21 : ¬ c = 21 := by omega
    have n148 : ¬ c = 148 := by omega
    have n149 : ¬ c = 149 := by omega
    have n40 : ¬ c = 40 := by omega
    have n47 : ¬ c = 47 := by omega
    have n146 : ¬ c = 146 := by omega
    have n157 : ¬ c = 157 := by omega
    have n158 : ¬ c = 158 := by omega
    have n163 : ¬ c = 163 := by omega
    have n6 : ¬ c = 6 := by omega
    have n150 : ¬ c = 150 := by omega
    have n151 : ¬ c = 151 := by omega
    have n155 : ¬ c = 155 := by omega
    have n156 : ¬ c = 156 := by omega
    have n159 : ¬ c = 159 := by omega
    have b0 : c ≥ 8 := by omega
    have b1 : c ≤ 15 := by omega
    have b2 : ¬ c ≥ 112 := by omega
    have b3 : c ≤ 143 := by omega
    have b4 : ¬ c ≥ 18 := by omega
    have b5 : c ≤ 46 := by omega
    have b6 : ¬ c ≥ 48 := by omega
    have b7 : c ≤ 111 := by omega
    have b8 : ¬ c < 0 := by omega
    have b9 : ¬ c > 163 := by omega
    have hs : shp c = 3 := by rw [n0]; decide
    rw [hs] at h
    ((try first | refine walk_aw env_ok (none) ?_ | refine walk_aw envR_ok (none) ?_); try simp -implicitDefEqProofs (maxSteps := 1000000) only [go_sem, ↓reduceIte, reduceCtorEq, Nat.reduceLT, Nat.reduceEqDiff, Nat.reduceBEq, Nat.reduceAdd, Nat.reduceMul, Nat.reduceSub, Nat.reduceLeDiff, Int.reduceNeg, Int.reduceLT, Int.reduceLE, Int.reduceEq, Int.reduceAdd, Int.reduceToNat, n3, n8, n9, n10, n11, n12, n13, n14, n15, n16, n35, n144, n147, n161, n162, n17, n145, n21, n148, n149, n40, n47, n146, n157, n158, n163, n6, n150, n151, n155, n156, n159, b0, b1, b2, b3, b4, b5, b6, b7, b8, b9])
    exact .inl h
  by_cases n0 : c = 11
  · have n3 : ¬ c = 3 := by omega
    have n8 : ¬ c = 8 := by omega
    have n9 : ¬ c = 9 := by omega
    have n10 : ¬ c = 10 := by omega
    have n11 : (c = 11) = True := eq_true n0
    have n12 : ¬ c = 12 := by omega
    have n13 : ¬ c = 13 := by omega
    have n14 : ¬ c = 14 := by omega
    have n15 : ¬ c = 15 := by omega
    have n16 : ¬ c = 16 := by omega
    have n35 : ¬ c = 35 := by omega
    have n144 : ¬ c = 144 := by omega
    have n147 : ¬ c = 147 := by omega
    have n161 : ¬ c = 161 := by omega
    have n162 : ¬ c = 162 := by omega
    have n17 : ¬ c = 17 := by omega
    have n145 : ¬ c = 145 := by omega
    have n21 : ¬ c = 21 := by omega
    have n148 : ¬ c = 148 := by omega
    have n149 : ¬ c = 149 := by omega
    have n40 : ¬ c = 40 := by omega
    have n47 : ¬ c = 47 := by omega
    have n146 : ¬ c = 146 := by omega
    have n157 : ¬ c = 157 := by omega
    have n158 : ¬ c = 158 := by omega
    have n163 : ¬ c = 163 := by omega
    have n6 : ¬ c = 6 := by omega
    have n150 : ¬ c = 150 := by omega
    have n151 : ¬ c = 151 := by omega
    have n155 : ¬ c = 155 := by omega
    have n156 : ¬ c = 156 := by omega
    have n159 : ¬ c = 159 := by omega
    have b0 : c ≥ 8 := by omega
    have b1 : c ≤ 15 := by omega
    have b2 : ¬ c ≥ 112 := by omega
    have b3 : c ≤ 143 := by omega
    have b4 : ¬ c ≥ 18 := by omega
    have b5 : c ≤ 46 := by omega
    have b6 : ¬ c ≥ 48 := by omega
    have b7 : c ≤ 111 := by omega
    have b8 : ¬ c < 0 := by omega
    have b9 : ¬ c > 163 := by omega
    have hs : shp c = 4 := by rw [n0]; decide
    rw [hs] at h
    ((try first | refine walk_aw env_ok (none) ?_ | refine walk_aw envR_ok (none) ?_); try simp -implicitDefEqProofs (maxSteps := 1000000) only [go_sem, ↓reduceIte, reduceCtorEq, Nat.reduceLT, Nat.reduceEqDiff, Nat.reduceBEq, Nat.reduceAdd, Nat.reduceMul, Nat.reduceSub, Nat.reduceLeDiff, Int.reduceNeg, Int.reduceLT, Int.reduceLE, Int.reduceEq, Int.reduceAdd, Int.reduceToNat, n3, n8, n9, n10, n11, n12, n13, n14, n15, n16, n35, n144, n147, n161, n162, n17, n145, n21, n148, n149, n40, n47, n146, n157, n158, n163, n6, n150, n151, n155, n156, n159, b0, b1, b2, b3, b4, b5, b6, b7, b8, b9])
    exact .inl h
  by_cases n0 : c = 12
  · have n3 : ¬ c = 3 := by omega
    have n8 : ¬ c = 8 := by omega
    have n9 : ¬ c = 9 := by omega
    have n10 : ¬ c = 10 := by omega
    have n11 : ¬ c = 11 := by omega
    have n12 : (c = 12) = True := eq_true n0
    have n13 : ¬ c = 13 := by omega
    have n14 : ¬ c = 14 := by omega
    have n15 : ¬ c = 15 := by omega
    have n16 : ¬ c = 16 := by omega
    have n35 : ¬ c = 35 := by omega
    have n144 : ¬ c = 144 := by omega
    have n147 : ¬ c = 147 := by omega
    have n161 : ¬ c = 161 := by omega
    have n162 : ¬ c = 162 := by omega
    have n17 : ¬ c = 17 := by omega
    have n145 : ¬ c = 145 := by omega
    have n21 : ¬ c = 21 := by omega
    have n148 : ¬ c = 148 := by omega
    have n149 : ¬ c = 149 := by omega
    have n40 : ¬ c = 40 := by omega
    have n47 : ¬ c = 47 := by omega
    have n146 : ¬ c = 146 := by omega
    have n157 : ¬ c = 157 := by omega
    have n158 : ¬ c = 158 := by omega
    have n163 : ¬ c = 163 := by omega
    have n6 : ¬ c = 6 := by omega
    have n150 : ¬ c = 150 := by omega
    have n151 : ¬ c = 151 := by omega
    have n155 : ¬ c = 155 := by omega
    have n156 : ¬ c = 156 := by omega
    have n159 : ¬ c = 159 := by omega
    have b0 : c ≥ 8 := by omega
    have b1 : c ≤ 15 := by omega
    have b2 : ¬ c ≥ 112 := by omega
    have b3 : c ≤ 143 := by omega
    have b4 : ¬ c ≥ 18 := by omega
    have b5 : c ≤ 46 := by omega
    have b6 : ¬ c ≥ 48 := by omega
    have b7 : c ≤ 111 := by omega
    have b8 : ¬ c < 0 := by omega
    have b9 : ¬ c > 163 := by omega
    have hs : shp c = 3 := by rw [n0]; decide
    rw [hs] at h
    ((try first | refine walk_aw env_ok (none) ?_ | refine walk_aw envR_ok (none) ?_); try simp -implicitDefEqProofs (maxSteps := 1000000) only [go_sem, ↓reduceIte, reduceCtorEq, Nat.reduceLT, Nat.reduceEqDiff, Nat.reduceBEq, Nat.reduceAdd, Nat.reduceMul, Nat.reduceSub, Nat.reduceLeDiff, Int.reduceNeg, Int.reduceLT, Int.reduceLE, Int.reduceEq, Int.reduceAdd, Int.reduceToNat, n3, n8, n9, n10, n11, n12, n13, n14, n15, n16, n35, n144, n147, n161, n162, n17, n145, n21, n148, n149, n40, n47, n146, n157, n158, n163, n6, n150, n151, n155, n156, n159, b0, b1, b2, b3, b4, b5, b6, b7, b8, b9])
    exact .inl h
  by_cases n0 : c = 13
  · have n3 : ¬ c = 3 := by omega
    have n8 : ¬ c = 8 := by omega
    have n9 : ¬ c = 9 := by omega
    have n10 : ¬ c = 10 := by omega
    have n11 : ¬ c = 11 := by omega
    have n12 : ¬ c = 12 := by omega
    have n13 : (c = 13) = True := eq_true n0
    have n14 : ¬ c = 14 := by omega
    have n15 : ¬ c = 15 := by omega
    have n16 : ¬ c = 16 := by omega
    have n35 : ¬ c = 35 := by omega
    have n144 : ¬ c = 144 := by omega
    have n147 : ¬ c = 147 := by omega
    have n161 : ¬ c = 161 := by omega
    have n162 : ¬ c = 162 := by omega
    have n17 : ¬ c = 17 := by omega
    have n145 : ¬ c = 145 := by omega
    have n21 : ¬ c = 21 := by omega
    have n148 : ¬ c = 148 := by omega
    have n149 : ¬ c = 149 := by omega
    have n40 : ¬ c = 40 := by omega
    have n47 : ¬ c = 47 := by omega
    have n146 : ¬ c = 146 := by omega
    have n157 : ¬ c = 157 := by omega
    have n158 : ¬ c = 158 := by omega
    have n163 : ¬ c = 163 := by omega
    have n6 : ¬ c = 6 := by omega
    have n150 : ¬ c = 150 := by omega
    have n151 : ¬ c = 151 := by omega
    have n155 : ¬ c = 155 := by omega
    have n156 : ¬ c = 156 := by omega
    have n159 : ¬ c = 159 := by omega
    have b0 : c ≥ 8 := by omega
    have b1 : c ≤ 15 := by omega
    have b2 : ¬ c ≥ 112 := by omega
    have b3 : c ≤ 143 := by omega
    have b4 : ¬ c ≥ 18 := by omega
    have b5 : c ≤ 46 := by omega
    have b6 : ¬ c ≥ 48 := by omega
    have b7 : c ≤ 111 := by omega
    have b8 : ¬ c < 0 := by omega
    have b9 : ¬ c > 163 := by omega
    have hs : shp c = 4 := by rw [n0]; decide
    rw [hs] at h
    ((try first | refine walk_aw env_ok (none) ?_ | refine walk_aw envR_ok (none) ?_); try simp -implicitDefEqProofs (maxSteps := 1000000) only [go_sem, ↓reduceIte, reduceCtorEq, Nat.reduceLT, Nat.reduceEqDiff, Nat.reduceBEq, Nat.reduceAdd, Nat.reduceMul, Nat.reduceSub, Nat.reduceLeDiff, Int.reduceNeg, Int.reduceLT, Int.reduceLE, Int.reduceEq, Int.reduceAdd, Int.reduceToNat, n3, n8, n9, n10, n11, n12, n13, n14, n15, n16, n35, n144, n147, n161, n162, n17, n145, n21, n148, n149, n40, n47, n146, n157, n158, n163, n6, n150, n151, n155, n156, n159, b0, b1, b2, b3, b4, b5, b6, b7, b8, b9])
    exact .inl h
  by_cases n0 : c = 14
  · have n3 : ¬ c = 3 := by omega
    have n8 : ¬ c = 8 := by omega
    have n9 : ¬ c = 9 := by omega
    have n10 : ¬ c = 10 := by omega
    have n11 : ¬ c = 11 := by omega
    have n12 : ¬ c = 12 := by omega
    have n13 : ¬ c = 13 := by omega
    have n14 : (c = 14) = True := eq_true n0
    have n15 : ¬ c = 15 := by omega
    have n16 : ¬ c = 16 := by omega
    have n35 : ¬ c = 35 := by omega
    have n144 : ¬ c = 144 := by omega
    have n147 : ¬ c = 147 := by omega
    have n161 : ¬ c = 161 := by omega
    have n162 : ¬ c = 162 := by omega
    have n17 : ¬ c = 17 := by omega
    have n145 : ¬ c = 145 := by omega
    have n21 : ¬ c = 21 := by omega
    have n148 : ¬ c = 148 := by omega
    have n149 : ¬ c = 149 := by omega
    have n40 : ¬ c = 40 := by omega
    have n47 : ¬ c = 47 := by omega
    have n146 : ¬ c = 146 := by omega
    have n157 : ¬ c = 157 := by omega
    have n158 : ¬ c = 158 := by omega
    have n163 : ¬ c = 163 := by omega
    have n6 : ¬ c = 6 := by omega
    have n150 : ¬ c = 150 := by omega
    have n151 : ¬ c = 151 := by omega
    have n155 : ¬ c = 155 := by omega
    have n156 : ¬ c = 156 := by omega
    have n159 : ¬ c = 159 := by omega
    have b0 : c ≥ 8 := by omega
    have b1 : c ≤ 15 := by omega
    have b2 : ¬ c ≥ 112 := by omega
    have b3 : c ≤ 143 := by omega
    have b4 : ¬ c ≥ 18 := by omega
    have b5 : c ≤ 46 := by omega
    have b6 : ¬ c ≥ 48 := by omega
    have b7 : c ≤ 111 := by omega
    have b8 : ¬ c < 0 := by omega
    have b9 : ¬ c > 163 := by omega
    have hs : shp c = 3 := by rw [n0]; decide
    rw [hs] at h
    ((try first | refine walk_aw env_ok (none) ?_ | refine walk_aw envR_ok (none) ?_); try simp -implicitDefEqProofs (maxSteps := 1000000) only [go_sem, ↓reduceIte, reduceCtorEq, Nat.reduceLT, Nat.reduceEqDiff, Nat.reduceBEq, Nat.reduceAdd, Nat.reduceMul, Nat.reduceSub, Nat.reduceLeDiff, Int.reduceNeg, Int.reduceLT, Int.reduceLE, Int.reduceEq, Int.reduceAdd, Int.reduceToNat, n3, n8, n9, n10, n11, n12, n13, n14, n15, n16, n35, n144, n147, n161, n162, n17, n145, n21, n148, n149, n40, n47, n146, n157, n158, n163, n6, n150, n151, n155, n156, n159, b0, b1, b2, b3, b4, b5, b6, b7, b8, b9])
    exact .inl h
  by_cases n0 : c = 15
  · have n3 : ¬ c = 3 := by omega
    have n8 : ¬ c = 8 := by omega
    have n9 : ¬ c = 9 := by omega
    have n10 : ¬ c = 10 := by omega
    have n11 : ¬ c = 11 := by omega
    have n12 : ¬ c = 12 := by omega
    have n13 : ¬ c = 13 := by omega
    have n14 : ¬ c = 14 := by omega
    have n15 : (c = 15) = True := eq_true n0
    have n16 : ¬ c = 16 := by omega
    have n35 : ¬ c = 35 := by omega
    have n144 : ¬ c = 144 := by omega
    have n147 : ¬ c = 147 := by omega
    have n161 : ¬ c = 161 := by omega
    have n162 : ¬ c = 162 := by omega
    have n17 : ¬ c = 17 := by omega
    have n145 : ¬ c = 145 := by omega
    have n21 : ¬ c = 21 := by omega
    have n148 : ¬ c = 148 := by omega
    have n149 : ¬ c = 149 := by omega
    have n40 : ¬ c = 40 := by omega
    have n47 : ¬ c = 47 := by omega
    have n146 : ¬ c = 146 := by omega
    have n157 : ¬ c = 157 := by omega
    have n158 : ¬ c = 158 := by omega
    have n163 : ¬ c = 163 := by omega
    have n6 : ¬ c = 6 := by omega
    have n150 : ¬ c = 150 := by omega
    have n151 : ¬ c = 151 := by omega
    have n155 : ¬ c = 155 := by omega
    have n156 : ¬ c = 156 := by omega
    have n159 : ¬ c = 159 := by omega
    have b0 : c ≥ 8 := by omega
    have b1 : c ≤ 15 := by omega
    have b2 : ¬ c ≥ 112 := by omega
    have b3 : c ≤ 143 := by omega
    have b4 : ¬ c ≥ 18 := by omega
    have b5 : c ≤ 46 := by omega
    have b6 : ¬ c ≥ 48 := by omega
    have b7 : c ≤ 111 := by omega
    have b8 : ¬ c < 0 := by omega
    have b9 : ¬ c > 163 := by omega
    have hs : shp c = 4 := by rw [n0]; decide
    rw [hs] at h
    ((try first | refine walk_aw env_ok (none) ?_ | refine walk_aw envR_ok (none) ?_); try simp -implicitDefEqProofs (maxSteps := 1000000) only [go_sem, ↓reduceIte, reduceCtorEq, Nat.reduceLT, Nat.reduceEqDiff, Nat.reduceBEq, Nat.reduceAdd, Nat.reduceMul, Nat.reduceSub, Nat.reduceLeDiff, Int.reduceNeg, Int.reduceLT, Int.reduceLE, Int.reduceEq, Int.reduceAdd, Int.reduceToNat, n3, n8, n9, n10, n11, n12, n13, n14, n15, n16, n35, n144, n147, n161, n162, n17, n145, n21, n148, n149, n40, n47, n146, n157, n158, n163, n6, n150, n151, n155, n156, n159, b0, b1, b2, b3, b4, b5, b6, b7, b8, b9])
    exact .inl h
  by_cases n0 : c = 16
  · have n3 : ¬ c = 3 := by omega
    have n8 : ¬ c = 8 := by omega
    have n9 : ¬ c = 9 := by omega
    have n10 : ¬ c = 10 := by omega
    have n11 : ¬ c = 11 := by omega
    have n12 : ¬ c = 12 := by omega
    have n13 : ¬ c = 13 := by omega
    have n14 : ¬ c = 14 := by omega
    have n15 : ¬ c = 15 := by omega
    have n16 : (c = 16) = True := eq_true n0
    have n35 : ¬ c = 35 := by omega
    have n144 : ¬ c = 144 := by omega
    have n147 : ¬ c = 147 := by omega
    have n161 : ¬ c = 161 := by omega
    have n162 : ¬ c = 162 := by omega
    have n17 : ¬ c = 17 := by omega
    have n145 : ¬ c = 145 := by omega
    have n21 : ¬ c = 21 := by omega
    have n148 : ¬ c = 148 := by omega
    have n149 : ¬ c = 149 := by omega
    have n40 : ¬ c = 40 := by omega
    have n47 : ¬ c = 47 := by omega
    have n146 : ¬ c = 146 := by omega
    have n157 : ¬ c = 157 := by omega
    have n158 : ¬ c = 158 := by omega
    have n163 : ¬ c = 163 := by omega
    have n6 : ¬ c = 6 := by omega
    have n150 : ¬ c = 150 := by omega
    have n151 : ¬ c = 151 := by omega
    have n155 : ¬ c = 155 := by omega
    have n156 : ¬ c = 156 := by omega
    have n159 : ¬ c = 159 := by omega
    have b0 : c ≥ 8 := by omega
    have b1 : ¬ c ≤ 15 := by omega
    have b2 : ¬ c ≥ 112 := by omega
    have b3 : c ≤ 143 := by omega
    have b4 : ¬ c ≥ 18 := by omega
    have b5 : c ≤ 46 := by omega
    have b6 : ¬ c ≥ 48 := by omega
    have b7 : c ≤ 111 := by omega
    have b8 : ¬ c < 0 := by omega
    have b9 : ¬ c > 163 := by omega
    have hs : shp c = 5 := by rw [n0]; decide
    rw [hs] at h
    ((try first | refine walk_aw env_ok (none) ?_ | refine walk_aw envR_ok (none) ?_); try simp -implicitDefEqProofs (maxSteps := 1000000) only [go_sem, ↓reduceIte, reduceCtorEq, Nat.reduceLT, Nat.reduceEqDiff, Nat.reduceBEq, Nat.reduceAdd, Nat.reduceMul, Nat.reduceSub, Nat.reduceLeDiff, Int.reduceNeg, Int.reduceLT, Int.reduceLE, Int.reduceEq, Int.reduceAdd, Int.reduceToNat, n3, n8, n9, n10, n11, n12, n13, n14, n15, n16, n35, n144, n147, n161, n162, n17, n145, n21, n148, n149, n40, n47, n146, n157, n158, n163, n6, n150, n151, n155, n156, n159, b0, b1, b2, b3, b4, b5, b6, b7, b8, b9])
    exact .inl h
  by_cases n0 : c = 35
  · have n3 : ¬ c = 3 := by omega
    have n8 : ¬ c = 8 := by omega
    have n9 : ¬ c = 9 := by omega
    have n10 : ¬ c = 10 := by omega
    have n11 : ¬ c = 11 := by omega
    have n12 : ¬ c = 12 := by omega
    have n13 : ¬ c = 13 := by omega
    have n14 : ¬ c = 14 := by omega
    have n15 : ¬ c = 15 := by omega
    have n16 : ¬ c = 16 := by omega
    have n35 : (c = 35) = True := eq_true n0
    have n144 : ¬ c = 144 := by omega
    have n147 : ¬ c = 147 := by omega
    have n161 : ¬ c = 161 := by omega
    have n162 : ¬ c = 162 := by omega
    have n17 : ¬ c = 17 := by omega
    have n145 : ¬ c = 145 := by omega
    have n21 : ¬ c = 21 := by omega
    have n148 : ¬ c = 148 := by omega
    have n149 : ¬ c = 149 := by omega
    have n40 : ¬ c = 40 := by omega
    have n47 : ¬ c = 47 := by omega
    have n146 : ¬ c = 146 := by omega
    have n157 : ¬ c = 157 := by omega
    have n158 : ¬ c = 158 := by omega
    have n163 : ¬ c = 163 := by omega
    have n6 : ¬ c = 6 := by omega
    have n150 : ¬ c = 150 := by omega
    have n151 : ¬ c = 151 := by omega
    have n155 : ¬ c = 155 := by omega
    have n156 : ¬ c = 156 := by omega
    have n159 : ¬ c = 159 := by omega
    have b0 : c ≥ 8 := by omega
    have b1 : ¬ c ≤ 15 := by omega
    have b2 : ¬ c ≥ 112 := by omega
    have b3 : c ≤ 143 := by omega
    have b4 : c ≥ 18 := by omega
    have b5 : c ≤ 46 := by omega
    have b6 : ¬ c ≥ 48 := by omega
    have b7 : c ≤ 111 := by omega
    have b8 : ¬ c < 0 := by omega
    have b9 : ¬ c > 163 := by omega
    have hs : shp c = 5 := by rw [n0]; decide
    rw [hs] at h
    ((try first | refine walk_aw env_ok (none) ?_ | refine walk_aw envR_ok (none) ?_); try simp -implicitDefEqProofs (maxSteps := 1000000) only [go_sem, ↓reduceIte, reduceCtorEq, Nat.reduceLT, Nat.reduceEqDiff, Nat.reduceBEq, Nat.reduceAdd, Nat.reduceMul, Nat.reduceSub, Nat.reduceLeDiff, Int.reduceNeg, Int.reduceLT, Int.reduceLE, Int.reduceEq, Int.reduceAdd, Int.reduceToNat, n3, n8, n9, n10, n11, n12, n13, n14, n15, n16, n35, n144, n147, n161, n162, n17, n145, n21, n148, n149, n40, n47, n146, n157, n158, n163, n6, n150, n151, n155, n156, n159, b0, b1, b2, b3, b4, b5, b6, b7, b8, b9])
    exact .inl h
  by_cases n0 : c = 144
  · have n3 : ¬ c = 3 := by omega
    have n8 : ¬ c = 8 := by omega
    have n9 : ¬ c = 9 := by omega
    have n10 : ¬ c = 10 := by omega
    have n11 : ¬ c = 11 := by omega
    have n12 : ¬ c = 12 := by omega
    have n13 : ¬ c = 13 := by omega
    have n14 : ¬ c = 14 := by omega
    have n15 : ¬ c = 15 := by omega
    have n16 : ¬ c = 16 := by omega
    have n35 : ¬ c = 35 := by omega
    have n144 : (c = 144) = True := eq_true n0
    have n147 : ¬ c = 147 := by omega
    have n161 : ¬ c = 161 := by omega
    have n162 : ¬ c = 162 := by omega
    have n17 : ¬ c = 17 := by omega
    have n145 : ¬ c = 145 := by omega
    have n21 : ¬ c = 21 := by omega
    have n148 : ¬ c = 148 := by omega
    have n149 : ¬ c = 149 := by omega
    have n40 : ¬ c = 40 := by omega
    have n47 : ¬ c = 47 := by omega
    have n146 : ¬ c = 146 := by omega
    have n157 : ¬ c = 157 := by omega
    have n158 : ¬ c = 158 := by omega
    have n163 : ¬ c = 163 := by omega
    have n6 : ¬ c = 6 := by omega
    have n150 : ¬ c = 150 := by omega
    have n151 : ¬ c = 151 := by omega
    have n155 : ¬ c = 155 := by omega
    have n156 : ¬ c = 156 := by omega
    have n159 : ¬ c = 159 := by omega
    have b0 : c ≥ 8 := by omega
    have b1 : ¬ c ≤ 15 := by omega
    have b2 : c ≥ 112 := by omega
    have b3 : ¬ c ≤ 143 := by omega
    have b4 : c ≥ 18 := by omega
    have b5 : ¬ c ≤ 46 := by omega
    have b6 : c ≥ 48 := by omega
    have b7 : ¬ c ≤ 111 := by omega
    have b8 : ¬ c < 0 := by omega
    have b9 : ¬ c > 163 := by omega
    have hs : shp c = 5 := by rw [n0]; decide
    rw [hs] at h
    ((try first | refine walk_aw env_ok (none) ?_ | refine walk_aw envR_ok (none) ?_); try simp -implicitDefEqProofs (maxSteps := 1000000) only [go_sem, ↓reduceIte, reduceCtorEq, Nat.reduceLT, Nat.reduceEqDiff, Nat.reduceBEq, Nat.reduceAdd, Nat.reduceMul, Nat.reduceSub, Nat.reduceLeDiff, Int.reduceNeg, Int.reduceLT, Int.reduceLE, Int.reduceEq, Int.reduceAdd, Int.reduceToNat, n3, n8, n9, n10, n11, n12, n13, n14, n15, n16, n35, n144, n147, n161, n162, n17, n145, n21, n148, n149, n40, n47, n146, n157, n158, n163, n6, n150, n151, n155, n156, n159, b0, b1, b2, b3, b4, b5, b6, b7, b8, b9])
    exact .inl h
  by_cases n0 : c = 147
  · have n3 : ¬ c = 3 := by omega
    have n8 : ¬ c = 8 := by omega
    have n9 : ¬ c = 9 := by omega
    have n10 : ¬ c = 10 := by omega
    have n11 : ¬ c = 11 := by omega
    have n12 : ¬ c = 12 := by omega
    have n13 : ¬ c = 13 := by omega
    have n14 : ¬ c = 14 := by omega
    have n15 : ¬ c = 15 := by omega
    have n16 : ¬ c = 16 := by omega
    have n35 : ¬ c = 35 := by omega
    have n144 : ¬ c = 144 := by omega
    have n147 : (c = 147) = True := eq_true n0
    have n161 : ¬ c = 161 := by omega
    have n162 : ¬ c = 162 := by omega
    have n17 : ¬ c = 17 := by omega
    have n145 : ¬ c = 145 := by omega
    have n21 : ¬ c = 21 := by omega
    have n148 : ¬ c = 148 := by omega
    have n149 : ¬ c = 149 := by omega
    have n40 : ¬ c = 40 := by omega
    have n47 : ¬ c = 47 := by omega
    have n146 : ¬ c = 146 := by omega
    have n157 : ¬ c = 157 := by omega
    have n158 : ¬ c = 158 := by omega
    have n163 : ¬ c = 163 := by omega
    have n6 : ¬ c = 6 := by omega
    have n150 : ¬ c = 150 := by omega
    have n151 : ¬ c = 151 := by omega
    have n155 : ¬ c = 155 := by omega
    have n156 : ¬ c = 156 := by omega
    have n159 : ¬ c = 159 := by omega
    have b0 : c ≥ 8 := by omega
    have b1 : ¬ c ≤ 15 := by omega
    have b2 : c ≥ 112 := by omega
    have b3 : ¬ c ≤ 143 := by omega
    have b4 : c ≥ 18 := by omega
    have b5 : ¬ c ≤ 46 := by omega
    have b6 : c ≥ 48 := by omega
    have b7 : ¬ c ≤ 111 := by omega
    have b8 : ¬ c < 0 := by omega
    have b9 : ¬ c > 163 := by omega
    have hs : shp c = 5 := by rw [n0]; decide
    rw [hs] at h
    ((try first | refine walk_aw env_ok (none) ?_ | refine walk_aw envR_ok (none) ?_); try simp -implicitDefEqProofs (maxSteps := 1000000) only [go_sem, ↓reduceIte, reduceCtorEq, Nat.reduceLT, Nat.reduceEqDiff, Nat.reduceBEq, Nat.reduceAdd, Nat.reduceMul, Nat.reduceSub, Nat.reduceLeDiff, Int.reduceNeg, Int.reduceLT, Int.reduceLE, Int.reduceEq, Int.reduceAdd, Int.reduceToNat, n3, n8, n9, n10, n11, n12, n13, n14, n15, n16, n35, n144, n147, n161, n162, n17, n145, n21, n148, n149, n40, n47, n146, n157, n158, n163, n6, n150, n151, n155, n156, n159, b0, b1, b2, b3, b4, b5, b6, b7, b8, b9])
    exact .inl h
  by_cases n0 : c = 161
  · have n3 : ¬ c = 3 := by omega
    have n8 : ¬ c = 8 := by omega
    have n9 : ¬ c = 9 := by omega
    have n10 : ¬ c = 10 := by omega
    have n11 : ¬ c = 11 := by omega
    have n12 : ¬ c = 12 := by omega
    have n13 : ¬ c = 13 := by omega
    have n14 : ¬ c = 14 := by omega
    have n15 : ¬ c = 15 := by omega
    have n16 : ¬ c = 16 := by omega
    have n35 : ¬ c = 35 := by omega
    have n144 : ¬ c = 144 := by omega
    have n147 : ¬ c = 147 := by omega
    have n161 : (c = 161) = True := eq_true n0
    have n162 : ¬ c = 162 := by omega
    have n17 : ¬ c = 17 := by omega
    have n145 : ¬ c = 145 := by omega
    have n21 : ¬ c = 21 := by omega
    have n148 : ¬ c = 148 := by omega
    have n149 : ¬ c = 149 := by omega
    have n40 : ¬ c = 40 := by omega
    have n47 : ¬ c = 47 := by omega
    have n146 : ¬ c = 146 := by omega
    have n157 : ¬ c = 157 := by omega
    have n158 : ¬ c = 158 := by omega
    have n163 : ¬ c = 163 := by omega
    have n6 : ¬ c = 6 := by omega
    have n150 : ¬ c = 150 := by omega
    have n151 : ¬ c = 151 := by omega
    have n155 : ¬ c = 155 := by omega
    have n156 : ¬ c = 156 := by omega
    have n159 : ¬ c = 159 := by omega
    have b0 : c ≥ 8 := by omega
    have b1 : ¬ c ≤ 15 := by omega
    have b2 : c ≥ 112 := by omega
    have b3 : ¬ c ≤ 143 := by omega
    have b4 : c ≥ 18 := by omega
    have b5 : ¬ c ≤ 46 := by omega
    have b6 : c ≥ 48 := by omega
    have b7 : ¬ c ≤ 111 := by omega
    have b8 : ¬ c < 0 := by omega
    have b9 : ¬ c > 163 := by omega
    have hs : shp c = 5 := by rw [n0]; decide
    rw [hs] at h
    ((try first | refine walk_aw env_ok (none) ?_ | refine walk_aw envR_ok (none) ?_); try simp -implicitDefEqProofs (maxSteps := 1000000) only [go_sem, ↓reduceIte, reduceCtorEq, Nat.reduceLT, Nat.reduceEqDiff, Nat.reduceBEq, Nat.reduceAdd, Nat.reduceMul, Nat.reduceSub, Nat.reduceLeDiff, Int.reduceNeg, Int.reduceLT, Int.reduceLE, Int.reduceEq, Int.reduceAdd, Int.reduceToNat, n3, n8, n9, n10, n11, n12, n13, n14, n15, n16, n35, n144, n147, n161, n162, n17, n145, n21, n148, n149, n40, n47, n146, n157, n158, n163, n6, n150, n151, n155, n156, n159, b0, b1, b2, b3, b4, b5, b6, b7, b8, b9])
    exact .inl h
  by_cases n0 : c = 162
  · have n3 : ¬ c = 3 := by omega
    have n8 : ¬ c = 8 := by omega
    have n9 : ¬ c = 9 := by omega
    have n10 : ¬ c = 10 := by omega
    have n11 : ¬ c = 11 := by omega
    have n12 : ¬ c = 12 := by omega
    have n13 : ¬ c = 13 := by omega
    have n14 : ¬ c = 14 := by omega
    have n15 : ¬ c = 15 := by omega
    have n16 : ¬ c = 16 := by omega
    have n35 : ¬ c = 35 := by omega
    have n144 : ¬ c = 144 := by omega
    have n147 : ¬ c = 147 := by omega
    have n161 : ¬ c = 161 := by omega
    have n162 : (c = 162) = True := eq_true n0
    have n17 : ¬ c = 17 := by omega
    have n145 : ¬ c = 145 := by omega
    have n21 : ¬ c = 21 := by omega
    have n148 : ¬ c = 148 := by omega
    have n149 : ¬ c = 149 := by omega
    have n40 : ¬ c = 40 := by omega
    have n47 : ¬ c = 47 := by omega
    have n146 : ¬ c = 146 := by omega
    have n157 : ¬ c = 157 := by omega
    have n158 : ¬ c = 158 := by omega
    have n163 : ¬ c = 163 := by omega
    have n6 : ¬ c = 6 := by omega
    have n150 : ¬ c = 150 := by omega
    have n151 : ¬ c = 151 := by omega
    have n155 : ¬ c = 155 := by omega
    have n156 : ¬ c = 156 := by omega
    have n159 : ¬ c = 159 := by omega
    have b0 : c ≥ 8 := by omega
    have b1 : ¬ c ≤ 15 := by omega
    have b2 : c ≥ 112 := by omega
    have b3 : ¬ c ≤ 143 := by omega
    have b4 : c ≥ 18 := by omega
    have b5 : ¬ c ≤ 46 := by omega
    have b6 : c ≥ 48 := by omega
    have b7 : ¬ c ≤ 111 := by omega
    have b8 : ¬ c < 0 := by omega
    have b9 : ¬ c > 163 := by omega
    have hs : shp c = 5 := by rw [n0]; decide
    rw [hs] at h
    ((try first | refine walk_aw env_ok (none) ?_ | refine walk_aw envR_ok (none) ?_); try simp -implicitDefEqProofs (maxSteps := 1000000) only [go_sem, ↓reduceIte, reduceCtorEq, Nat.reduceLT, Nat.reduceEqDiff, Nat.reduceBEq, Nat.reduceAdd, Nat.reduceMul, Nat.reduceSub, Nat.reduceLeDiff, Int.reduceNeg, Int.reduceLT, Int.reduceLE, Int.reduceEq, Int.reduceAdd, Int.reduceToNat, n3, n8, n9, n10, n11, n12, n13, n14, n15, n16, n35, n144, n147, n161, n162, n17, n145, n21, n148, n149, n40, n47, n146, n157, n158, n163, n6, n150, n151, n155, n156, n159, b0, b1, b2, b3, b4, b5, b6, b7, b8, b9])
    exact .inl h
  by_cases n0 : c = 17
  · have n3 : ¬ c = 3 := by omega
    have n8 : ¬ c = 8 := by omega
    have n9 : ¬ c = 9 := by omega
    have n10 : ¬ c = 10 := by omega
    have n11 : ¬ c = 11 := by omega
    have n12 : ¬ c = 12 := by omega
    have n13 : ¬ c = 13 := by omega
    have n14 : ¬ c = 14 := by omega
    have n15 : ¬ c = 15 := by omega
    have n16 : ¬ c = 16 := by omega
    have n35 : ¬ c = 35 := by omega
    have n144 : ¬ c = 144 := by omega
    have n147 : ¬ c = 147 := by omega
    have n161 : ¬ c = 161 := by omega
    have n162 : ¬ c = 162 := by omega
    have n17 : (c = 17) = True := eq_true n0
    have n145 : ¬ c = 145 := by omega
    have n21 : ¬ c = 21 := by omega
    have n148 : ¬ c = 148 := by omega
    have n149 : ¬ c = 149 := by omega
    have n40 : ¬ c = 40 := by omega
    have n47 : ¬ c = 47 := by omega
    have n146 : ¬ c = 146 := by omega
    have n157 : ¬ c = 157 := by omega
    have n158 : ¬ c = 158 := by omega
    have n163 : ¬ c = 163 := by omega
    have n6 : ¬ c = 6 := by omega
    have n150 : ¬ c = 150 := by omega
    have n151 : ¬ c = 151 := by omega
    have n155 : ¬ c = 155 := by omega
    have n156 : ¬ c = 156 := by omega
    have n159 : ¬ c = 159 := by omega
    have b0 : c ≥ 8 := by omega
    have b1 : ¬ c ≤ 15 := by omega
    have b2 : ¬ c ≥ 112 := by omega
    have b3 : c ≤ 143 := by omega
    have b4 : ¬ c ≥ 18 := by omega
    have b5 : c ≤ 46 := by omega
    have b6 : ¬ c ≥ 48 := by omega
    have b7 : c ≤ 111 := by omega
    have b8 : ¬ c < 0 := by omega
    have b9 : ¬ c > 163 := by omega
    have hs : shp c = 6 := by rw [n0]; decide
    rw [hs] at h
    ((try first | refine walk_aw env_ok (none) ?_ | refine walk_aw envR_ok (none) ?_); try simp -implicitDefEqProofs (maxSteps := 1000000) only [go_sem, ↓reduceIte, reduceCtorEq, Nat.reduceLT, Nat.reduceEqDiff, Nat.reduceBEq, Nat.reduceAdd, Nat.reduceMul, Nat.reduceSub, Nat.reduceLeDiff, Int.reduceNeg, Int.reduceLT, Int.reduceLE, Int.reduceEq, Int.reduceAdd, Int.reduceToNat, n3, n8, n9, n10, n11, n12, n13, n14, n15, n16, n35, n144, n147, n161, n162, n17, n145, n21, n148, n149, n40, n47, n146, n157, n158, n163, n6, n150, n151, n155, n156, n159, b0, b1, b2, b3, b4, b5, b6, b7, b8, b9])
    exact .inl h
  by_cases n0 : c = 145
  · have n3 : ¬ c = 3 := by omega
    have n8 : ¬ c = 8 := by omega
    have n9 : ¬ c = 9 := by omega
    have n10 : ¬ c = 10 := by omega
    have n11 : ¬ c = 11 := by omega
    have n12 : ¬ c = 12 := by omega
    have n13 : ¬ c = 13 := by omega
    have n14 : ¬ c = 14 := by omega
    have n15 : ¬ c = 15 := by omega
    have n16 : ¬ c = 16 := by omega
    have n35 : ¬ c = 35 := by omega
    have n144 : ¬ c = 144 := by omega
    have n147 : ¬ c = 147 := by omega
    have n161 : ¬ c = 161 := by omega
    have n162 : ¬ c = 162 := by omega
    have n17 : ¬ c = 17 := by omega
    have n145 : (c = 145) = True := eq_true n0
    have n21 : ¬ c = 21 := by omega
    have n148 : ¬ c = 148 := by omega
    have n149 : ¬ c = 149 := by omega
    have n40 : ¬ c = 40 := by omega
    have n47 : ¬ c = 47 := by omega
    have n146 : ¬ c = 146 := by omega
    have n157 : ¬ c = 157 := by omega
    have n158 : ¬ c = 158 := by omega
    have n163 : ¬ c = 163 := by omega
    have n6 : ¬ c = 6 := by omega
    have n150 : ¬ c = 150 := by omega
    have n151 : ¬ c = 151 := by omega
    have n155 : ¬ c = 155 := by omega
    have n156 : ¬ c = 156 := by omega
    have n159 : ¬ c = 159 := by omega
    have b0 : c ≥ 8 := by omega
    have b1 : ¬ c ≤ 15 := by omega
    have b2 : c ≥ 112 := by omega
    have b3 : ¬ c ≤ 143 := by omega
    have b4 : c ≥ 18 := by omega
    have b5 : ¬ c ≤ 46 := by omega
    have b6 : c ≥ 48 := by omega
    have b7 : ¬ c ≤ 111 := by omega
    have b8 : ¬ c < 0 := by omega
    have b9 : ¬ c > 163 := by omega
    have hs : shp c = 6 := by rw [n0]; decide
    rw [hs] at h
    ((try first | refine walk_aw env_ok (none) ?_ | refine walk_aw envR_ok (none) ?_); try simp -implicitDefEqProofs (maxSteps := 1000000) only [go_sem, ↓reduceIte, reduceCtorEq, Nat.reduceLT, Nat.reduceEqDiff, Nat.reduceBEq, Nat.reduceAdd, Nat.reduceMul, Nat.reduceSub, Nat.reduceLeDiff, Int.reduceNeg, Int.reduceLT, Int.reduceLE, Int.reduceEq, Int.reduceAdd, Int.reduceToNat, n3, n8, n9, n10, n11, n12, n13, n14, n15, n16, n35, n144, n147, n161, n162, n17, n145, n21, n148, n149, n40, n47, n146, n157, n158, n163, n6, n150, n151, n155, n156, n159, b0, b1, b2, b3, b4, b5, b6, b7, b8, b9])
    exact .inl h
  by_cases n0 : c = 21
  · have n3 : ¬ c = 3 := by omega
    have n8 : ¬ c = 8 := by omega
    have n9 : ¬ c = 9 := by omega
    have n10 : ¬ c = 10 := by omega
    have n11 : ¬ c = 11 := by omega
    have n12 : ¬ c = 12 := by omega
    have n13 : ¬ c = 13 := by omega
    have n14 : ¬ c = 14 := by omega
    have n15 : ¬ c = 15 := by omega
    have n16 : ¬ c = 16 := by omega
    have n35 : ¬ c = 35 := by omega
    have n144 : ¬ c = 144 := by omega
    have n147 : ¬ c = 147 := by omega
    have n161 : ¬ c = 161 := by omega
    have n162 : ¬ c = 162 := by omega
    have n17 : ¬ c = 17 := by omega
    have n145 : ¬ c = 145 := by omega
    have n21 : (c = 21) = True := eq_true n0
    have n148 : ¬ c = 148 := by omega
    have n149 : ¬ c = 149 := by omega
    have n40 : ¬ c = 40 := by omega
    have n47 : ¬ c = 47 := by omega
    have n146 : ¬ c = 146 := by omega
    have n157 : ¬ c = 157 := by omega
    have n158 : ¬ c = 158 := by omega
    have n163 : ¬ c = 163 := by omega
    have n6 : ¬ c = 6 := by omega
    have n150 : ¬ c = 150 := by omega
    have n151 : ¬ c = 151 := by omega
    have n155 : ¬ c = 155 := by omega
    have n156 : ¬ c = 156 := by omega
    have n159 : ¬ c = 159 := by omega
    have b0 : c ≥ 8 := by omega
    have b1 : ¬ c ≤ 15 := by omega
    have b2 : ¬ c ≥ 112 := by omega
    have b3 : c ≤ 143 := by omega
    have b4 : c ≥ 18 := by omega
    have b5 : c ≤ 46 := by omega
    have b6 : ¬ c ≥ 48 := by omega
    have b7 : c ≤ 111 := by omega
    have b8 : ¬ c < 0 := by omega
    have b9 : ¬ c > 163 := by omega
    have hs : shp c = 7 := by rw [n0]; decide
    rw [hs] at h
    ((try first | refine walk_aw env_ok (none) ?_ | refine walk_aw envR_ok (none) ?_); try simp -implicitDefEqProofs (maxSteps := 1000000) only [go_sem, ↓reduceIte, reduceCtorEq, Nat.reduceLT, Nat.reduceEqDiff, Nat.reduceBEq, Nat.reduceAdd, Nat.reduceMul, Nat.reduceSub, Nat.reduceLeDiff, Int.reduceNeg, Int.reduceLT, Int.reduceLE, Int.reduceEq, Int.reduceAdd, Int.reduceToNat, n3, n8, n9, n10, n11, n12, n13, n14, n15, n16, n35, n144, n147, n161, n162, n17, n145, n21, n148, n149, n40, n47, n146, n157, n158, n163, n6, n150, n151, n155, n156, n159, b0, b1, b2, b3, b4, b5, b6, b7, b8, b9])
    exact .inl h
  by_cases n0 : c = 148
  · have n3 : ¬ c = 3 := by omega
    have n8 : ¬ c = 8 := by omega
    have n9 : ¬ c = 9 := by omega
    have n10 : ¬ c = 10 := by omega
    have n11 : ¬ c = 11 := by omega
    have n12 : ¬ c = 12 := by omega
    have n13 : ¬ c = 13 := by omega
    have n14 : ¬ c = 14 := by omega
    have n15 : ¬ c = 15 := by omega
    have n16 : ¬ c = 16 := by omega
    have n35 : ¬ c = 35 := by omega
    have n144 : ¬ c = 144 := by omega
    have n147 : ¬ c = 147 := by omega
    have n161 : ¬ c = 161 := by omega
    have n162 : ¬ c = 162 := by omega
    have n17 : ¬ c = 17 := by omega
    have n145 : ¬ c = 145 := by omega
    have n21 : ¬ c = 21 := by omega
    have n148 : (c = 148) = True := eq_true n0
    have n149 : ¬ c = 149 := by omega
    have n40 : ¬ c = 40 := by omega
    have n47 : ¬ c = 47 := by omega
    have n146 : ¬ c = 146 := by omega
    have n157 : ¬ c = 157 := by omega
    have n158 : ¬ c = 158 := by omega
    have n163 : ¬ c = 163 := by omega
    have n6 : ¬ c = 6 := by omega
    have n150 : ¬ c = 150 := by omega
    have n151 : ¬ c = 151 := by omega
    have n155 : ¬ c = 155 := by omega
    have n156 : ¬ c = 156 := by omega
    have n159 : ¬ c = 159 := by omega
    have b0 : c ≥ 8 := by omega
    have b1 : ¬ c ≤ 15 := by omega
    have b2 : c ≥ 112 := by omega
    have b3 : ¬ c ≤ 143 := by omega
    have b4 : c ≥ 18 := by omega
    have b5 : ¬ c ≤ 46 := by omega
    have b6 : c ≥ 48 := by omega
    have b7 : ¬ c ≤ 111 := by omega
    have b8 : ¬ c < 0 := by omega
    have b9 : ¬ c > 163 := by omega
    have hs : shp c = 7 := by rw [n0]; decide
    rw [hs] at h
    ((try first | refine walk_aw env_ok (none) ?_ | refine walk_aw envR_ok (none) ?_); try simp -implicitDefEqProofs (maxSteps := 1000000) only [go_sem, ↓reduceIte, reduceCtorEq, Nat.reduceLT, Nat.reduceEqDiff, Nat.reduceBEq, Nat.reduceAdd, Nat.reduceMul, Nat.reduceSub, Nat.reduceLeDiff, Int.reduceNeg, Int.reduceLT, Int.reduceLE, Int.reduceEq, Int.reduceAdd, Int.reduceToNat, n3, n8, n9, n10, n11, n12, n13, n14, n15, n16, n35, n144, n147, n161, n162, n17, n145, n21, n148, n149, n40, n47, n146, n157, n158, n163, n6, n150, n151, n155, n156, n159, b0, b1, b2, b3, b4, b5, b6, b7, b8, b9])
    exact .inl h
  by_cases n0 : c = 149
  · have n3 : ¬ c = 3 := by omega
    have n8 : ¬ c = 8 := by omega
    have n9 : ¬ c = 9 := by omega
    have n10 : ¬ c = 10 := by omega
    have n11 : ¬ c = 11 := by omega
    have n12 : ¬ c = 12 := by omega
    have n13 : ¬ c = 13 := by omega
    have n14 : ¬ c = 14 := by omega
    have n15 : ¬ c = 15 := by omega
    have n16 : ¬ c = 16 := by omega
    have n35 : ¬ c = 35 := by omega
    have n144 : ¬ c = 144 := by omega
    have n147 : ¬ c = 147 := by omega
    have n161 : ¬ c = 161 := by omega
    have n162 : ¬ c = 162 := by omega
    have n17 : ¬ c = 17 := by omega
    have n145 : ¬ c = 145 := by omega
    have n21 : ¬ c = 21 := by omega
    have n148 : ¬ c = 148 := by omega
    have n149 : (c = 149) = True := eq_true n0
    have n40 : ¬ c = 40 := by omega
    have n47 : ¬ c = 47 := by omega
    have n146 : ¬ c = 146 := by omega
    have n157 : ¬ c = 157 := by omega
    have n158 : ¬ c = 158 := by omega
    have n163 : ¬ c = 163 := by omega
    have n6 : ¬ c = 6 := by omega
    have n150 : ¬ c = 150 := by omega
    have n151 : ¬ c = 151 := by omega
    have n155 : ¬ c = 155 := by omega
    have n156 : ¬ c = 156 := by omega
    have n159 : ¬ c = 159 := by omega
    have b0 : c ≥ 8 := by omega
    have b1 : ¬ c ≤ 15 := by omega
    have b2 : c ≥ 112 := by omega
    have b3 : ¬ c ≤ 143 := by omega
    have b4 : c ≥ 18 := by omega
    have b5 : ¬ c ≤ 46 := by omega
    have b6 : c ≥ 48 := by omega
    have b7 : ¬ c ≤ 111 := by omega
    have b8 : ¬ c < 0 := by omega
    have b9 : ¬ c > 163 := by omega
    have hs : shp c = 7 := by rw [n0]; decide
    rw [hs] at h
    ((try first | refine walk_aw env_ok (none) ?_ | refine walk_aw envR_ok (none) ?_); try simp -implicitDefEqProofs (maxSteps := 1000000) only [go_sem, ↓reduceIte, reduceCtorEq, Nat.reduceLT, Nat.reduceEqDiff, Nat.reduceBEq, Nat.reduceAdd, Nat.reduceMul, Nat.reduceSub, Nat.reduceLeDiff, Int.reduceNeg, Int.reduceLT, Int.reduceLE, Int.reduceEq, Int.reduceAdd, Int.reduceToNat, n3, n8, n9, n10, n11, n12, n13, n14, n15, n16, n35, n144, n147, n161, n162, n17, n145, n21, n148, n149, n40, n47, n146, n157, n158, n163, n6, n150, n151, n155, n156, n159, b0, b1, b2, b3, b4, b5, b6, b7, b8, b9])
    exact .inl h
  by_cases n0 : c = 40
  · have n3 : ¬ c = 3 := by omega
    have n8 : ¬ c = 8 := by omega
    have n9 : ¬ c = 9 := by omega
    have n10 : ¬ c = 10 := by omega
    have n11 : ¬ c = 11 := by omega
    have n12 : ¬ c = 12 := by omega
    have n13 : ¬ c = 13 := by omega
    have n14 : ¬ c = 14 := by omega
    have n15 : ¬ c = 15 := by omega
    have n16 : ¬ c = 16 := by omega
    have n35 : ¬ c = 35 := by omega
    have n144 : ¬ c = 144 := by omega
    have n147 : ¬ c = 147 := by omega
    have n161 : ¬ c = 161 := by omega
    have n162 : ¬ c = 162 := by omega
    have n17 : ¬ c = 17 := by omega
    have n145 : ¬ c = 145 := by omega
    have n21 : ¬ c = 21 := by omega
    have n148 : ¬ c = 148 := by omega
    have n149 : ¬ c = 149 := by omega
    have n40 : (c = 40) = True := eq_true n0
    have n47 : ¬ c = 47 := by omega
    have n146 : ¬ c = 146 := by omega
    have n157 : ¬ c = 157 := by omega
    have n158 : ¬ c = 158 := by omega
    have n163 : ¬ c = 163 := by omega
    have n6 : ¬ c = 6 := by omega
    have n150 : ¬ c = 150 := by omega
    have n151 : ¬ c = 151 := by omega
    have n155 : ¬ c = 155 := by omega
    have n156 : ¬ c = 156 := by omega
    have n159 : ¬ c = 159 := by omega
    have b0 : c ≥ 8 := by omega
    have b1 : ¬ c ≤ 15 := by omega
    have b2 : ¬ c ≥ 112 := by omega
    have b3 : c ≤ 143 := by omega
    have b4 : c ≥ 18 := by omega
    have b5 : c ≤ 46 := by omega
    have b6 : ¬ c ≥ 48 := by omega
    have b7 : c ≤ 111 := by omega
    have b8 : ¬ c < 0 := by omega
    have b9 : ¬ c > 163 := by omega
    have hs : shp c = 8 := by rw [n0]; decide
    rw [hs] at h
    ((try first | refine walk_aw env_ok (none) ?_ | refine walk_aw envR_ok (none) ?_); try simp -implicitDefEqProofs (maxSteps := 1000000) only [go_sem, ↓reduceIte, reduceCtorEq, Nat.reduceLT, Nat.reduceEqDiff, Nat.reduceBEq, Nat.reduceAdd, Nat.reduceMul, Nat.reduceSub, Nat.reduceLeDiff, Int.reduceNeg, Int.reduceLT, Int.reduceLE, Int.reduceEq, Int.reduceAdd, Int.reduceToNat, n3, n8, n9, n10, n11, n12, n13, n14, n15, n16, n35, n144, n147, n161, n162, n17, n145, n21, n148, n149, n40, n47, n146, n157, n158, n163, n6, n150, n151, n155, n156, n159, b0, b1, b2, b3, b4, b5, b6, b7, b8, b9])
    exact .inl h
  by_cases n0 : c = 47
  · have n3 : ¬ c = 3 := by omega
    have n8 : ¬ c = 8 := by omega
    have n9 : ¬ c = 9 := by omega
    have n10 : ¬ c = 10 := by omega
    have n11 : ¬ c = 11 := by omega
    have n12 : ¬ c = 12 := by omega
    have n13 : ¬ c = 13 := by omega
    have n14 : ¬ c = 14 := by omega
    have n15 : ¬ c = 15 := by omega
    have n16 : ¬ c = 16 := by omega
    have n35 : ¬ c = 35 := by omega
    have n144 : ¬ c = 144 := by omega
    have n147 : ¬ c = 147 := by omega
    have n161 : ¬ c = 161 := by omega
    have n162 : ¬ c = 162 := by omega
    have n17 : ¬ c = 17 := by omega
    have n145 : ¬ c = 145 := by omega
    have n21 : ¬ c = 21 := by omega
    have n148 : ¬ c = 148 := by omega
    have n149 : ¬ c = 149 := by omega
    have n40 : ¬ c = 40 := by omega
    have n47 : (c = 47) = True := eq_true n0
    have n146 : ¬ c = 146 := by omega
    have n157 : ¬ c = 157 := by omega
    have n158 : ¬ c = 158 := by omega
    have n163 : ¬ c = 163 := by omega
    have n6 : ¬ c = 6 := by omega
    have n150 : ¬ c = 150 := by omega
    have n151 : ¬ c = 151 := by omega
    have n155 : ¬ c = 155 := by omega
    have n156 : ¬ c = 156 := by omega
    have n159 : ¬ c = 159 := by omega
    have b0 : c ≥ 8 := by omega
    have b1 : ¬ c ≤ 15 := by omega
    have b2 : ¬ c ≥ 112 := by omega
    have b3 : c ≤ 143 := by omega
    have b4 : c ≥ 18 := by omega
    have b5 : ¬ c ≤ 46 := by omega
    have b6 : ¬ c ≥ 48 := by omega
    have b7 : c ≤ 111 := by omega
    have b8 : ¬ c < 0 := by omega
    have b9 : ¬ c > 163 := by omega
    have hs : shp c = 8 := by rw [n0]; decide
    rw [hs] at h
    ((try first | refine walk_aw env_ok (none) ?_ | refine walk_aw envR_ok (none) ?_); try simp -implicitDefEqProofs (maxSteps := 1000000) only [go_sem, ↓reduceIte, reduceCtorEq, Nat.reduceLT, Nat.reduceEqDiff, Nat.reduceBEq, Nat.reduceAdd, Nat.reduceMul, Nat.reduceSub, Nat.reduceLeDiff, Int.reduceNeg, Int.reduceLT, Int.reduceLE, Int.reduceEq, Int.reduceAdd, Int.reduceToNat, n3, n8, n9, n10, n11, n12, n13, n14, n15, n16, n35, n144, n147, n161, n162, n17, n145, n21, n148, n149, n40, n47, n146, n157, n158, n163, n6, n150, n151, n155, n156, n159, b0, b1, b2, b3, b4, b5, b6, b7, b8, b9])
    exact .inl h
  by_cases n0 : c = 146
  · have n3 : ¬ c = 3 := by omega
    have n8 : ¬ c = 8 := by omega
    have n9 : ¬ c = 9 := by omega
    have n10 : ¬ c = 10 := by omega
    have n11 : ¬ c = 11 := by omega
    have n12 : ¬ c = 12 := by omega
    have n13 : ¬ c = 13 := by omega
    have n14 : ¬ c = 14 := by omega
    have n15 : ¬ c = 15 := by omega
    have n16 : ¬ c = 16 := by omega
    have n35 : ¬ c = 35 := by omega
    have n144 : ¬ c = 144 := by omega
    have n147 : ¬ c = 147 := by omega
    have n161 : ¬ c = 161 := by omega
    have n162 : ¬ c = 162 := by omega
    have n17 : ¬ c = 17 := by omega
    have n145 : ¬ c = 145 := by omega
    have n21 : ¬ c = 21 := by omega
    have n148 : ¬ c = 148 := by omega
    have n149 : ¬ c = 149 := by omega
    have n40 : ¬ c = 40 := by omega
    have n47 : ¬ c = 47 := by omega
    have n146 : (c = 146) = True := eq_true n0
    have n157 : ¬ c = 157 := by omega
    have n158 : ¬ c = 158 := by omega
    have n163 : ¬ c = 163 := by omega
    have n6 : ¬ c = 6 := by omega
    have n150 : ¬ c = 150 := by omega
    have n151 : ¬ c = 151 := by omega
    have n155 : ¬ c = 155 := by omega
    have n156 : ¬ c = 156 := by omega
    have n159 : ¬ c = 159 := by omega
    have b0 : c ≥ 8 := by omega
    have b1 : ¬ c ≤ 15 := by omega
    have b2 : c ≥ 112 := by omega
    have b3 : ¬ c ≤ 143 := by omega
    have b4 : c ≥ 18 := by omega
    have b5 : ¬ c ≤ 46 := by omega
    have b6 : c ≥ 48 := by omega
    have b7 : ¬ c ≤ 111 := by omega
    have b8 : ¬ c < 0 := by omega
    have b9 : ¬ c > 163 := by omega
    have hs : shp c = 9 := by rw [n0]; decide
    rw [hs] at h
    ((try first | refine walk_aw env_ok (none) ?_ | refine walk_aw envR_ok (none) ?_); try simp -implicitDefEqProofs (maxSteps := 1000000) only [go_sem, ↓reduceIte, reduceCtorEq, Nat.reduceLT, Nat.reduceEqDiff, Nat.reduceBEq, Nat.reduceAdd, Nat.reduceMul, Nat.reduceSub, Nat.reduceLeDiff, Int.reduceNeg, Int.reduceLT, Int.reduceLE, Int.reduceEq, Int.reduceAdd, Int.reduceToNat, n3, n8, n9, n10, n11, n12, n13, n14, n15, n16, n35, n144, n147, n161, n162, n17, n145, n21, n148, n149, n40, n47, n146, n157, n158, n163, n6, n150, n151, n155, n156, n159, b0, b1, b2, b3, b4, b5, b6, b7, b8, b9])
    exact .inl h
  by_cases n0 : c = 157
  · have n3 : ¬ c = 3 := by omega
    have n8 : ¬ c = 8 := by omega
    have n9 : ¬ c = 9 := by omega
    have n10 : ¬ c = 10 := by omega
    have n11 : ¬ c = 11 := by omega
    have n12 : ¬ c = 12 := by omega
    have n13 : ¬ c = 13 := by omega
    have n14 : ¬ c = 14 := by omega
    have n15 : ¬ c = 15 := by omega
    have n16 : ¬ c = 16 := by omega
    have n35 : ¬ c = 35 := by omega
    have n144 : ¬ c = 144 := by omega
    have n147 : ¬ c = 147 := by omega
    have n161 : ¬ c = 161 := by omega
    have n162 : ¬ c = 162 := by omega
    have n17 : ¬ c = 17 := by omega
    have n145 : ¬ c = 145 := by omega
    have n21 : ¬ c = 21 := by omega
    have n148 : ¬ c = 148 := by omega
    have n149 : ¬ c = 149 := by omega
    have n40 : ¬ c = 40 := by omega
    have n47 : ¬ c = 47 := by omega
    have n146 : ¬ c = 146 := by omega
    have n157 : (c = 157) = True := eq_true n0
    have n158 : ¬ c = 158 := by omega
    have n163 : ¬ c = 163 := by omega
    have n6 : ¬ c = 6 := by omega
    have n150 : ¬ c = 150 := by omega
    have n151 : ¬ c = 151 := by omega
    have n155 : ¬ c = 155 := by omega
    have n156 : ¬ c = 156 := by omega
    have n159 : ¬ c = 159 := by omega
    have b0 : c ≥ 8 := by omega
    have b1 : ¬ c ≤ 15 := by omega
    have b2 : c ≥ 112 := by omega
    have b3 : ¬ c ≤ 143 := by omega
    have b4 : c ≥ 18 := by omega
    have b5 : ¬ c ≤ 46 := by omega
    have b6 : c ≥ 48 := by omega
    have b7 : ¬ c ≤ 111 := by omega
    have b8 : ¬ c < 0 := by omega
    have b9 : ¬ c > 163 := by omega
    have hs : shp c = 10 := by rw [n0]; decide
    rw [hs] at h
    ((try first | refine walk_aw env_ok (none) ?_ | refine walk_aw envR_ok (none) ?_); try simp -implicitDefEqProofs (maxSteps := 1000000) only [go_sem, ↓reduceIte, reduceCtorEq, Nat.reduceLT, Nat.reduceEqDiff, Nat.reduceBEq, Nat.reduceAdd, Nat.reduceMul, Nat.reduceSub, Nat.reduceLeDiff, Int.reduceNeg, Int.reduceLT, Int.reduceLE, Int.reduceEq, Int.reduceAdd, Int.reduceToNat, n3, n8, n9, n10, n11, n12, n13, n14, n15, n16, n35, n144, n147, n161, n162, n17, n145, n21, n148, n149, n40, n47, n146, n157, n158, n163, n6, n150, n151, n155, n156, n159, b0, b1, b2, b3, b4, b5, b6, b7, b8, b9])
    exact .inl h
  by_cases n0 : c = 158
  · have n3 : ¬ c = 3 := by omega
    have n8 : ¬ c = 8 := by omega
    have n9 : ¬ c = 9 := by omega
    have n10 : ¬ c = 10 := by omega
    have n11 : ¬ c = 11 := by omega
    have n12 : ¬ c = 12 := by omega
    have n13 : ¬ c = 13 := by omega
    have n14 : ¬ c = 14 := by omega
    have n15 : ¬ c = 15 := by omega
    have n16 : ¬ c = 16 := by omega
    have n35 : ¬ c = 35 := by omega
    have n144 : ¬ c = 144 := by omega
    have n147 : ¬ c = 147 := by omega
    have n161 : ¬ c = 161 := by omega
    have n162 : ¬ c = 162 := by omega
    have n17 : ¬ c = 17 := by omega
    have n145 : ¬ c = 145 := by omega
    have n21 : ¬ c = 21 := by omega
    have n148 : ¬ c = 148 := by omega
    have n149 : ¬ c = 149 := by omega
    have n40 : ¬ c = 40 := by omega
    have n47 : ¬ c = 47 := by omega
    have n146 : ¬ c = 146 := by omega
    have n157 : ¬ c = 157 := by omega
    have n158 : (c = 158) = True := eq_true n0
    have n163 : ¬ c = 163 := by omega
    have n6 : ¬ c = 6 := by omega
    have n150 : ¬ c = 150 := by omega
    have n151 : ¬ c = 151 := by omega
    have n155 : ¬ c = 155 := by omega
    have n156 : ¬ c = 156 := by omega
    have n159 : ¬ c = 159 := by omega
    have b0 : c ≥ 8 := by omega
    have b1 : ¬ c ≤ 15 := by omega
    have b2 : c ≥ 112 := by omega
    have b3 : ¬ c ≤ 143 := by omega
    have b4 : c ≥ 18 := by omega
    have b5 : ¬ c ≤ 46 := by omega
    have b6 : c ≥ 48 := by omega
    have b7 : ¬ c ≤ 111 := by omega
    have b8 : ¬ c < 0 := by omega
    have b9 : ¬ c > 163 := by omega
    have hs : shp c = 11 := by rw [n0]; decide
    rw [hs] at h
    ((try first | refine walk_aw env_ok (none) ?_ | refine walk_aw envR_ok (none) ?_); try simp -implicitDefEqProofs (maxSteps := 1000000) only [go_sem, ↓reduceIte, reduceCtorEq, Nat.reduceLT, Nat.reduceEqDiff, Nat.reduceBEq, Nat.reduceAdd, Nat.reduceMul, Nat.reduceSub, Nat.reduceLeDiff, Int.reduceNeg, Int.reduceLT, Int.reduceLE, Int.reduceEq, Int.reduceAdd, Int.reduceToNat, n3, n8, n9, n10, n11, n12, n13, n14, n15, n16, n35, n144, n147, n161, n162, n17, n145, n21, n148, n149, n40, n47, n146, n157, n158, n163, n6, n150, n151, n155, n156, n159, b0, b1, b2, b3, b4, b5, b6, b7, b8, b9])
    exact .inl h
  by_cases n0 : c = 163
  · have n3 : ¬ c = 3 := by omega
    have n8 : ¬ c = 8 := by omega
    have n9 : ¬ c = 9 := by omega
    have n10 : ¬ c = 10 := by omega
    have n11 : ¬ c = 11 := by omega
    have n12 : ¬ c = 12 := by omega
    have n13 : ¬ c = 13 := by omega
    have n14 : ¬ c = 14 := by omega
    have n15 : ¬ c = 15 := by omega
    have n16 : ¬ c = 16 := by omega
    have n35 : ¬ c = 35 := by omega
    have n144 : ¬ c = 144 := by omega
    have n147 : ¬ c = 147 := by omega
    have n161 : ¬ c = 161 := by omega
    have n162 : ¬ c = 162 := by omega
    have n17 : ¬ c = 17 := by omega
    have n145 : ¬ c = 145 := by omega
    have n21 : ¬ c = 21 := by omega
    have n148 : ¬ c = 148 := by omega
    have n149 : ¬ c = 149 := by omega
    have n40 : ¬ c = 40 := by omega
    have n47 : ¬ c = 47 := by omega
    have n146 : ¬ c = 146 := by omega
    have n157 : ¬ c = 157 := by omega
    have n158 : ¬ c = 158 := by omega
    have n163 : (c = 163) = True := eq_true n0
    have n6 : ¬ c = 6 := by omega
    have n150 : ¬ c = 150 := by omega
    have n151 : ¬ c = 151 := by omega
    have n155 : ¬ c = 155 := by omega
    have n156 : ¬ c = 156 := by omega
    have n159 : ¬ c = 159 := by omega
    have b0 : c ≥ 8 := by omega
    have b1 : ¬ c ≤ 15 := by omega
    have b2 : c ≥ 112 := by omega
    have b3 : ¬ c ≤ 143 := by omega
    have b4 : c ≥ 18 := by omega
    have b5 : ¬ c ≤ 46 := by omega
    have b6 : c ≥ 48 := by omega
    have b7 : ¬ c ≤ 111 := by omega
    have b8 : ¬ c < 0 := by omega
    have b9 : ¬ c > 163 := by omega
    have hs : shp c = 11 := by rw [n0]; decide
    rw [hs] at h
    ((try first | refine walk_aw env_ok (none) ?_ | refine walk_aw envR_ok (none) ?_); try simp -implicitDefEqProofs (maxSteps := 1000000) only [go_sem, ↓reduceIte, reduceCtorEq, Nat.reduceLT, Nat.reduceEqDiff, Nat.reduceBEq, Nat.reduceAdd, Nat.reduceMul, Nat.reduceSub, Nat.reduceLeDiff, Int.reduceNeg, Int.reduceLT, Int.reduceLE, Int.reduceEq, Int.reduceAdd, Int.reduceToNat, n3, n8, n9, n10, n11, n12, n13, n14, n15, n16, n35, n144, n147, n161, n162, n17, n145, n21, n148, n149, n40, n47, n146, n157, n158, n163, n6, n150, n151, n155, n156, n159, b0, b1, b2, b3, b4, b5, b6, b7, b8, b9])
    exact .inl h
  by_cases n0 : c = 6
  · have n3 : ¬ c = 3 := by omega
    have n8 : ¬ c = 8 := by omega
    have n9 : ¬ c = 9 := by omega
    have n10 : ¬ c = 10 := by omega
    have n11 : ¬ c = 11 := by omega
    have n12 : ¬ c = 12 := by omega
    have n13 : ¬ c = 13 := by omega
    have n14 : ¬ c = 14 := by omega
    have n15 : ¬ c = 15 := by omega
    have n16 : ¬ c = 16 := by omega
    have n35 : ¬ c = 35 := by omega
    have n144 : ¬ c = 144 := by omega
    have n147 : ¬ c = 147 := by omega
    have n161 : ¬ c = 161 := by omega
    have n162 : ¬ c = 162 := by omega
    have n17 : ¬ c = 17 := by omega
    have n145 : ¬ c = 145 := by omega
    have n21 : ¬ c = 21 := by omega
    have n148 : ¬ c = 148 := by omega
    have n149 : ¬ c = 149 := by omega
    have n40 : ¬ c = 40 := by omega
    have n47 : ¬ c = 47 := by omega
    have n146 : ¬ c = 146 := by omega
    have n157 : ¬ c = 157 := by omega
    have n158 : ¬ c = 158 := by omega
    have n163 : ¬ c = 163 := by omega
    have n6 : (c = 6) = True := eq_true n0
    have n150 : ¬ c = 150 := by omega
    have n151 : ¬ c = 151 := by omega
    have n155 : ¬ c = 155 := by omega
    have n156 : ¬ c = 156 := by omega
    have n159 : ¬ c = 159 := by omega
    have b0 : ¬ c ≥ 8 := by omega
    have b1 : c ≤ 15 := by omega
    have b2 : ¬ c ≥ 112 := by omega
    have b3 : c ≤ 143 := by omega
    have b4 : ¬ c ≥ 18 := by omega
    have b5 : c ≤ 46 := by omega
    have b6 : ¬ c ≥ 48 := by omega
    have b7 : c ≤ 111 := by omega
    have b8 : ¬ c < 0 := by omega
    have b9 : ¬ c > 163 := by omega
    have hs : shp c = 1 := by rw [n0]; decide
    rw [hs] at h
    ((try first | refine walk_aw env_ok (none) ?_ | refine walk_aw envR_ok (none) ?_); try simp -implicitDefEqProofs (maxSteps := 1000000) only [go_sem, ↓reduceIte, reduceCtorEq, Nat.reduceLT, Nat.reduceEqDiff, Nat.reduceBEq, Nat.reduceAdd, Nat.reduceMul, Nat.reduceSub, Nat.reduceLeDiff, Int.reduceNeg, Int.reduceLT, Int.reduceLE, Int.reduceEq, Int.reduceAdd, Int.reduceToNat, n3, n8, n9, n10, n11, n12, n13, n14, n15, n16, n35, n144, n147, n161, n162, n17, n145, n21, n148, n149, n40, n47, n146, n157, n158, n163, n6, n150, n151, n155, n156, n159, b0, b1, b2, b3, b4, b5, b6, b7, b8, b9])
    exact .inl h
  by_cases n0 : c = 150
  · have n3 : ¬ c = 3 := by omega
    have n8 : ¬ c = 8 := by omega
    have n9 : ¬ c = 9 := by omega
    have n10 : ¬ c = 10 := by omega
    have n11 : ¬ c = 11 := by omega
    have n12 : ¬ c = 12 := by omega
    have n13 : ¬ c = 13 := by omega
    have n14 : ¬ c = 14 := by omega
    have n15 : ¬ c = 15 := by omega
    have n16 : ¬ c = 16 := by omega
    have n35 : ¬ c = 35 := by omega
    have n144 : ¬ c = 144 := by omega
    have n147 : ¬ c = 147 := by omega
    have n161 : ¬ c = 161 := by omega
    have n162 : ¬ c = 162 := by omega
    have n17 : ¬ c = 17 := by omega
    have n145 : ¬ c = 145 := by omega
    have n21 : ¬ c = 21 := by omega
    have n148 : ¬ c = 148 := by omega
    have n149 : ¬ c = 149 := by omega
    have n40 : ¬ c = 40 := by omega
    have n47 : ¬ c = 47 := by omega
    have n146 : ¬ c = 146 := by omega
    have n157 : ¬ c = 157 := by omega
    have n158 : ¬ c = 158 := by omega
    have n163 : ¬ c = 163 := by omega
    have n6 : ¬ c = 6 := by omega
    have n150 : (c = 150) = True := eq_true n0
    have n151 : ¬ c = 151 := by omega
    have n155 : ¬ c = 155 := by omega
    have n156 : ¬ c = 156 := by omega
    have n159 : ¬ c = 159 := by omega
    have b0 : c ≥ 8 := by omega
    have b1 : ¬ c ≤ 15 := by omega
    have b2 : c ≥ 112 := by omega
    have b3 : ¬ c ≤ 143 := by omega
    have b4 : c ≥ 18 := by omega
    have b5 : ¬ c ≤ 46 := by omega
    have b6 : c ≥ 48 := by omega
    have b7 : ¬ c ≤ 111 := by omega
    have b8 : ¬ c < 0 := by omega
    have b9 : ¬ c > 163 := by omega
    have hs : shp c = 1 := by rw [n0]; decide
    rw [hs] at h
    ((try first | refine walk_aw env_ok (none) ?_ | refine walk_aw envR_ok (none) ?_); try simp -implicitDefEqProofs (maxSteps := 1000000) only [go_sem, ↓reduceIte, reduceCtorEq, Nat.reduceLT, Nat.reduceEqDiff, Nat.reduceBEq, Nat.reduceAdd, Nat.reduceMul, Nat.reduceSub, Nat.reduceLeDiff, Int.reduceNeg, Int.reduceLT, Int.reduceLE, Int.reduceEq, Int.reduceAdd, Int.reduceToNat, n3, n8, n9, n10, n11, n12, n13, n14, n15, n16, n35, n144, n147, n161, n162, n17, n145, n21, n148, n149, n40, n47, n146, n157, n158, n163, n6, n150, n151, n155, n156, n159, b0, b1, b2, b3, b4, b5, b6, b7, b8, b9])
    exact .inl h
  by_cases n0 : c = 151
  · have n3 : ¬ c = 3 := by omega
    have n8 : ¬ c = 8 := by omega
    have n9 : ¬ c = 9 := by omega
    have n10 : ¬ c = 10 := by omega
    have n11 : ¬ c = 11 := by omega
    have n12 : ¬ c = 12 := by omega
    have n13 : ¬ c = 13 := by omega
    have n14 : ¬ c = 14 := by omega
    have n15 : ¬ c = 15 := by omega
    have n16 : ¬ c = 16 := by omega
    have n35 : ¬ c = 35 := by omega
    have n144 : ¬ c = 144 := by omega
    have n147 : ¬ c = 147 := by omega
    have n161 : ¬ c = 161 := by omega
    have n162 : ¬ c = 162 := by omega
    have n17 : ¬ c = 17 := by omega
    have n145 : ¬ c = 145 := by omega
    have n21 : ¬ c = 21 := by omega
    have n148 : ¬ c = 148 := by omega
    have n149 : ¬ c = 149 := by omega
    have n40 : ¬ c = 40 := by omega
    have n47 : ¬ c = 47 := by omega
    have n146 : ¬ c = 146 := by omega
    have n157 : ¬ c = 157 := by omega
    have n158 : ¬ c = 158 := by omega
    have n163 : ¬ c = 163 := by omega
    have n6 : ¬ c = 6 := by omega
    have n150 : ¬ c = 150 := by omega
    have n151 : (c = 151) = True := eq_true n0
    have n155 : ¬ c = 155 := by omega
    have n156 : ¬ c = 156 := by omega
    have n159 : ¬ c = 159 := by omega
    have b0 : c ≥ 8 := by omega
    have b1 : ¬ c ≤ 15 := by omega
    have b2 : c ≥ 112 := by omega
    have b3 : ¬ c ≤ 143 := by omega
    have b4 : c ≥ 18 := by omega
    have b5 : ¬ c ≤ 46 := by omega
    have b6 : c ≥ 48 := by omega
    have b7 : ¬ c ≤ 111 := by omega
    have b8 : ¬ c < 0 := by omega
    have b9 : ¬ c > 163 := by omega
    have hs : shp c = 1 := by rw [n0]; decide
    rw [hs] at h
    ((try first | refine walk_aw env_ok (none) ?_ | refine walk_aw envR_ok (none) ?_); try simp -implicitDefEqProofs (maxSteps := 1000000) only [go_sem, ↓reduceIte, reduceCtorEq, Nat.reduceLT, Nat.reduceEqDiff, Nat.reduceBEq, Nat.reduceAdd, Nat.reduceMul, Nat.reduceSub, Nat.reduceLeDiff, Int.reduceNeg, Int.reduceLT, Int.reduceLE, Int.reduceEq, Int.reduceAdd, Int.reduceToNat, n3, n8, n9, n10, n11, n12, n13, n14, n15, n16, n35, n144, n147, n161, n162, n17, n145, n21, n148, n149, n40, n47, n146, n157, n158, n163, n6, n150, n151, n155, n156, n159, b0, b1, b2, b3, b4, b5, b6, b7, b8, b9])
    exact .inl h
  by_cases n0 : c = 155
  · have n3 : ¬ c = 3 := by omega
    have n8 : ¬ c = 8 := by omega
    have n9 : ¬ c = 9 := by omega
    have n10 : ¬ c = 10 := by omega
    have n11 : ¬ c = 11 := by omega
    have n12 : ¬ c = 12 := by omega
    have n13 : ¬ c = 13 := by omega
    have n14 : ¬ c = 14 := by omega
    have n15 : ¬ c = 15 := by omega
    have n16 : ¬ c = 16 := by omega
    have n35 : ¬ c = 35 := by omega
    have n144 : ¬ c = 144 := by omega
    have n147 : ¬ c = 147 := by omega
    have n161 : ¬ c = 161 := by omega
    have n162 : ¬ c = 162 := by omega
    have n17 : ¬ c = 17 := by omega
    have n145 : ¬ c = 145 := by omega
    have n21 : ¬ c = 21 := by omega
    have n148 : ¬ c = 148 := by omega
    have n149 : ¬ c = 149 := by omega
    have n40 : ¬ c = 40 := by omega
    have n47 : ¬ c = 47 := by omega
    have n146 : ¬ c = 146 := by omega
    have n157 : ¬ c = 157 := by omega
    have n158 : ¬ c = 158 := by omega
    have n163 : ¬ c = 163 := by omega
    have n6 : ¬ c = 6 := by omega
    have n150 : ¬ c = 150 := by omega
    have n151 : ¬ c = 151 := by omega
    have n155 : (c = 155) = True := eq_true n0
    have n156 : ¬ c = 156 := by omega
    have n159 : ¬ c = 159 := by omega
    have b0 : c ≥ 8 := by omega
    have b1 : ¬ c ≤ 15 := by omega
    have b2 : c ≥ 112 := by omega
    have b3 : ¬ c ≤ 143 := by omega
    have b4 : c ≥ 18 := by omega
    have b5 : ¬ c ≤ 46 := by omega
    have b6 : c ≥ 48 := by omega
    have b7 : ¬ c ≤ 111 := by omega
    have b8 : ¬ c < 0 := by omega
    have b9 : ¬ c > 163 := by omega
    have hs : shp c = 1 := by rw [n0]; decide
    rw [hs] at h
    ((try first | refine walk_aw env_ok (none) ?_ | refine walk_aw envR_ok (none) ?_); try simp -implicitDefEqProofs (maxSteps := 1000000) only [go_sem, ↓reduceIte, reduceCtorEq, Nat.reduceLT, Nat.reduceEqDiff, Nat.reduceBEq, Nat.reduceAdd, Nat.reduceMul, Nat.reduceSub, Nat.reduceLeDiff, Int.reduceNeg, Int.reduceLT, Int.reduceLE, Int.reduceEq, Int.reduceAdd, Int.reduceToNat, n3, n8, n9, n10, n11, n12, n13, n14, n15, n16, n35, n144, n147, n161, n162, n17, n145, n21, n148, n149, n40, n47, n146, n157, n158, n163, n6, n150, n151, n155, n156, n159, b0, b1, b2, b3, b4, b5, b6, b7, b8, b9])
    exact .inl h
  by_cases n0 : c = 156
  · have n3 : ¬ c = 3 := by omega
    have n8 : ¬ c = 8 := by omega
    have n9 : ¬ c = 9 := by omega
    have n10 : ¬ c = 10 := by omega
    have n11 : ¬ c = 11 := by omega
    have n12 : ¬ c = 12 := by omega
    have n13 : ¬ c = 13 := by omega
    have n14 : ¬ c = 14 := by omega
    have n15 : ¬ c = 15 := by omega
    have n16 : ¬ c = 16 := by omega
    have n35 : ¬ c = 35 := by omega
    have n144 : ¬ c = 144 := by omega
    have n147 : ¬ c = 147 := by omega
    have n161 : ¬ c = 161 := by omega
    have n162 : ¬ c = 162 := by omega
    have n17 : ¬ c = 17 := by omega
    have n145 : ¬ c = 145 := by omega
    have n21 : ¬ c = 21 := by omega
    have n148 : ¬ c = 148 := by omega
    have n149 : ¬ c = 149 := by omega
    have n40 : ¬ c = 40 := by omega
    have n47 : ¬ c = 47 := by omega
    have n146 : ¬ c = 146 := by omega
    have n157 : ¬ c = 157 := by omega
    have n158 : ¬ c = 158 := by omega
    have n163 : ¬ c = 163 := by omega
    have n6 : ¬ c = 6 := by omega
    have n150 : ¬ c = 150 := by omega
    have n151 : ¬ c = 151 := by omega
    have n155 : ¬ c = 155 := by omega
    have n156 : (c = 156) = True := eq_true n0
    have n159 : ¬ c = 159 := by omega
    have b0 : c ≥ 8 := by omega
    have b1 : ¬ c ≤ 15 := by omega
    have b2 : c ≥ 112 := by omega
    have b3 : ¬ c ≤ 143 := by omega
    have b4 : c ≥ 18 := by omega
    have b5 : ¬ c ≤ 46 := by omega
    have b6 : c ≥ 48 := by omega
    have b7 : ¬ c ≤ 111 := by omega
    have b8 : ¬ c < 0 := by omega
    have b9 : ¬ c > 163 := by omega
    have hs : shp c = 1 := by rw [n0]; decide
    rw [hs] at h
    ((try first | refine walk_aw env_ok (none) ?_ | refine walk_aw envR_ok (none) ?_); try simp -implicitDefEqProofs (maxSteps := 1000000) only [go_sem, ↓reduceIte, reduceCtorEq, Nat.reduceLT, Nat.reduceEqDiff, Nat.reduceBEq, Nat.reduceAdd, Nat.reduceMul, Nat.reduceSub, Nat.reduceLeDiff, Int.reduceNeg, Int.reduceLT, Int.reduceLE, Int.reduceEq, Int.reduceAdd, Int.reduceToNat, n3, n8, n9, n10, n11, n12, n13, n14, n15, n16, n35, n144, n147, n161, n162, n17, n145, n21, n148, n149, n40, n47, n146, n157, n158, n163, n6, n150, n151, n155, n156, n159, b0, b1, b2, b3, b4, b5, b6, b7, b8, b9])
    exact .inl h
  by_cases n0 : c = 159
  · have n3 : ¬ c = 3 := by omega
    have n8 : ¬ c = 8 := by omega
    have n9 : ¬ c = 9 := by omega
    have n10 : ¬ c = 10 := by omega
    have n11 : ¬ c = 11 := by omega
    have n12 : ¬ c = 12 := by omega
    have n13 : ¬ c = 13 := by omega
    have n14 : ¬ c = 14 := by omega
    have n15 : ¬ c = 15 := by omega
    have n16 : ¬ c = 16 := by omega
    have n35 : ¬ c = 35 := by omega
    have n144 : ¬ c = 144 := by omega
    have n147 : ¬ c = 147 := by omega
    have n161 : ¬ c = 161 := by omega
    have n162 : ¬ c = 162 := by omega
    have n17 : ¬ c = 17 := by omega
    have n145 : ¬ c = 145 := by omega
    have n21 : ¬ c = 21 := by omega
    have n148 : ¬ c = 148 := by omega
    have n149 : ¬ c = 149 := by omega
    have n40 : ¬ c = 40 := by omega
    have n47 : ¬ c = 47 := by omega
    have n146 : ¬ c = 146 := by omega
    have n157 : ¬ c = 157 := by omega
    have n158 : ¬ c = 158 := by omega
    have n163 : ¬ c = 163 := by omega
    have n6 : ¬ c = 6 := by omega
    have n150 : ¬ c = 150 := by omega
    have n151 : ¬ c = 151 := by omega
    have n155 : ¬ c = 155 := by omega
    have n156 : ¬ c = 156 := by omega
    have n159 : (c = 159) = True := eq_true n0
    have b0 : c ≥ 8 := by omega
    have b1 : ¬ c ≤ 15 := by omega
    have b2 : c ≥ 112 := by omega
    have b3 : ¬ c ≤ 143 := by omega
    have b4 : c ≥ 18 := by omega
    have b5 : ¬ c ≤ 46 := by omega
    have b6 : c ≥ 48 := by omega
    have b7 : ¬ c ≤ 111 := by omega
    have b8 : ¬ c < 0 := by omega
    have b9 : ¬ c > 163 := by omega
    have hs : shp c = 1 := by rw [n0]; decide
    rw [hs] at h
    ((try first | refine walk_aw env_ok (none) ?_ | refine walk_aw envR_ok (none) ?_); try simp -implicitDefEqProofs (maxSteps := 1000000) only [go_sem, ↓reduceIte, reduceCtorEq, Nat.reduceLT, Nat.reduceEqDiff, Nat.reduceBEq, Nat.reduceAdd, Nat.reduceMul, Nat.reduceSub, Nat.reduceLeDiff, Int.reduceNeg, Int.reduceLT, Int.reduceLE, Int.reduceEq, Int.reduceAdd, Int.reduceToNat, n3, n8, n9, n10, n11, n12, n13, n14, n15, n16, n35, n144, n147, n161, n162, n17, n145, n21, n148, n149, n40, n47, n146, n157, n158, n163, n6, n150, n151, n155, n156, n159, b0, b1, b2, b3, b4, b5, b6, b7, b8, b9])
    exact .inl h
  by_cases n0_32 : c ≤ -1
  · have n3 : ¬ c = 3 := by omega
    have n8 : ¬ c = 8 := by omega
    have n9 : ¬ c = 9 := by omega
    have n10 : ¬ c = 10 := by omega
    have n11 : ¬ c = 11 := by omega
    have n12 : ¬ c = 12 := by omega
    have n13 : ¬ c = 13 := by omega
    have n14 : ¬ c = 14 := by omega
    have n15 : ¬ c = 15 := by omega
    have n16 : ¬ c = 16 := by omega
    have n35 : ¬ c = 35 := by omega
    have n144 : ¬ c = 144 := by omega
    have n147 : ¬ c = 147 := by omega
    have n161 : ¬ c = 161 := by omega
    have n162 : ¬ c = 162 := by omega
    have n17 : ¬ c = 17 := by omega
    have n145 : ¬ c = 145 := by omega
    have n21 : ¬ c = 21 := by omega
    have n148 : ¬ c = 148 := by omega
    have n149 : ¬ c = 149 := by omega
    have n40 : ¬ c = 40 := by omega
    have n47 : ¬ c = 47 := by omega
    have n146 : ¬ c = 146 := by omega
    have n157 : ¬ c = 157 := by omega
    have n158 : ¬ c = 158 := by omega
    have n163 : ¬ c = 163 := by omega
    have n6 : ¬ c = 6 := by omega
    have n150 : ¬ c = 150 := by omega
    have n151 : ¬ c = 151 := by omega
    have n155 : ¬ c = 155 := by omega
    have n156 : ¬ c = 156 := by omega
    have n159 : ¬ c = 159 := by omega
    have b0 : ¬ c ≥ 8 := by omega
    have b1 : c ≤ 15 := by omega
    have b2 : ¬ c ≥ 112 := by omega
    have b3 : c ≤ 143 := by omega
    have b4 : ¬ c ≥ 18 := by omega
    have b5 : c ≤ 46 := by omega
    have b6 : ¬ c ≥ 48 := by omega
    have b7 : c ≤ 111 := by omega
    have b8 : c < 0 := by omega
    have b9 : ¬ c > 163 := by omega
    have hs : shp c = 0 := by
      unfold shp
      repeat (first | (rw [if_neg (by omega)]) | (rw [if_pos (by omega)]))
    rw [hs] at h
    ((try first | refine walk_aw env_ok (none) ?_ | refine walk_aw envR_ok (none) ?_); try simp -implicitDefEqProofs (maxSteps := 1000000) only [go_sem, ↓reduceIte, reduceCtorEq, Nat.reduceLT, Nat.reduceEqDiff, Nat.reduceBEq, Nat.reduceAdd, Nat.reduceMul, Nat.reduceSub, Nat.reduceLeDiff, Int.reduceNeg, Int.reduceLT, Int.reduceLE, Int.reduceEq, Int.reduceAdd, Int.reduceToNat, n3, n8, n9, n10, n11, n12, n13, n14, n15, n16, n35, n144, n147, n161, n162, n17, n145, n21, n148, n149, n40, n47, n146, n157, n158, n163, n6, n150, n151, n155, n156, n159, b0, b1, b2, b3, b4, b5, b6, b7, b8, b9])
    exact .inl h
  by_cases n0_33 : c ≤ 7
  · have n3 : ¬ c = 3 := by omega
    have n8 : ¬ c = 8 := by omega
    have n9 : ¬ c = 9 := by omega
    have n10 : ¬ c = 10 := by omega
    have n11 : ¬ c = 11 := by omega
    have n12 : ¬ c = 12 := by omega
    have n13 : ¬ c = 13 := by omega
    have n14 : ¬ c = 14 := by omega
    have n15 : ¬ c = 15 := by omega
    have n16 : ¬ c = 16 := by omega
    have n35 : ¬ c = 35 := by omega
    have n144 : ¬ c = 144 := by omega
    have n147 : ¬ c = 147 := by omega
    have n161 : ¬ c = 161 := by omega
    have n162 : ¬ c = 162 := by omega
    have n17 : ¬ c = 17 := by omega
    have n145 : ¬ c = 145 := by omega
    have n21 : ¬ c = 21 := by omega
    have n148 : ¬ c = 148 := by omega
    have n149 : ¬ c = 149 := by omega
    have n40 : ¬ c = 40 := by omega
    have n47 : ¬ c = 47 := by omega
    have n146 : ¬ c = 146 := by omega
    have n157 : ¬ c = 157 := by omega
    have n158 : ¬ c = 158 := by omega
    have n163 : ¬ c = 163 := by omega
    have n6 : ¬ c = 6 := by omega
    have n150 : ¬ c = 150 := by omega
    have n151 : ¬ c = 151 := by omega
    have n155 : ¬ c = 155 := by omega
    have n156 : ¬ c = 156 := by omega
    have n159 : ¬ c = 159 := by omega
    have b0 : ¬ c ≥ 8 := by omega
    have b1 : c ≤ 15 := by omega
    have b2 : ¬ c ≥ 112 := by omega
    have b3 : c ≤ 143 := by omega
    have b4 : ¬ c ≥ 18 := by omega
    have b5 : c ≤ 46 := by omega
    have b6 : ¬ c ≥ 48 := by omega
    have b7 : c ≤ 111 := by omega
    have b8 : ¬ c < 0 := by omega
    have b9 : ¬ c > 163 := by omega
    have hs : shp c = 0 := by
      unfold shp
      repeat (first | (rw [if_neg (by omega)]) | (rw [if_pos (by omega)]))
    rw [hs] at h
    ((try first | refine walk_aw env_ok (none) ?_ | refine walk_aw envR_ok (none) ?_); try simp -implicitDefEqProofs (maxSteps := 1000000) only [go_sem, ↓reduceIte, reduceCtorEq, Nat.reduceLT, Nat.reduceEqDiff, Nat.reduceBEq, Nat.reduceAdd, Nat.reduceMul, Nat.reduceSub, Nat.reduceLeDiff, Int.reduceNeg, Int.reduceLT, Int.reduceLE, Int.reduceEq, Int.reduceAdd, Int.reduceToNat, n3, n8, n9, n10, n11, n12, n13, n14, n15, n16, n35, n144, n147, n161, n162, n17, n145, n21, n148, n149, n40, n47, n146, n157, n158, n163, n6, n150, n151, n155, n156, n159, b0, b1, b2, b3, b4, b5, b6, b7, b8, b9])
    exact .inl h
  by_cases n0_34 : c ≤ 46
  · have n3 : ¬ c = 3 := by omega
    have n8 : ¬ c = 8 := by omega
    have n9 : ¬ c = 9 := by omega
    have n10 : ¬ c = 10 := by omega
    have n11 : ¬ c = 11 := by omega
    have n12 : ¬ c = 12 := by omega
    have n13 : ¬ c = 13 := by omega
    have n14 : ¬ c = 14 := by omega
    have n15 : ¬ c = 15 := by omega
    have n16 : ¬ c = 16 := by omega
    have n35 : ¬ c = 35 := by omega
    have n144 : ¬ c = 144 := by omega
    have n147 : ¬ c = 147 := by omega
    have n161 : ¬ c = 161 := by omega
    have n162 : ¬ c = 162 := by omega
    have n17 : ¬ c = 17 := by omega
    have n145 : ¬ c = 145 := by omega
    have n21 : ¬ c = 21 := by omega
    have n148 : ¬ c = 148 := by omega
    have n149 : ¬ c = 149 := by omega
    have n40 : ¬ c = 40 := by omega
    have n47 : ¬ c = 47 := by omega
    have n146 : ¬ c = 146 := by omega
    have n157 : ¬ c = 157 := by omega
    have n158 : ¬ c = 158 := by omega
    have n163 : ¬ c = 163 := by omega
    have n6 : ¬ c = 6 := by omega
    have n150 : ¬ c = 150 := by omega
    have n151 : ¬ c = 151 := by omega
    have n155 : ¬ c = 155 := by omega
    have n156 : ¬ c = 156 := by omega
    have n159 : ¬ c = 159 := by omega
    have b0 : c ≥ 8 := by omega
    have b1 : ¬ c ≤ 15 := by omega
    have b2 : ¬ c ≥ 112 := by omega
    have b3 : c ≤ 143 := by omega
    have b4 : c ≥ 18 := by omega
    have b5 : c ≤ 46 := by omega
    have b6 : ¬ c ≥ 48 := by omega
    have b7 : c ≤ 111 := by omega
    have b8 : ¬ c < 0 := by omega
    have b9 : ¬ c > 163 := by omega
    have hs : shp c = 1 := by
      unfold shp
      repeat (first | (rw [if_neg (by omega)]) | (rw [if_pos (by omega)]))
    rw [hs] at h
    ((try first | refine walk_aw env_ok (none) ?_ | refine walk_aw envR_ok (none) ?_); try simp -implicitDefEqProofs (maxSteps := 1000000) only [go_sem, ↓reduceIte, reduceCtorEq, Nat.reduceLT, Nat.reduceEqDiff, Nat.reduceBEq, Nat.reduceAdd, Nat.reduceMul, Nat.reduceSub, Nat.reduceLeDiff, Int.reduceNeg, Int.reduceLT, Int.reduceLE, Int.reduceEq, Int.reduceAdd, Int.reduceToNat, n3, n8, n9, n10, n11, n12, n13, n14, n15, n16, n35, n144, n147, n161, n162, n17, n145, n21, n148, n149, n40, n47, n146, n157, n158, n163, n6, n150, n151, n155, n156, n159, b0, b1, b2, b3, b4, b5, b6, b7, b8, b9])
    exact .inl h
  by_cases n0_35 : c ≤ 111
  · have n3 : ¬ c = 3 := by omega
    have n8 : ¬ c = 8 := by omega
    have n9 : ¬ c = 9 := by omega
    have n10 : ¬ c = 10 := by omega
    have n11 : ¬ c = 11 := by omega
    have n12 : ¬ c = 12 := by omega
    have n13 : ¬ c = 13 := by omega
    have n14 : ¬ c = 14 := by omega
    have n15 : ¬ c = 15 := by omega
    have n16 : ¬ c = 16 := by omega
    have n35 : ¬ c = 35 := by omega
    have n144 : ¬ c = 144 := by omega
    have n147 : ¬ c = 147 := by omega
    have n161 : ¬ c = 161 := by omega
    have n162 : ¬ c = 162 := by omega
    have n17 : ¬ c = 17 := by omega
    have n145 : ¬ c = 145 := by omega
    have n21 : ¬ c = 21 := by omega
    have n148 : ¬ c = 148 := by omega
    have n149 : ¬ c = 149 := by omega
    have n40 : ¬ c = 40 := by omega
    have n47 : ¬ c = 47 := by omega
    have n146 : ¬ c = 146 := by omega
    have n157 : ¬ c = 157 := by omega
    have n158 : ¬ c = 158 := by omega
    have n163 : ¬ c = 163 := by omega
    have n6 : ¬ c = 6 := by omega
    have n150 : ¬ c = 150 := by omega
    have n151 : ¬ c = 151 := by omega
    have n155 : ¬ c = 155 := by omega
    have n156 : ¬ c = 156 := by omega
    have n159 : ¬ c = 159 := by omega
    have b0 : c ≥ 8 := by omega
    have b1 : ¬ c ≤ 15 := by omega
    have b2 : ¬ c ≥ 112 := by omega
    have b3 : c ≤ 143 := by omega
    have b4 : c ≥ 18 := by omega
    have b5 : ¬ c ≤ 46 := by omega
    have b6 : c ≥ 48 := by omega
    have b7 : c ≤ 111 := by omega
    have b8 : ¬ c < 0 := by omega
    have b9 : ¬ c > 163 := by omega
    have hs : shp c = 1 := by
      unfold shp
      repeat (first | (rw [if_neg (by omega)]) | (rw [if_pos (by omega)]))
    rw [hs] at h
    ((try first | refine walk_aw env_ok (none) ?_ | refine walk_aw envR_ok (none) ?_); try simp -implicitDefEqProofs (maxSteps := 1000000) only [go_sem, ↓reduceIte, reduceCtorEq, Nat.reduceLT, Nat.reduceEqDiff, Nat.reduceBEq, Nat.reduceAdd, Nat.reduceMul, Nat.reduceSub, Nat.reduceLeDiff, Int.reduceNeg, Int.reduceLT, Int.reduceLE, Int.reduceEq, Int.reduceAdd, Int.reduceToNat, n3, n8, n9, n10, n11, n12, n13, n14, n15, n16, n35, n144, n147, n161, n162, n17, n145, n21, n148, n149, n40, n47, n146, n157, n158, n163, n6, n150, n151, n155, n156, n159, b0, b1, b2, b3, b4, b5, b6, b7, b8, b9])
    exact .inl h
  by_cases n0_36 : c ≤ 143
  · have n3 : ¬ c = 3 := by omega
    have n8 : ¬ c = 8 := by omega
    have n9 : ¬ c = 9 := by omega
    have n10 : ¬ c = 10 := by omega
    have n11 : ¬ c = 11 := by omega
    have n12 : ¬ c = 12 := by omega
    have n13 : ¬ c = 13 := by omega
    have n14 : ¬ c = 14 := by omega
    have n15 : ¬ c = 15 := by omega
    have n16 : ¬ c = 16 := by omega
    have n35 : ¬ c = 35 := by omega
    have n144 : ¬ c = 144 := by omega
    have n147 : ¬ c = 147 := by omega
    have n161 : ¬ c = 161 := by omega
    have n162 : ¬ c = 162 := by omega
    have n17 : ¬ c = 17 := by omega
    have n145 : ¬ c = 145 := by omega
    have n21 : ¬ c = 21 := by omega
    have n148 : ¬ c = 148 := by omega
    have n149 : ¬ c = 149 := by omega
    have n40 : ¬ c = 40 := by omega
    have n47 : ¬ c = 47 := by omega
    have n146 : ¬ c = 146 := by omega
    have n157 : ¬ c = 157 := by omega
    have n158 : ¬ c = 158 := by omega
    have n163 : ¬ c = 163 := by omega
    have n6 : ¬ c = 6 := by omega
    have n150 : ¬ c = 150 := by omega
    have n151 : ¬ c = 151 := by omega
    have n155 : ¬ c = 155 := by omega
    have n156 : ¬ c = 156 := by omega
    have n159 : ¬ c = 159 := by omega
    have b0 : c ≥ 8 := by omega
    have b1 : ¬ c ≤ 15 := by omega
    have b2 : c ≥ 112 := by omega
    have b3 : c ≤ 143 := by omega
    have b4 : c ≥ 18 := by omega
    have b5 : ¬ c ≤ 46 := by omega
    have b6 : c ≥ 48 := by omega
    have b7 : ¬ c ≤ 111 := by omega
    have b8 : ¬ c < 0 := by omega
    have b9 : ¬ c > 163 := by omega
    have hs : shp c = 6 := by
      unfold shp
      repeat (first | (rw [if_neg (by omega)]) | (rw [if_pos (by omega)]))
    rw [hs] at h
    ((try first | refine walk_aw env_ok (none) ?_ | refine walk_aw envR_ok (none) ?_); try simp -implicitDefEqProofs (maxSteps := 1000000) only [go_sem, ↓reduceIte, reduceCtorEq, Nat.reduceLT, Nat.reduceEqDiff, Nat.reduceBEq, Nat.reduceAdd, Nat.reduceMul, Nat.reduceSub, Nat.reduceLeDiff, Int.reduceNeg, Int.reduceLT, Int.reduceLE, Int.reduceEq, Int.reduceAdd, Int.reduceToNat, n3, n8, n9, n10, n11, n12, n13, n14, n15, n16, n35, n144, n147, n161, n162, n17, n145, n21, n148, n149, n40, n47, n146, n157, n158, n163, n6, n150, n151, n155, n156, n159, b0, b1, b2, b3, b4, b5, b6, b7, b8, b9])
    exact .inl h
  by_cases n0_37 : c ≤ 163
  · have n3 : ¬ c = 3 := by omega
    have n8 : ¬ c = 8 := by omega
    have n9 : ¬ c = 9 := by omega
    have n10 : ¬ c = 10 := by omega
    have n11 : ¬ c = 11 := by omega
    have n12 : ¬ c = 12 := by omega
    have n13 : ¬ c = 13 := by omega
    have n14 : ¬ c = 14 := by omega
    have n15 : ¬ c = 15 := by omega
    have n16 : ¬ c = 16 := by omega
    have n35 : ¬ c = 35 := by omega
    have n144 : ¬ c = 144 := by omega
    have n147 : ¬ c = 147 := by omega
    have n161 : ¬ c = 161 := by omega
    have n162 : ¬ c = 162 := by omega
    have n17 : ¬ c = 17 := by omega
    have n145 : ¬ c = 145 := by omega
    have n21 : ¬ c = 21 := by omega
    have n148 : ¬ c = 148 := by omega
    have n149 : ¬ c = 149 := by omega
    have n40 : ¬ c = 40 := by omega
    have n47 : ¬ c = 47 := by omega
    have n146 : ¬ c = 146 := by omega
    have n157 : ¬ c = 157 := by omega
    have n158 : ¬ c = 158 := by omega
    have n163 : ¬ c = 163 := by omega
    have n6 : ¬ c = 6 := by omega
    have n150 : ¬ c = 150 := by omega
    have n151 : ¬ c = 151 := by omega
    have n155 : ¬ c = 155 := by omega
    have n156 : ¬ c = 156 := by omega
    have n159 : ¬ c = 159 := by omega
    have b0 : c ≥ 8 := by omega
    have b1 : ¬ c ≤ 15 := by omega
    have b2 : c ≥ 112 := by omega
    have b3 : ¬ c ≤ 143 := by omega
    have b4 : c ≥ 18 := by omega
    have b5 : ¬ c ≤ 46 := by omega
    have b6 : c ≥ 48 := by omega
    have b7 : ¬ c ≤ 111 := by omega
    have b8 : ¬ c < 0 := by omega
    have b9 : ¬ c > 163 := by omega
    have hs : shp c = 0 := by
      unfold shp
      repeat (first | (rw [if_neg (by omega)]) | (rw [if_pos (by omega)]))
    rw [hs] at h
    ((try first | refine walk_aw env_ok (none) ?_ | refine walk_aw envR_ok (none) ?_); try simp -implicitDefEqProofs (maxSteps := 1000000) only [go_sem, ↓reduceIte, reduceCtorEq, Nat.reduceLT, Nat.reduceEqDiff, Nat.reduceBEq, Nat.reduceAdd, Nat.reduceMul, Nat.reduceSub, Nat.reduceLeDiff, Int.reduceNeg, Int.reduceLT, Int.reduceLE, Int.reduceEq, Int.reduceAdd, Int.reduceToNat, n3, n8, n9, n10, n11, n12, n13, n14, n15, n16, n35, n144, n147, n161, n162, n17, n145, n21, n148, n149, n40, n47, n146, n157, n158, n163, n6, n150, n151, n155, n156, n159, b0, b1, b2, b3, b4, b5, b6, b7, b8, b9])
    exact .inl h
  have n3 : ¬ c = 3 := by omega
  have n8 : ¬ c = 8 := by omega
  have n9 : ¬ c = 9 := by omega
  have n10 : ¬ c = 10 := by omega
  have n11 : ¬ c = 11 := by omega
  have n12 : ¬ c = 12 := by omega
  have n13 : ¬ c = 13 := by omega
  have n14 : ¬ c = 14 := by omega
  have n15 : ¬ c = 15 := by omega
  have n16 : ¬ c = 16 := by omega
  have n35 : ¬ c = 35 := by omega
  have n144 : ¬ c = 144 := by omega
  have n147 : ¬ c = 147 := by omega
  have n161 : ¬ c = 161 := by omega
  have n162 : ¬ c = 162 := by omega
  have n17 : ¬ c = 17 := by omega
  have n145 : ¬ c = 145 := by omega
  have n21 : ¬ c = 21 := by omega
  have n148 : ¬ c = 148 := by omega
  have n149 : ¬ c = 149 := by omega
  have n40 : ¬ c = 40 := by omega
  have n47 : ¬ c = 47 := by omega
  have n146 : ¬ c = 146 := by omega
  have n157 : ¬ c = 157 := by omega
  have n158 : ¬ c = 158 := by omega
  have n163 : ¬ c = 163 := by omega
  have n6 : ¬ c = 6 := by omega
  have n150 : ¬ c = 150 := by omega
  have n151 : ¬ c = 151 := by omega
  have n155 : ¬ c = 155 := by omega
  have n156 : ¬ c = 156 := by omega
  have n159 : ¬ c = 159 := by omega
  have b0 : c ≥ 8 := by omega
  have b1 : ¬ c ≤ 15 := by omega
  have b2 : c ≥ 112 := by omega
  have b3 : ¬ c ≤ 143 := by omega
  have b4 : c ≥ 18 := by omega
  have b5 : ¬ c ≤ 46 := by omega
  have b6 : c ≥ 48 := by omega
  have b7 : ¬ c ≤ 111 := by omega
  have b8 : ¬ c < 0 := by omega
  have b9 : c > 163 := by omega
  have hs : shp c = 0 := by
    unfold shp
    repeat (first | (rw [if_neg (by omega)]) | (rw [if_pos (by omega)]))
  rw [hs] at h
  ((try first | refine walk_aw env_ok (none) ?_ | refine walk_aw envR_ok (none) ?_); try simp -implicitDefEqProofs (maxSteps := 1000000) only [go_sem, ↓reduceIte, reduceCtorEq, Nat.reduceLT, Nat.reduceEqDiff, Nat.reduceBEq, Nat.reduceAdd, Nat.reduceMul, Nat.reduceSub, Nat.reduceLeDiff, Int.reduceNeg, Int.reduceLT, Int.reduceLE, Int.reduceEq, Int.reduceAdd, Int.reduceToNat, n3, n8, n9, n10, n11, n12, n13, n14, n15, n16, n35, n144, n147, n161, n162, n17, n145, n21, n148, n149, n40, n47, n146, n157, n158, n163, n6, n150, n151, n155, n156, n159, b0, b1, b2, b3, b4, b5, b6, b7, b8, b9])
  exact .inl h
end
end Go.Ab
end

section
/- Package ops: sizes, and numbers with their sign. -/
namespace Go.Ab
open V Go.Proofs
set_option maxHeartbeats 4000000
set_option maxRecDepth 10000
set_option linter.unusedSimpArgs false
set_option linter.unusedVariables false

/-- How many bytes a plain number has. -/
def szo (c : Int) : Nat := if c ≤ 9 then 1 else if c ≤ 11 then 2 else if c ≤ 13 then 4 else 8
theorem szo_or (c : Int) : szo c = 1 ∨ szo c = 2 ∨ szo c = 4 ∨ szo c = 8 := by
  unfold szo
  split
  · exact .inl rfl
  · split
    · exact .inr (.inl rfl)
    · split
      · exact .inr (.inr (.inl rfl))
      · exact .inr (.inr (.inr rfl))
/-- A number of k bytes, with its sign. -/
def ext (n k : Nat) : Nat := n % 256 ^ k + (if n % 256 ^ k ≥ 2 ^ (8 * k - 1) then 2 ^ 64 - 256 ^ k else 0)
theorem ext_lt {n k : Nat} (hk : k = 1 ∨ k = 2 ∨ k = 4 ∨ k = 8) : ext n k < 18446744073709551616 := by
  unfold ext
  rcases hk with rfl | rfl | rfl | rfl <;> simp only [Nat.reducePow, Nat.reduceMul, Nat.reduceSub] <;> split <;> omega

section
variable {H : Heap} {Q : A → Heap → Prop}
theorem osize_spec {c : Int} (hc : 8 ≤ c ∧ c ≤ 15) (h : Q (.int .i64 (szo c : Nat)) H) : AC Try.prog 85 [.int .i64 c] H Q := by
  have : c = 8 ∨ c = 9 ∨ c = 10 ∨ c = 11 ∨ c = 12 ∨ c = 13 ∨ c = 14 ∨ c = 15 := by omega
  refine AC.enter (E := env Try.prog 8 (fun _ => .copy) (fun _ => false)) env_ok Try.func85 rfl rfl rfl (by simp only [List.length_cons, List.length_nil]; exact of_decide_eq_true rfl) ?_
  rcases this with rfl | rfl | rfl | rfl | rfl | rfl | rfl | rfl <;> (((try first | refine walk_aw env_ok (none) ?_ | refine walk_aw envR_ok (none) ?_); try simp -implicitDefEqProofs (maxSteps := 1000000) only [go_sem, ↓reduceIte, reduceCtorEq, Nat.reduceLT, Nat.reduceEqDiff, Nat.reduceBEq, Nat.reduceAdd, Nat.reduceMul, Nat.reduceSub, Nat.reduceLeDiff, Int.reduceNeg, Int.reduceLT, Int.reduceLE, Int.reduceEq, Int.reduceAdd, Int.reduceToNat]); exact .inl h)
theorem orsize_spec {c : Int} (hc : 8 ≤ c ∧ c ≤ 15) (h : Q (.int .i64 (szo c : Nat)) H) : AC Try.prog 91 [.int .i64 c] H Q := by
  have : c = 8 ∨ c = 9 ∨ c = 10 ∨ c = 11 ∨ c = 12 ∨ c = 13 ∨ c = 14 ∨ c = 15 := by omega
  refine AC.enter (E := env Try.prog 10 (fun _ => .copy) (fun _ => false)) env_ok Try.func91 rfl rfl rfl (by simp only [List.length_cons, List.length_nil]; exact of_decide_eq_true rfl) ?_
  rcases this with rfl | rfl | rfl | rfl | rfl | rfl | rfl | rfl <;> (((try first | refine walk_aw env_ok (none) ?_ | refine walk_aw envR_ok (none) ?_); try simp -implicitDefEqProofs (maxSteps := 1000000) only [go_sem, ↓reduceIte, reduceCtorEq, Nat.reduceLT, Nat.reduceEqDiff, Nat.reduceBEq, Nat.reduceAdd, Nat.reduceMul, Nat.reduceSub, Nat.reduceLeDiff, Int.reduceNeg, Int.reduceLT, Int.reduceLE, Int.reduceEq, Int.reduceAdd, Int.reduceToNat]); exact .inl h)
theorem wu64 (z : Int) : IntKind.u64.wrap z = z % 18446744073709551616 := by simp [IntKind.wrap, IntKind.signed, IntKind.bits]
theorem wi64 (z : Int) : IntKind.i64.wrap z = (z + 9223372036854775808) % 18446744073709551616 - 9223372036854775808 := by
  simp [IntKind.wrap, IntKind.signed, IntKind.bits]
  try omega
theorem extended_spec {n k : Nat} (hn : n < 18446744073709551616) (hk : k = 1 ∨ k = 2 ∨ k = 4 ∨ k = 8) (h : Q (.int .u64 (ext n k : Nat)) H) : AC Try.prog 78 [.int .u64 n, .int .i64 k] H Q := by
  have w1 : IntKind.i64.wrap (8 * (k : Int)) = 8 * k := by simp [IntKind.wrap, IntKind.signed, IntKind.bits]; omega
  have w2 : IntKind.i64.wrap (64 - 8 * (k : Int)) = 64 - 8 * k := by simp [IntKind.wrap, IntKind.signed, IntKind.bits]; omega
  have w3 : IntKind.u64.wrap (64 - 8 * (k : Int)) = 64 - 8 * k := by simp [IntKind.wrap, IntKind.signed, IntKind.bits]; omega
  have n0 : ¬ (64 - 8 * (k : Int)) < 0 := by omega
  have hv : IntKind.u64.wrap ((IntKind.i64.wrap (IntKind.u64.wrap ((n : Int) * 2 ^ min (64 - 8 * (k : Int)).toNat 64))).fdiv (2 ^ min (64 - 8 * (k : Int)).toNat 64)) = (ext n k : Nat) := by
    rw [wu64, wi64, wu64]
    rcases hk with rfl | rfl | rfl | rfl
    · rw [show min (64 - 8 * ((1 : Nat) : Int)).toNat 64 = 56 from rfl, Int.fdiv_eq_ediv_of_nonneg _ (by decide)]
      have e1 : (n : Int) * 2 ^ 56 % 18446744073709551616 = ((n % 256 : Nat) : Int) * 72057594037927936 := by simp only [Int.reducePow]; omega
      have lm : n % 256 < 256 := Nat.mod_lt _ (by decide)
      rw [e1]
      simp only [ext, Int.reducePow, Nat.reducePow, Nat.reduceMul, Nat.reduceSub]
      generalize n % 256 = m at lm
      split <;> omega
    · rw [show min (64 - 8 * ((2 : Nat) : Int)).toNat 64 = 48 from rfl, Int.fdiv_eq_ediv_of_nonneg _ (by decide)]
      have e1 : (n : Int) * 2 ^ 48 % 18446744073709551616 = ((n % 65536 : Nat) : Int) * 281474976710656 := by simp only [Int.reducePow]; omega
      have lm : n % 65536 < 65536 := Nat.mod_lt _ (by decide)
      rw [e1]
      simp only [ext, Int.reducePow, Nat.reducePow, Nat.reduceMul, Nat.reduceSub]
      generalize n % 65536 = m at lm
      split <;> omega
    · rw [show min (64 - 8 * ((4 : Nat) : Int)).toNat 64 = 32 from rfl, Int.fdiv_eq_ediv_of_nonneg _ (by decide)]
      have e1 : (n : Int) * 2 ^ 32 % 18446744073709551616 = ((n % 4294967296 : Nat) : Int) * 4294967296 := by simp only [Int.reducePow]; omega
      have lm : n % 4294967296 < 4294967296 := Nat.mod_lt _ (by decide)
      rw [e1]
      simp only [ext, Int.reducePow, Nat.reducePow, Nat.reduceMul, Nat.reduceSub]
      generalize n % 4294967296 = m at lm
      split <;> omega
    · rw [show min (64 - 8 * ((8 : Nat) : Int)).toNat 64 = 0 from rfl, Int.fdiv_eq_ediv_of_nonneg _ (by decide)]
      have e1 : (n : Int) * 2 ^ 0 % 18446744073709551616 = ((n % 18446744073709551616 : Nat) : Int) * 1 := by simp only [Int.reducePow]; omega
      have lm : n % 18446744073709551616 < 18446744073709551616 := Nat.mod_lt _ (by decide)
      rw [e1]
      simp only [ext, Int.reducePow, Nat.reducePow, Nat.reduceMul, Nat.reduceSub]
      generalize n % 18446744073709551616 = m at lm
      split <;> omega
  refine AC.enter (E := env Try.prog 17 (fun _ => .copy) (fun _ => false)) env_ok Try.func78 rfl rfl rfl (by simp only [List.length_cons, List.length_nil]; exact of_decide_eq_true rfl) ?_
  ((try first | refine walk_aw env_ok (none) ?_ | refine walk_aw envR_ok (none) ?_); try simp -implicitDefEqProofs (maxSteps := 1000000) only [go_sem, ↓reduceIte, reduceCtorEq, Nat.reduceLT, Nat.reduceEqDiff, Nat.reduceBEq, Nat.reduceAdd, Nat.reduceMul, Nat.reduceSub, Nat.reduceLeDiff, Int.reduceNeg, Int.reduceLT, Int.reduceLE, Int.reduceEq, Int.reduceAdd, Int.reduceToNat, w1, w2, w3, n0, hv])
  exact .inl h
theorem sign_spec {n k : Nat} (hk : k = 1 ∨ k = 2 ∨ k = 4 ∨ k = 8) (hn : n < 256 ^ k) (h : Q (.int .u64 (ext n k : Nat)) H) : AC Try.prog 92 [.int .u64 n, .int .i64 k] H Q := by
  have w1 : IntKind.i64.wrap (8 * (k : Int)) = 8 * k := by simp [IntKind.wrap, IntKind.signed, IntKind.bits]; omega
  have w2 : IntKind.i64.wrap (8 * (k : Int) - 1) = 8 * k - 1 := by simp [IntKind.wrap, IntKind.signed, IntKind.bits]; omega
  have w3 : IntKind.u64.wrap (8 * (k : Int) - 1) = 8 * k - 1 := by simp [IntKind.wrap, IntKind.signed, IntKind.bits]; omega
  have w4 : IntKind.u64.wrap (8 * (k : Int)) = 8 * k := by simp [IntKind.wrap, IntKind.signed, IntKind.bits]; omega
  have n0 : ¬ (8 * (k : Int) - 1) < 0 := by omega
  have n1 : ¬ (8 * (k : Int)) < 0 := by omega
  have hp : k ≠ 8 → IntKind.u64.wrap (1 * 2 ^ min (8 * (k : Int) - 1).toNat 64) = (2 ^ (8 * k - 1) : Nat) := by
    intro h8
    rcases hk with rfl | rfl | rfl | rfl
    · rfl
    · rfl
    · rfl
    · exact absurd rfl h8
  have hq : k ≠ 8 → IntKind.u64.wrap (1 * 2 ^ min (8 * (k : Int)).toNat 64) = (256 ^ k : Nat) := by
    intro h8
    rcases hk with rfl | rfl | rfl | rfl
    · rfl
    · rfl
    · rfl
    · exact absurd rfl h8
  refine AC.enter (E := env Try.prog 23 (fun _ => .copy) (fun _ => false)) env_ok Try.func92 rfl rfl rfl (by simp only [List.length_cons, List.length_nil]; exact of_decide_eq_true rfl) ?_
  by_cases c : (k : Int) < 8
  · have hp := hp (by omega)
    have hq := hq (by omega)
    by_cases d : (n : Int) ≥ (2 ^ (8 * k - 1) : Nat)
    · have he : IntKind.u64.wrap ((n : Int) - (256 ^ k : Nat)) = (ext n k : Nat) := by
        rcases hk with rfl | rfl | rfl | rfl <;> simp only [IntKind.wrap, IntKind.signed, IntKind.bits, ext, Nat.reducePow, Nat.reduceMul, Nat.reduceSub] at * <;> simp at * <;> (try split) <;> omega
      ((try first | refine walk_aw env_ok (none) ?_ | refine walk_aw envR_ok (none) ?_); try simp -implicitDefEqProofs (maxSteps := 1000000) only [go_sem, ↓reduceIte, reduceCtorEq, Nat.reduceLT, Nat.reduceEqDiff, Nat.reduceBEq, Nat.reduceAdd, Nat.reduceMul, Nat.reduceSub, Nat.reduceLeDiff, Int.reduceNeg, Int.reduceLT, Int.reduceLE, Int.reduceEq, Int.reduceAdd, Int.reduceToNat, c, w1, w2, w3, w4, n0, n1, hp, hq, d, he])
      exact .inl h
    · have he : ext n k = n := by
        rcases hk with rfl | rfl | rfl | rfl <;> simp only [ext, Nat.reducePow, Nat.reduceMul, Nat.reduceSub] at * <;> (try split) <;> omega
      rw [he] at h
      ((try first | refine walk_aw env_ok (none) ?_ | refine walk_aw envR_ok (none) ?_); try simp -implicitDefEqProofs (maxSteps := 1000000) only [go_sem, ↓reduceIte, reduceCtorEq, Nat.reduceLT, Nat.reduceEqDiff, Nat.reduceBEq, Nat.reduceAdd, Nat.reduceMul, Nat.reduceSub, Nat.reduceLeDiff, Int.reduceNeg, Int.reduceLT, Int.reduceLE, Int.reduceEq, Int.reduceAdd, Int.reduceToNat, c, w1, w2, w3, w4, n0, n1, hp, hq, d])
      exact .inl h
  · have hk8 : k = 8 := by omega
    have he : ext n k = n := by
      subst hk8; simp only [ext, Nat.reducePow, Nat.reduceMul, Nat.reduceSub] at *; split <;> omega
    rw [he] at h
    ((try first | refine walk_aw env_ok (none) ?_ | refine walk_aw envR_ok (none) ?_); try simp -implicitDefEqProofs (maxSteps := 1000000) only [go_sem, ↓reduceIte, reduceCtorEq, Nat.reduceLT, Nat.reduceEqDiff, Nat.reduceBEq, Nat.reduceAdd, Nat.reduceMul, Nat.reduceSub, Nat.reduceLeDiff, Int.reduceNeg, Int.reduceLT, Int.reduceLE, Int.reduceEq, Int.reduceAdd, Int.reduceToNat, c, w1, w2, w3, w4, n0, n1])
    exact .inl h
end
end Go.Ab
end

section
/- Objects at the heap's end, any number. -/
namespace Go.Ab
open V Go.Proofs
set_option linter.unusedVariables false

section
variable (H : Heap) (Z M : List (Ob Unit)) (x y : Ob Unit) (i p q : Nat)
theorem app_get0 : (H ++ Z)[H.length]? = Z[0]? := by rw [List.getElem?_append_right (Nat.le_refl _), Nat.sub_self]
theorem app_get : (H ++ Z)[H.length + i]? = Z[i]? := by rw [List.getElem?_append_right (by omega), Nat.add_sub_cancel_left]
theorem app_set0 : (H ++ Z).set H.length x = H ++ Z.set 0 x := by rw [List.set_append_right _ _ (Nat.le_refl _), Nat.sub_self]
theorem app_set : (H ++ Z).set (H.length + i) x = H ++ Z.set i x := by rw [List.set_append_right _ _ (by omega), Nat.add_sub_cancel_left]
theorem app_take : (H ++ Z).take H.length = H := by simp
theorem app_app : H ++ Z ++ M = H ++ (Z ++ M) := List.append_assoc ..
theorem app_len : (H ++ Z).length = H.length + Z.length := List.length_append
theorem sap_get0 : (H.set p y ++ Z)[H.length]? = Z[0]? := by have := app_get0 (H.set p y) Z; rwa [List.length_set] at this
theorem sap_get : (H.set p y ++ Z)[H.length + i]? = Z[i]? := by have := app_get (H.set p y) Z i; rwa [List.length_set] at this
theorem sap_set0 : (H.set p y ++ Z).set H.length x = H.set p y ++ Z.set 0 x := by have := app_set0 (H.set p y) Z x; rwa [List.length_set] at this
theorem sap_set : (H.set p y ++ Z).set (H.length + i) x = H.set p y ++ Z.set i x := by have := app_set (H.set p y) Z x i; rwa [List.length_set] at this
theorem sap_take : (H.set p y ++ Z).take H.length = H.set p y := by have := app_take (H.set p y) Z; rwa [List.length_set] at this
theorem add_lt1 : (H.length < H.length + 1) = True := by simp
end
theorem in_get {H : Heap} {p : Nat} {x : Ob Unit} (Z : List (Ob Unit)) (h : H[p]? = some x) : (H ++ Z)[p]? = some x := by
  rw [List.getElem?_append_left (List.getElem?_eq_some_iff.1 h).1]; exact h
theorem in_set {H : Heap} {p : Nat} {x : Ob Unit} (Z : List (Ob Unit)) (y : Ob Unit) (h : H[p]? = some x) : (H ++ Z).set p y = H.set p y ++ Z :=
  List.set_append_left _ _ (List.getElem?_eq_some_iff.1 h).1
theorem sin_get {H : Heap} {p : Nat} {x : Ob Unit} (Z : List (Ob Unit)) (y : Ob Unit) (h : H[p]? = some x) : (H.set p y ++ Z)[p]? = some y := by
  have hl := (List.getElem?_eq_some_iff.1 h).1
  rw [List.getElem?_append_left (by rw [List.length_set]; exact hl)]; simp [hl]
theorem sin_set {H : Heap} {p : Nat} {x : Ob Unit} (Z : List (Ob Unit)) (y z : Ob Unit) (h : H[p]? = some x) : (H.set p y ++ Z).set p z = H.set p z ++ Z := by
  have hl := (List.getElem?_eq_some_iff.1 h).1
  rw [List.set_append_left _ _ (by rw [List.length_set]; exact hl), List.set_set]
attribute [go_sem] app_get0 app_get app_set0 app_set app_take app_app app_len sap_get0 sap_get sap_set0 sap_set sap_take
theorem uni_i2 (k : IntKind) (n : Int) : Uni 1 ([.int k n] : List A) = true := rfl
attribute [go_sem] uni_i2 List.length_set
end Go.Ab
end

section
/- Operations: which numbers may be. -/
namespace Go.Ab
open V Go.Proofs
set_option maxHeartbeats 8000000
set_option maxRecDepth 10000
set_option linter.unusedSimpArgs false
set_option linter.unusedVariables false

structure OV where
  code : Int
  a : Nat
  b : Nat
  d : List UInt8
  deriving DecidableEq
def OV.cells (x : OV) : List A := [.int .i64 x.code, .int .u64 x.a, .int .u64 x.b, .sl (bA x.d) none ()]
structure OV.In (x : OV) : Prop where
  a : x.a < 18446744073709551616
  b : x.b < 18446744073709551616
  d : x.d.length < 70368744177000
theorem ovCells_flag (r : OV) : flaglessL r.cells = true := by simp [OV.cells, flaglessL, flagless, bA_flagless]
theorem ovCells_len (r : OV) : r.cells.length = 4 := rfl
theorem ovCells_solid (r : OV) : r.cells.all solid = true := rfl
theorem ovCells_low (n : Nat) (r : OV) : lowL n r.cells = true := by simp [OV.cells, lowL, V.low, bA_low]
theorem ovCells_0 (r : OV) : r.cells[0]? = some (.int .i64 r.code) := rfl
theorem ovCells_1 (r : OV) : r.cells[1]? = some (.int .u64 r.a) := rfl
theorem ovCells_2 (r : OV) : r.cells[2]? = some (.int .u64 r.b) := rfl
theorem ovCells_3 (r : OV) : r.cells[3]? = some (.sl (bA r.d) none ()) := rfl
theorem ovCells_take (r : OV) : r.cells.take 4 = r.cells := rfl
theorem ovCells_drop (r : OV) : r.cells.drop 4 = [] := rfl
theorem ovCells_strip (r : OV) : stripL r.cells = r.cells := by simp [OV.cells, stripL, V.strip, bA_strip]
attribute [go_sem] ovCells_flag ovCells_len ovCells_solid ovCells_low ovCells_0 ovCells_1 ovCells_2 ovCells_3 ovCells_take ovCells_drop ovCells_strip

/-- Do an operation's numbers fit? -/
def badN (x : OV) : Prop := shp x.code = 0 ∨ ((shp x.code = 1 ∨ shp x.code = 11) ∧ x.a ≠ 0) ∨ (shp x.code ≠ 9 ∧ shp x.code ≠ 10 ∧ x.b ≠ 0) ∨ (shp x.code ≠ 11 ∧ x.d.length > 0) ∨ x.d.length > 65536
instance (x : OV) : Decidable (badN x) := by unfold badN; infer_instance
def okN (x : OV) : Bool :=
  if badN x then false
  else if shp x.code = 3 then decide (x.a / 256 ^ szo x.code = 0)
  else if shp x.code = 4 then decide (ext x.a (szo x.code) = x.a)
  else if shp x.code = 7 then decide (x.a < 256) else true
theorem okN_bad {x : OV} (h : badN x) : okN x = false := if_pos h
theorem okN_3 {x : OV} (h : ¬ badN x) (h3 : shp x.code = 3) : okN x = decide (x.a / 256 ^ szo x.code = 0) := by rw [okN, if_neg h, if_pos h3]
theorem okN_4 {x : OV} (h : ¬ badN x) (h3 : shp x.code = 4) : okN x = decide (ext x.a (szo x.code) = x.a) := by rw [okN, if_neg h, if_neg (by omega), if_pos h3]
theorem okN_7 {x : OV} (h : ¬ badN x) (h3 : shp x.code = 7) : okN x = decide (x.a < 256) := by rw [okN, if_neg h, if_neg (by omega), if_neg (by omega), if_pos h3]
theorem okN_o {x : OV} (h : ¬ badN x) (h3 : shp x.code ≠ 3 ∧ shp x.code ≠ 4 ∧ shp x.code ≠ 7) : okN x = true := by rw [okN, if_neg h, if_neg h3.1, if_neg h3.2.1, if_neg h3.2.2]

section
variable {H : Heap} {Q : A → Heap → Prop}
theorem ext_8 {n : Nat} (h : n < 18446744073709551616) : ext n 8 = n := by
  unfold ext; simp only [Nat.reducePow, Nat.reduceMul, Nat.reduceSub]; split <;> omega
theorem ext_mod (n k : Nat) : ext (n % 256 ^ k) k = ext n k := by unfold ext; rw [Nat.mod_mod]
theorem shl_byte {k : Nat} (hk : k = 1 ∨ k = 2 ∨ k = 4 ∨ k = 8) (h8 : k ≠ 8) : IntKind.u64.wrap (1 * 2 ^ min (8 * (k : Int)).toNat 64) = (256 ^ k : Nat) := by
  rcases hk with rfl | rfl | rfl | rfl
  · rfl
  · rfl
  · rfl
  · exact absurd rfl h8
theorem room8_spec {x : OV} (hx : x.In) (h : Q (.bool (okN x)) H) : AC Try.prog 76 [.agg x.cells] H Q := by
  obtain ⟨xa, xb, xd⟩ := id hx
  have hr := shp_range x.code
  refine AC.enter (E := env Try.prog 86 (fun _ => .copy) (fun _ => false)) env_ok Try.func76 rfl rfl rfl (by simp only [List.length_cons, List.length_nil]; exact of_decide_eq_true rfl) ?_
  ((try first | refine walk_aw env_ok (none) ?_ | refine walk_aw envR_ok (none) ?_); try simp -implicitDefEqProofs (maxSteps := 1000000) only [go_sem, ↓reduceIte, reduceCtorEq, Nat.reduceLT, Nat.reduceEqDiff, Nat.reduceBEq, Nat.reduceAdd, Nat.reduceMul, Nat.reduceSub, Nat.reduceLeDiff, Int.reduceNeg, Int.reduceLT, Int.reduceLE, Int.reduceEq, Int.reduceAdd, Int.reduceToNat])
  refine Shape_spec ?_
  by_cases c0 : shp x.code = 0
  · have q0 : (shp x.code = 0) = True := eq_true (by omega)
    have q1 : ¬ shp x.code = 1 := by omega
    have q9 : ¬ shp x.code = 9 := by omega
    have q10 : ¬ shp x.code = 10 := by omega
    have q11 : ¬ shp x.code = 11 := by omega
    have q3 : ¬ shp x.code = 3 := by omega
    have q4 : ¬ shp x.code = 4 := by omega
    have q7 : ¬ shp x.code = 7 := by omega
    have hb : badN x := by unfold badN; omega
    rw [okN_bad hb] at h
    ((try first | refine walk_aw env_ok (none) ?_ | refine walk_aw envR_ok (none) ?_); try simp -implicitDefEqProofs (maxSteps := 1000000) only [go_sem, ↓reduceIte, reduceCtorEq, Nat.reduceLT, Nat.reduceEqDiff, Nat.reduceBEq, Nat.reduceAdd, Nat.reduceMul, Nat.reduceSub, Nat.reduceLeDiff, Int.reduceNeg, Int.reduceLT, Int.reduceLE, Int.reduceEq, Int.reduceAdd, Int.reduceToNat, q0, q1, q9, q10, q11, q3, q4, q7])
    exact .inr h
  by_cases c1 : shp x.code = 1
  · have q0 : ¬ shp x.code = 0 := by omega
    have q1 : (shp x.code = 1) = True := eq_true (by omega)
    have q9 : ¬ shp x.code = 9 := by omega
    have q10 : ¬ shp x.code = 10 := by omega
    have q11 : ¬ shp x.code = 11 := by omega
    have q3 : ¬ shp x.code = 3 := by omega
    have q4 : ¬ shp x.code = 4 := by omega
    have q7 : ¬ shp x.code = 7 := by omega
    by_cases ca : x.a = 0
    · have a0 : (x.a : Int) = 0 := by omega
      by_cases cb : x.b = 0
      · have b0 : (x.b : Int) = 0 := by omega
        by_cases cd : x.d.length = 0
        · have d0 : ¬ (x.d.length : Int) > 0 := by omega
          have e0 : ¬ (x.d.length : Int) > 65536 := by omega
          have hb : ¬ badN x := by unfold badN; omega
          rw [okN_o hb (by omega)] at h
          ((try first | refine walk_aw env_ok (none) ?_ | refine walk_aw envR_ok (none) ?_); try simp -implicitDefEqProofs (maxSteps := 1000000) only [go_sem, ↓reduceIte, reduceCtorEq, Nat.reduceLT, Nat.reduceEqDiff, Nat.reduceBEq, Nat.reduceAdd, Nat.reduceMul, Nat.reduceSub, Nat.reduceLeDiff, Int.reduceNeg, Int.reduceLT, Int.reduceLE, Int.reduceEq, Int.reduceAdd, Int.reduceToNat, q0, q1, q9, q10, q11, q3, q4, q7, a0, b0, d0, e0])
          exact .inr h
        · have d0 : (x.d.length : Int) > 0 := by omega
          have hb : badN x := by unfold badN; omega
          rw [okN_bad hb] at h
          ((try first | refine walk_aw env_ok (none) ?_ | refine walk_aw envR_ok (none) ?_); try simp -implicitDefEqProofs (maxSteps := 1000000) only [go_sem, ↓reduceIte, reduceCtorEq, Nat.reduceLT, Nat.reduceEqDiff, Nat.reduceBEq, Nat.reduceAdd, Nat.reduceMul, Nat.reduceSub, Nat.reduceLeDiff, Int.reduceNeg, Int.reduceLT, Int.reduceLE, Int.reduceEq, Int.reduceAdd, Int.reduceToNat, q0, q1, q9, q10, q11, q3, q4, q7, a0, b0, d0])
          exact .inr h
      · have b0 : ¬ (x.b : Int) = 0 := by omega
        have hb : badN x := by unfold badN; omega
        rw [okN_bad hb] at h
        ((try first | refine walk_aw env_ok (none) ?_ | refine walk_aw envR_ok (none) ?_); try simp -implicitDefEqProofs (maxSteps := 1000000) only [go_sem, ↓reduceIte, reduceCtorEq, Nat.reduceLT, Nat.reduceEqDiff, Nat.reduceBEq, Nat.reduceAdd, Nat.reduceMul, Nat.reduceSub, Nat.reduceLeDiff, Int.reduceNeg, Int.reduceLT, Int.reduceLE, Int.reduceEq, Int.reduceAdd, Int.reduceToNat, q0, q1, q9, q10, q11, q3, q4, q7, a0, b0])
        exact .inr h
    · have a0 : ¬ (x.a : Int) = 0 := by omega
      have hb : badN x := by unfold badN; omega
      rw [okN_bad hb] at h
      ((try first | refine walk_aw env_ok (none) ?_ | refine walk_aw envR_ok (none) ?_); try simp -implicitDefEqProofs (maxSteps := 1000000) only [go_sem, ↓reduceIte, reduceCtorEq, Nat.reduceLT, Nat.reduceEqDiff, Nat.reduceBEq, Nat.reduceAdd, Nat.reduceMul, Nat.reduceSub, Nat.reduceLeDiff, Int.reduceNeg, Int.reduceLT, Int.reduceLE, Int.reduceEq, Int.reduceAdd, Int.reduceToNat, q0, q1, q9, q10, q11, q3, q4, q7, a0])
      exact .inr h
  by_cases c11 : shp x.code = 11
  · have q0 : ¬ shp x.code = 0 := by omega
    have q1 : ¬ shp x.code = 1 := by omega
    have q9 : ¬ shp x.code = 9 := by omega
    have q10 : ¬ shp x.code = 10 := by omega
    have q11 : (shp x.code = 11) = True := eq_true (by omega)
    have q3 : ¬ shp x.code = 3 := by omega
    have q4 : ¬ shp x.code = 4 := by omega
    have q7 : ¬ shp x.code = 7 := by omega
    by_cases ca : x.a = 0
    · have a0 : (x.a : Int) = 0 := by omega
      by_cases cb : x.b = 0
      · have b0 : (x.b : Int) = 0 := by omega
        by_cases cd : x.d.length ≤ 65536
        · have e0 : ¬ (x.d.length : Int) > 65536 := by omega
          have hb : ¬ badN x := by unfold badN; omega
          rw [okN_o hb (by omega)] at h
          ((try first | refine walk_aw env_ok (none) ?_ | refine walk_aw envR_ok (none) ?_); try simp -implicitDefEqProofs (maxSteps := 1000000) only [go_sem, ↓reduceIte, reduceCtorEq, Nat.reduceLT, Nat.reduceEqDiff, Nat.reduceBEq, Nat.reduceAdd, Nat.reduceMul, Nat.reduceSub, Nat.reduceLeDiff, Int.reduceNeg, Int.reduceLT, Int.reduceLE, Int.reduceEq, Int.reduceAdd, Int.reduceToNat, q0, q1, q9, q10, q11, q3, q4, q7, a0, b0, e0])
          exact .inr h
        · have e0 : (x.d.length : Int) > 65536 := by omega
          have hb : badN x := by unfold badN; omega
          rw [okN_bad hb] at h
          ((try first | refine walk_aw env_ok (none) ?_ | refine walk_aw envR_ok (none) ?_); try simp -implicitDefEqProofs (maxSteps := 1000000) only [go_sem, ↓reduceIte, reduceCtorEq, Nat.reduceLT, Nat.reduceEqDiff, Nat.reduceBEq, Nat.reduceAdd, Nat.reduceMul, Nat.reduceSub, Nat.reduceLeDiff, Int.reduceNeg, Int.reduceLT, Int.reduceLE, Int.reduceEq, Int.reduceAdd, Int.reduceToNat, q0, q1, q9, q10, q11, q3, q4, q7, a0, b0, e0])
          exact .inr h
      · have b0 : ¬ (x.b : Int) = 0 := by omega
        have hb : badN x := by unfold badN; omega
        rw [okN_bad hb] at h
        ((try first | refine walk_aw env_ok (none) ?_ | refine walk_aw envR_ok (none) ?_); try simp -implicitDefEqProofs (maxSteps := 1000000) only [go_sem, ↓reduceIte, reduceCtorEq, Nat.reduceLT, Nat.reduceEqDiff, Nat.reduceBEq, Nat.reduceAdd, Nat.reduceMul, Nat.reduceSub, Nat.reduceLeDiff, Int.reduceNeg, Int.reduceLT, Int.reduceLE, Int.reduceEq, Int.reduceAdd, Int.reduceToNat, q0, q1, q9, q10, q11, q3, q4, q7, a0, b0])
        exact .inr h
    · have a0 : ¬ (x.a : Int) = 0 := by omega
      have hb : badN x := by unfold badN; omega
      rw [okN_bad hb] at h
      ((try first | refine walk_aw env_ok (none) ?_ | refine walk_aw envR_ok (none) ?_); try simp -implicitDefEqProofs (maxSteps := 1000000) only [go_sem, ↓reduceIte, reduceCtorEq, Nat.reduceLT, Nat.reduceEqDiff, Nat.reduceBEq, Nat.reduceAdd, Nat.reduceMul, Nat.reduceSub, Nat.reduceLeDiff, Int.reduceNeg, Int.reduceLT, Int.reduceLE, Int.reduceEq, Int.reduceAdd, Int.reduceToNat, q0, q1, q9, q10, q11, q3, q4, q7, a0])
      exact .inr h
  by_cases c9 : shp x.code = 9
  · have q0 : ¬ shp x.code = 0 := by omega
    have q1 : ¬ shp x.code = 1 := by omega
    have q9 : (shp x.code = 9) = True := eq_true (by omega)
    have q10 : ¬ shp x.code = 10 := by omega
    have q11 : ¬ shp x.code = 11 := by omega
    have q3 : ¬ shp x.code = 3 := by omega
    have q4 : ¬ shp x.code = 4 := by omega
    have q7 : ¬ shp x.code = 7 := by omega
    by_cases cd : x.d.length = 0
    · have d0 : ¬ (x.d.length : Int) > 0 := by omega
      have e0 : ¬ (x.d.length : Int) > 65536 := by omega
      have hb : ¬ badN x := by unfold badN; omega
      rw [okN_o hb (by omega)] at h
      ((try first | refine walk_aw env_ok (none) ?_ | refine walk_aw envR_ok (none) ?_); try simp -implicitDefEqProofs (maxSteps := 1000000) only [go_sem, ↓reduceIte, reduceCtorEq, Nat.reduceLT, Nat.reduceEqDiff, Nat.reduceBEq, Nat.reduceAdd, Nat.reduceMul, Nat.reduceSub, Nat.reduceLeDiff, Int.reduceNeg, Int.reduceLT, Int.reduceLE, Int.reduceEq, Int.reduceAdd, Int.reduceToNat, q0, q1, q9, q10, q11, q3, q4, q7, d0, e0])
      exact .inr h
    · have d0 : (x.d.length : Int) > 0 := by omega
      have hb : badN x := by unfold badN; omega
      rw [okN_bad hb] at h
      ((try first | refine walk_aw env_ok (none) ?_ | refine walk_aw envR_ok (none) ?_); try simp -implicitDefEqProofs (maxSteps := 1000000) only [go_sem, ↓reduceIte, reduceCtorEq, Nat.reduceLT, Nat.reduceEqDiff, Nat.reduceBEq, Nat.reduceAdd, Nat.reduceMul, Nat.reduceSub, Nat.reduceLeDiff, Int.reduceNeg, Int.reduceLT, Int.reduceLE, Int.reduceEq, Int.reduceAdd, Int.reduceToNat, q0, q1, q9, q10, q11, q3, q4, q7, d0])
      exact .inr h
  by_cases c10 : shp x.code = 10
  · have q0 : ¬ shp x.code = 0 := by omega
    have q1 : ¬ shp x.code = 1 := by omega
    have q9 : ¬ shp x.code = 9 := by omega
    have q10 : (shp x.code = 10) = True := eq_true (by omega)
    have q11 : ¬ shp x.code = 11 := by omega
    have q3 : ¬ shp x.code = 3 := by omega
    have q4 : ¬ shp x.code = 4 := by omega
    have q7 : ¬ shp x.code = 7 := by omega
    by_cases cd : x.d.length = 0
    · have d0 : ¬ (x.d.length : Int) > 0 := by omega
      have e0 : ¬ (x.d.length : Int) > 65536 := by omega
      have hb : ¬ badN x := by unfold badN; omega
      rw [okN_o hb (by omega)] at h
      ((try first | refine walk_aw env_ok (none) ?_ | refine walk_aw envR_ok (none) ?_); try simp -implicitDefEqProofs (maxSteps := 1000000) only [go_sem, ↓reduceIte, reduceCtorEq, Nat.reduceLT, Nat.reduceEqDiff, Nat.reduceBEq, Nat.reduceAdd, Nat.reduceMul, Nat.reduceSub, Nat.reduceLeDiff, Int.reduceNeg, Int.reduceLT, Int.reduceLE, Int.reduceEq, Int.reduceAdd, Int.reduceToNat, q0, q1, q9, q10, q11, q3, q4, q7, d0, e0])
      exact .inr h
    · have d0 : (x.d.length : Int) > 0 := by omega
      have hb : badN x := by unfold badN; omega
      rw [okN_bad hb] at h
      ((try first | refine walk_aw env_ok (none) ?_ | refine walk_aw envR_ok (none) ?_); try simp -implicitDefEqProofs (maxSteps := 1000000) only [go_sem, ↓reduceIte, reduceCtorEq, Nat.reduceLT, Nat.reduceEqDiff, Nat.reduceBEq, Nat.reduceAdd, Nat.reduceMul, Nat.reduceSub, Nat.reduceLeDiff, Int.reduceNeg, Int.reduceLT, Int.reduceLE, Int.reduceEq, Int.reduceAdd, Int.reduceToNat, q0, q1, q9, q10, q11, q3, q4, q7, d0])
      exact .inr h
  have q0 : ¬ shp x.code = 0 := by omega
  have q1 : ¬ shp x.code = 1 := by omega
  have q9 : ¬ shp x.code = 9 := by omega
  have q10 : ¬ shp x.code = 10 := by omega
  have q11 : ¬ shp x.code = 11 := by omega
  by_cases cb : x.b ≠ 0
  · have b0 : ¬ (x.b : Int) = 0 := by omega
    have hb : badN x := by unfold badN; omega
    rw [okN_bad hb] at h
    ((try first | refine walk_aw env_ok (none) ?_ | refine walk_aw envR_ok (none) ?_); try simp -implicitDefEqProofs (maxSteps := 1000000) only [go_sem, ↓reduceIte, reduceCtorEq, Nat.reduceLT, Nat.reduceEqDiff, Nat.reduceBEq, Nat.reduceAdd, Nat.reduceMul, Nat.reduceSub, Nat.reduceLeDiff, Int.reduceNeg, Int.reduceLT, Int.reduceLE, Int.reduceEq, Int.reduceAdd, Int.reduceToNat, q0, q1, q9, q10, q11, b0])
    exact .inr h
  have b0 : (x.b : Int) = 0 := by omega
  by_cases cd : x.d.length ≠ 0
  · have d0 : (x.d.length : Int) > 0 := by omega
    have hb : badN x := by unfold badN; omega
    rw [okN_bad hb] at h
    ((try first | refine walk_aw env_ok (none) ?_ | refine walk_aw envR_ok (none) ?_); try simp -implicitDefEqProofs (maxSteps := 1000000) only [go_sem, ↓reduceIte, reduceCtorEq, Nat.reduceLT, Nat.reduceEqDiff, Nat.reduceBEq, Nat.reduceAdd, Nat.reduceMul, Nat.reduceSub, Nat.reduceLeDiff, Int.reduceNeg, Int.reduceLT, Int.reduceLE, Int.reduceEq, Int.reduceAdd, Int.reduceToNat, q0, q1, q9, q10, q11, b0, d0])
    exact .inr h
  have d0 : ¬ (x.d.length : Int) > 0 := by omega
  have e0 : ¬ (x.d.length : Int) > 65536 := by omega
  have hb : ¬ badN x := by unfold badN; omega
  by_cases c7 : shp x.code = 7
  · have q3 : ¬ shp x.code = 3 := by omega
    have q4 : ¬ shp x.code = 4 := by omega
    have q7 : (shp x.code = 7) = True := eq_true (by omega)
    rw [okN_7 hb c7] at h
    have hd : decide ((x.a : Int) < 256) = decide (x.a < 256) := decide_eq_decide.2 (by omega)
    ((try first | refine walk_aw env_ok (none) ?_ | refine walk_aw envR_ok (none) ?_); try simp -implicitDefEqProofs (maxSteps := 1000000) only [go_sem, ↓reduceIte, reduceCtorEq, Nat.reduceLT, Nat.reduceEqDiff, Nat.reduceBEq, Nat.reduceAdd, Nat.reduceMul, Nat.reduceSub, Nat.reduceLeDiff, Int.reduceNeg, Int.reduceLT, Int.reduceLE, Int.reduceEq, Int.reduceAdd, Int.reduceToNat, q0, q1, q9, q10, q11, b0, d0, e0, q3, q4, q7, hd])
    exact .inr h
  by_cases c3 : shp x.code = 3
  · have q3 : (shp x.code = 3) = True := eq_true (by omega)
    have q4 : ¬ shp x.code = 4 := by omega
    have q7 : ¬ shp x.code = 7 := by omega
    rw [okN_3 hb c3] at h
    have hc := shp_plain (.inl c3)
    ((try first | refine walk_aw env_ok (none) ?_ | refine walk_aw envR_ok (none) ?_); try simp -implicitDefEqProofs (maxSteps := 1000000) only [go_sem, ↓reduceIte, reduceCtorEq, Nat.reduceLT, Nat.reduceEqDiff, Nat.reduceBEq, Nat.reduceAdd, Nat.reduceMul, Nat.reduceSub, Nat.reduceLeDiff, Int.reduceNeg, Int.reduceLT, Int.reduceLE, Int.reduceEq, Int.reduceAdd, Int.reduceToNat, q0, q1, q9, q10, q11, b0, d0, e0, q3, q4, q7])
    refine osize_spec hc ?_
    have hsz := szo_or x.code
    by_cases c8 : szo x.code = 8
    · have s8 : ((szo x.code : Nat) : Int) = 8 := by omega
      have hz : x.a / 256 ^ szo x.code = 0 := by rw [c8]; simp only [Nat.reducePow]; omega
      rw [decide_eq_true hz] at h
      ((try first | refine walk_aw env_ok (none) ?_ | refine walk_aw envR_ok (none) ?_); try simp -implicitDefEqProofs (maxSteps := 1000000) only [go_sem, ↓reduceIte, reduceCtorEq, Nat.reduceLT, Nat.reduceEqDiff, Nat.reduceBEq, Nat.reduceAdd, Nat.reduceMul, Nat.reduceSub, Nat.reduceLeDiff, Int.reduceNeg, Int.reduceLT, Int.reduceLE, Int.reduceEq, Int.reduceAdd, Int.reduceToNat, q0, q1, q9, q10, q11, b0, d0, e0, q3, q4, q7, s8])
      exact .inr h
    · have s8 : ¬ ((szo x.code : Nat) : Int) = 8 := by omega
      have w1 : IntKind.i64.wrap (8 * ((szo x.code : Nat) : Int)) = 8 * (szo x.code : Nat) := by rw [wi64]; omega
      have w2 : IntKind.u64.wrap (8 * ((szo x.code : Nat) : Int)) = 8 * (szo x.code : Nat) := by rw [wu64]; omega
      have n0 : ¬ 8 * ((szo x.code : Nat) : Int) < 0 := by omega
      have hd : decide (((x.a : Int).fdiv (2 ^ min (8 * ((szo x.code : Nat) : Int)).toNat 64)) = 0) = decide (x.a / 256 ^ szo x.code = 0) := by
        rw [shr_byte x.a _ (by omega)]; exact decide_eq_decide.2 (by omega)
      ((try first | refine walk_aw env_ok (none) ?_ | refine walk_aw envR_ok (none) ?_); try simp -implicitDefEqProofs (maxSteps := 1000000) only [go_sem, ↓reduceIte, reduceCtorEq, Nat.reduceLT, Nat.reduceEqDiff, Nat.reduceBEq, Nat.reduceAdd, Nat.reduceMul, Nat.reduceSub, Nat.reduceLeDiff, Int.reduceNeg, Int.reduceLT, Int.reduceLE, Int.reduceEq, Int.reduceAdd, Int.reduceToNat, q0, q1, q9, q10, q11, b0, d0, e0, q3, q4, q7, s8, w1, w2, n0, hd])
      exact .inr h
  by_cases c4 : shp x.code = 4
  · have q3 : ¬ shp x.code = 3 := by omega
    have q4 : (shp x.code = 4) = True := eq_true (by omega)
    have q7 : ¬ shp x.code = 7 := by omega
    rw [okN_4 hb c4] at h
    have hc := shp_plain (.inr c4)
    have hsz := szo_or x.code
    have hd : decide (((ext x.a (szo x.code) : Nat) : Int) = x.a) = decide (ext x.a (szo x.code) = x.a) := decide_eq_decide.2 (by omega)
    ((try first | refine walk_aw env_ok (none) ?_ | refine walk_aw envR_ok (none) ?_); try simp -implicitDefEqProofs (maxSteps := 1000000) only [go_sem, ↓reduceIte, reduceCtorEq, Nat.reduceLT, Nat.reduceEqDiff, Nat.reduceBEq, Nat.reduceAdd, Nat.reduceMul, Nat.reduceSub, Nat.reduceLeDiff, Int.reduceNeg, Int.reduceLT, Int.reduceLE, Int.reduceEq, Int.reduceAdd, Int.reduceToNat, q0, q1, q9, q10, q11, b0, d0, e0, q3, q4, q7])
    refine AW.chain env_ok [0, 1, 0, 4, 12, 31, 0, 64, 255, 511] [0, 1, 2, 3, 4, 5, 6, 7, 8] [(9, [], [])] mixed (by decide) ?_
    ((try first | refine walk_aw env_ok (none) ?_ | refine walk_aw envR_ok (none) ?_); try simp -implicitDefEqProofs (maxSteps := 1000000) only [go_sem, ↓reduceIte, reduceCtorEq, Nat.reduceLT, Nat.reduceEqDiff, Nat.reduceBEq, Nat.reduceAdd, Nat.reduceMul, Nat.reduceSub, Nat.reduceLeDiff, Int.reduceNeg, Int.reduceLT, Int.reduceLE, Int.reduceEq, Int.reduceAdd, Int.reduceToNat, q0, q1, q9, q10, q11, b0, d0, e0, q3, q4, q7])
    refine QC.mk (osize_spec hc ⟨rfl, rfl⟩) ?_
    ((try first | refine walk_aw env_ok (none) ?_ | refine walk_aw envR_ok (none) ?_); try simp -implicitDefEqProofs (maxSteps := 1000000) only [go_sem, ↓reduceIte, reduceCtorEq, Nat.reduceLT, Nat.reduceEqDiff, Nat.reduceBEq, Nat.reduceAdd, Nat.reduceMul, Nat.reduceSub, Nat.reduceLeDiff, Int.reduceNeg, Int.reduceLT, Int.reduceLE, Int.reduceEq, Int.reduceAdd, Int.reduceToNat, q0, q1, q9, q10, q11, b0, d0, e0, q3, q4, q7])
    refine QC.mk (extended_spec xa hsz ⟨rfl, rfl⟩) ?_
    ((try first | refine walk_aw env_ok (none) ?_ | refine walk_aw envR_ok (none) ?_); try simp -implicitDefEqProofs (maxSteps := 1000000) only [go_sem, ↓reduceIte, reduceCtorEq, Nat.reduceLT, Nat.reduceEqDiff, Nat.reduceBEq, Nat.reduceAdd, Nat.reduceMul, Nat.reduceSub, Nat.reduceLeDiff, Int.reduceNeg, Int.reduceLT, Int.reduceLE, Int.reduceEq, Int.reduceAdd, Int.reduceToNat, q0, q1, q9, q10, q11, b0, d0, e0, q3, q4, q7, hd])
    exact .inr h
  have q3 : ¬ shp x.code = 3 := by omega
  have q4 : ¬ shp x.code = 4 := by omega
  have q7 : ¬ shp x.code = 7 := by omega
  rw [okN_o hb ⟨c3, c4, c7⟩] at h
  ((try first | refine walk_aw env_ok (none) ?_ | refine walk_aw envR_ok (none) ?_); try simp -implicitDefEqProofs (maxSteps := 1000000) only [go_sem, ↓reduceIte, reduceCtorEq, Nat.reduceLT, Nat.reduceEqDiff, Nat.reduceBEq, Nat.reduceAdd, Nat.reduceMul, Nat.reduceSub, Nat.reduceLeDiff, Int.reduceNeg, Int.reduceLT, Int.reduceLE, Int.reduceEq, Int.reduceAdd, Int.reduceToNat, q0, q1, q9, q10, q11, b0, d0, e0, q3, q4, q7])
  exact .inr h
end
end Go.Ab
end

section
/- Operations: which numbers may be. -/
namespace Go.Ab
open V Go.Proofs
set_option maxHeartbeats 8000000
set_option maxRecDepth 10000
set_option linter.unusedSimpArgs false
set_option linter.unusedVariables false

section
variable {H : Heap} {Q : A → Heap → Prop}
theorem numbers_spec {x : OV} (hx : x.In) (h : Q (.bool (okN x)) H) : AC Try.prog 45 [.agg x.cells] H Q := by
  obtain ⟨xa, xb, xd⟩ := id hx
  have hr := shp_range x.code
  refine AC.enter (E := env Try.prog 97 (fun _ => .copy) (fun _ => false)) env_ok Try.func45 rfl rfl rfl (by simp only [List.length_cons, List.length_nil]; exact of_decide_eq_true rfl) ?_
  ((try first | refine walk_aw env_ok (none) ?_ | refine walk_aw envR_ok (none) ?_); try simp -implicitDefEqProofs (maxSteps := 1000000) only [go_sem, ↓reduceIte, reduceCtorEq, Nat.reduceLT, Nat.reduceEqDiff, Nat.reduceBEq, Nat.reduceAdd, Nat.reduceMul, Nat.reduceSub, Nat.reduceLeDiff, Int.reduceNeg, Int.reduceLT, Int.reduceLE, Int.reduceEq, Int.reduceAdd, Int.reduceToNat])
  refine rShape_spec ?_
  by_cases c0 : shp x.code = 0
  · have q0 : (shp x.code = 0) = True := eq_true (by omega)
    have q1 : ¬ shp x.code = 1 := by omega
    have q9 : ¬ shp x.code = 9 := by omega
    have q10 : ¬ shp x.code = 10 := by omega
    have q11 : ¬ shp x.code = 11 := by omega
    have q3 : ¬ shp x.code = 3 := by omega
    have q4 : ¬ shp x.code = 4 := by omega
    have q7 : ¬ shp x.code = 7 := by omega
    have hb : badN x := by unfold badN; omega
    rw [okN_bad hb] at h
    ((try first | refine walk_aw env_ok (none) ?_ | refine walk_aw envR_ok (none) ?_); try simp -implicitDefEqProofs (maxSteps := 1000000) only [go_sem, ↓reduceIte, reduceCtorEq, Nat.reduceLT, Nat.reduceEqDiff, Nat.reduceBEq, Nat.reduceAdd, Nat.reduceMul, Nat.reduceSub, Nat.reduceLeDiff, Int.reduceNeg, Int.reduceLT, Int.reduceLE, Int.reduceEq, Int.reduceAdd, Int.reduceToNat, q0, q1, q9, q10, q11, q3, q4, q7])
    exact .inr h
  by_cases c1 : shp x.code = 1
  · have q0 : ¬ shp x.code = 0 := by omega
    have q1 : (shp x.code = 1) = True := eq_true (by omega)
    have q9 : ¬ shp x.code = 9 := by omega
    have q10 : ¬ shp x.code = 10 := by omega
    have q11 : ¬ shp x.code = 11 := by omega
    have q3 : ¬ shp x.code = 3 := by omega
    have q4 : ¬ shp x.code = 4 := by omega
    have q7 : ¬ shp x.code = 7 := by omega
    by_cases ca : x.a = 0
    · have a0 : (x.a : Int) = 0 := by omega
      by_cases cb : x.b = 0
      · have b0 : (x.b : Int) = 0 := by omega
        by_cases cd : x.d.length = 0
        · have d0 : ¬ (x.d.length : Int) > 0 := by omega
          have e0 : ¬ (x.d.length : Int) > 65536 := by omega
          have hb : ¬ badN x := by unfold badN; omega
          rw [okN_o hb (by omega)] at h
          ((try first | refine walk_aw env_ok (none) ?_ | refine walk_aw envR_ok (none) ?_); try simp -implicitDefEqProofs (maxSteps := 1000000) only [go_sem, ↓reduceIte, reduceCtorEq, Nat.reduceLT, Nat.reduceEqDiff, Nat.reduceBEq, Nat.reduceAdd, Nat.reduceMul, Nat.reduceSub, Nat.reduceLeDiff, Int.reduceNeg, Int.reduceLT, Int.reduceLE, Int.reduceEq, Int.reduceAdd, Int.reduceToNat, q0, q1, q9, q10, q11, q3, q4, q7, a0, b0, d0, e0])
          exact .inr h
        · have d0 : (x.d.length : Int) > 0 := by omega
          have hb : badN x := by unfold badN; omega
          rw [okN_bad hb] at h
          ((try first | refine walk_aw env_ok (none) ?_ | refine walk_aw envR_ok (none) ?_); try simp -implicitDefEqProofs (maxSteps := 1000000) only [go_sem, ↓reduceIte, reduceCtorEq, Nat.reduceLT, Nat.reduceEqDiff, Nat.reduceBEq, Nat.reduceAdd, Nat.reduceMul, Nat.reduceSub, Nat.reduceLeDiff, Int.reduceNeg, Int.reduceLT, Int.reduceLE, Int.reduceEq, Int.reduceAdd, Int.reduceToNat, q0, q1, q9, q10, q11, q3, q4, q7, a0, b0, d0])
          exact .inr h
      · have b0 : ¬ (x.b : Int) = 0 := by omega
        have hb : badN x := by unfold badN; omega
        rw [okN_bad hb] at h
        ((try first | refine walk_aw env_ok (none) ?_ | refine walk_aw envR_ok (none) ?_); try simp -implicitDefEqProofs (maxSteps := 1000000) only [go_sem, ↓reduceIte, reduceCtorEq, Nat.reduceLT, Nat.reduceEqDiff, Nat.reduceBEq, Nat.reduceAdd, Nat.reduceMul, Nat.reduceSub, Nat.reduceLeDiff, Int.reduceNeg, Int.reduceLT, Int.reduceLE, Int.reduceEq, Int.reduceAdd, Int.reduceToNat, q0, q1, q9, q10, q11, q3, q4, q7, a0, b0])
        exact .inr h
    · have a0 : ¬ (x.a : Int) = 0 := by omega
      have hb : badN x := by unfold badN; omega
      rw [okN_bad hb] at h
      ((try first | refine walk_aw env_ok (none) ?_ | refine walk_aw envR_ok (none) ?_); try simp -implicitDefEqProofs (maxSteps := 1000000) only [go_sem, ↓reduceIte, reduceCtorEq, Nat.reduceLT, Nat.reduceEqDiff, Nat.reduceBEq, Nat.reduceAdd, Nat.reduceMul, Nat.reduceSub, Nat.reduceLeDiff, Int.reduceNeg, Int.reduceLT, Int.reduceLE, Int.reduceEq, Int.reduceAdd, Int.reduceToNat, q0, q1, q9, q10, q11, q3, q4, q7, a0])
      exact .inr h
  by_cases c11 : shp x.code = 11
  · have q0 : ¬ shp x.code = 0 := by omega
    have q1 : ¬ shp x.code = 1 := by omega
    have q9 : ¬ shp x.code = 9 := by omega
    have q10 : ¬ shp x.code = 10 := by omega
    have q11 : (shp x.code = 11) = True := eq_true (by omega)
    have q3 : ¬ shp x.code = 3 := by omega
    have q4 : ¬ shp x.code = 4 := by omega
    have q7 : ¬ shp x.code = 7 := by omega
    by_cases ca : x.a = 0
    · have a0 : (x.a : Int) = 0 := by omega
      by_cases cb : x.b = 0
      · have b0 : (x.b : Int) = 0 := by omega
        by_cases cd : x.d.length ≤ 65536
        · have e0 : ¬ (x.d.length : Int) > 65536 := by omega
          have hb : ¬ badN x := by unfold badN; omega
          rw [okN_o hb (by omega)] at h
          ((try first | refine walk_aw env_ok (none) ?_ | refine walk_aw envR_ok (none) ?_); try simp -implicitDefEqProofs (maxSteps := 1000000) only [go_sem, ↓reduceIte, reduceCtorEq, Nat.reduceLT, Nat.reduceEqDiff, Nat.reduceBEq, Nat.reduceAdd, Nat.reduceMul, Nat.reduceSub, Nat.reduceLeDiff, Int.reduceNeg, Int.reduceLT, Int.reduceLE, Int.reduceEq, Int.reduceAdd, Int.reduceToNat, q0, q1, q9, q10, q11, q3, q4, q7, a0, b0, e0])
          exact .inr h
        · have e0 : (x.d.length : Int) > 65536 := by omega
          have hb : badN x := by unfold badN; omega
          rw [okN_bad hb] at h
          ((try first | refine walk_aw env_ok (none) ?_ | refine walk_aw envR_ok (none) ?_); try simp -implicitDefEqProofs (maxSteps := 1000000) only [go_sem, ↓reduceIte, reduceCtorEq, Nat.reduceLT, Nat.reduceEqDiff, Nat.reduceBEq, Nat.reduceAdd, Nat.reduceMul, Nat.reduceSub, Nat.reduceLeDiff, Int.reduceNeg, Int.reduceLT, Int.reduceLE, Int.reduceEq, Int.reduceAdd, Int.reduceToNat, q0, q1, q9, q10, q11, q3, q4, q7, a0, b0, e0])
          exact .inr h
      · have b0 : ¬ (x.b : Int) = 0 := by omega
        have hb : badN x := by unfold badN; omega
        rw [okN_bad hb] at h
        ((try first | refine walk_aw env_ok (none) ?_ | refine walk_aw envR_ok (none) ?_); try simp -implicitDefEqProofs (maxSteps := 1000000) only [go_sem, ↓reduceIte, reduceCtorEq, Nat.reduceLT, Nat.reduceEqDiff, Nat.reduceBEq, Nat.reduceAdd, Nat.reduceMul, Nat.reduceSub, Nat.reduceLeDiff, Int.reduceNeg, Int.reduceLT, Int.reduceLE, Int.reduceEq, Int.reduceAdd, Int.reduceToNat, q0, q1, q9, q10, q11, q3, q4, q7, a0, b0])
        exact .inr h
    · have a0 : ¬ (x.a : Int) = 0 := by omega
      have hb : badN x := by unfold badN; omega
      rw [okN_bad hb] at h
      ((try first | refine walk_aw env_ok (none) ?_ | refine walk_aw envR_ok (none) ?_); try simp -implicitDefEqProofs (maxSteps := 1000000) only [go_sem, ↓reduceIte, reduceCtorEq, Nat.reduceLT, Nat.reduceEqDiff, Nat.reduceBEq, Nat.reduceAdd, Nat.reduceMul, Nat.reduceSub, Nat.reduceLeDiff, Int.reduceNeg, Int.reduceLT, Int.reduceLE, Int.reduceEq, Int.reduceAdd, Int.reduceToNat, q0, q1, q9, q10, q11, q3, q4, q7, a0])
      exact .inr h
  by_cases c9 : shp x.code = 9
  · have q0 : ¬ shp x.code = 0 := by omega
    have q1 : ¬ shp x.code = 1 := by omega
    have q9 : (shp x.code = 9) = True := eq_true (by omega)
    have q10 : ¬ shp x.code = 10 := by omega
    have q11 : ¬ shp x.code = 11 := by omega
    have q3 : ¬ shp x.code = 3 := by omega
    have q4 : ¬ shp x.code = 4 := by omega
    have q7 : ¬ shp x.code = 7 := by omega
    by_cases cd : x.d.length = 0
    · have d0 : ¬ (x.d.length : Int) > 0 := by omega
      have e0 : ¬ (x.d.length : Int) > 65536 := by omega
      have hb : ¬ badN x := by unfold badN; omega
      rw [okN_o hb (by omega)] at h
      ((try first | refine walk_aw env_ok (none) ?_ | refine walk_aw envR_ok (none) ?_); try simp -implicitDefEqProofs (maxSteps := 1000000) only [go_sem, ↓reduceIte, reduceCtorEq, Nat.reduceLT, Nat.reduceEqDiff, Nat.reduceBEq, Nat.reduceAdd, Nat.reduceMul, Nat.reduceSub, Nat.reduceLeDiff, Int.reduceNeg, Int.reduceLT, Int.reduceLE, Int.reduceEq, Int.reduceAdd, Int.reduceToNat, q0, q1, q9, q10, q11, q3, q4, q7, d0, e0])
      exact .inr h
    · have d0 : (x.d.length : Int) > 0 := by omega
      have hb : badN x := by unfold badN; omega
      rw [okN_bad hb] at h
      ((try first | refine walk_aw env_ok (none) ?_ | refine walk_aw envR_ok (none) ?_); try simp -implicitDefEqProofs (maxSteps := 1000000) only [go_sem, ↓reduceIte, reduceCtorEq, Nat.reduceLT, Nat.reduceEqDiff, Nat.reduceBEq, Nat.reduceAdd, Nat.reduceMul, Nat.reduceSub, Nat.reduceLeDiff, Int.reduceNeg, Int.reduceLT, Int.reduceLE, Int.reduceEq, Int.reduceAdd, Int.reduceToNat, q0, q1, q9, q10, q11, q3, q4, q7, d0])
      exact .inr h
  by_cases c10 : shp x.code = 10
  · have q0 : ¬ shp x.code = 0 := by omega
    have q1 : ¬ shp x.code = 1 := by omega
    have q9 : ¬ shp x.code = 9 := by omega
    have q10 : (shp x.code = 10) = True := eq_true (by omega)
    have q11 : ¬ shp x.code = 11 := by omega
    have q3 : ¬ shp x.code = 3 := by omega
    have q4 : ¬ shp x.code = 4 := by omega
    have q7 : ¬ shp x.code = 7 := by omega
    by_cases cd : x.d.length = 0
    · have d0 : ¬ (x.d.length : Int) > 0 := by omega
      have e0 : ¬ (x.d.length : Int) > 65536 := by omega
      have hb : ¬ badN x := by unfold badN; omega
      rw [okN_o hb (by omega)] at h
      ((try first | refine walk_aw env_ok (none) ?_ | refine walk_aw envR_ok (none) ?_); try simp -implicitDefEqProofs (maxSteps := 1000000) only [go_sem, ↓reduceIte, reduceCtorEq, Nat.reduceLT, Nat.reduceEqDiff, Nat.reduceBEq, Nat.reduceAdd, Nat.reduceMul, Nat.reduceSub, Nat.reduceLeDiff, Int.reduceNeg, Int.reduceLT, Int.reduceLE, Int.reduceEq, Int.reduceAdd, Int.reduceToNat, q0, q1, q9, q10, q11, q3, q4, q7, d0, e0])
      exact .inr h
    · have d0 : (x.d.length : Int) > 0 := by omega
      have hb : badN x := by unfold badN; omega
      rw [okN_bad hb] at h
      ((try first | refine walk_aw env_ok (none) ?_ | refine walk_aw envR_ok (none) ?_); try simp -implicitDefEqProofs (maxSteps := 1000000) only [go_sem, ↓reduceIte, reduceCtorEq, Nat.reduceLT, Nat.reduceEqDiff, Nat.reduceBEq, Nat.reduceAdd, Nat.reduceMul, Nat.reduceSub, Nat.reduceLeDiff, Int.reduceNeg, Int.reduceLT, Int.reduceLE, Int.reduceEq, Int.reduceAdd, Int.reduceToNat, q0, q1, q9, q10, q11, q3, q4, q7, d0])
      exact .inr h
  have q0 : ¬ shp x.code = 0 := by omega
  have q1 : ¬ shp x.code = 1 := by omega
  have q9 : ¬ shp x.code = 9 := by omega
  have q10 : ¬ shp x.code = 10 := by omega
  have q11 : ¬ shp x.code = 11 := by omega
  by_cases cb : x.b ≠ 0
  · have b0 : ¬ (x.b : Int) = 0 := by omega
    have hb : badN x := by unfold badN; omega
    rw [okN_bad hb] at h
    ((try first | refine walk_aw env_ok (none) ?_ | refine walk_aw envR_ok (none) ?_); try simp -implicitDefEqProofs (maxSteps := 1000000) only [go_sem, ↓reduceIte, reduceCtorEq, Nat.reduceLT, Nat.reduceEqDiff, Nat.reduceBEq, Nat.reduceAdd, Nat.reduceMul, Nat.reduceSub, Nat.reduceLeDiff, Int.reduceNeg, Int.reduceLT, Int.reduceLE, Int.reduceEq, Int.reduceAdd, Int.reduceToNat, q0, q1, q9, q10, q11, b0])
    exact .inr h
  have b0 : (x.b : Int) = 0 := by omega
  by_cases cd : x.d.length ≠ 0
  · have d0 : (x.d.length : Int) > 0 := by omega
    have hb : badN x := by unfold badN; omega
    rw [okN_bad hb] at h
    ((try first | refine walk_aw env_ok (none) ?_ | refine walk_aw envR_ok (none) ?_); try simp -implicitDefEqProofs (maxSteps := 1000000) only [go_sem, ↓reduceIte, reduceCtorEq, Nat.reduceLT, Nat.reduceEqDiff, Nat.reduceBEq, Nat.reduceAdd, Nat.reduceMul, Nat.reduceSub, Nat.reduceLeDiff, Int.reduceNeg, Int.reduceLT, Int.reduceLE, Int.reduceEq, Int.reduceAdd, Int.reduceToNat, q0, q1, q9, q10, q11, b0, d0])
    exact .inr h
  have d0 : ¬ (x.d.length : Int) > 0 := by omega
  have e0 : ¬ (x.d.length : Int) > 65536 := by omega
  have hb : ¬ badN x := by unfold badN; omega
  by_cases c7 : shp x.code = 7
  · have q3 : ¬ shp x.code = 3 := by omega
    have q4 : ¬ shp x.code = 4 := by omega
    have q7 : (shp x.code = 7) = True := eq_true (by omega)
    rw [okN_7 hb c7] at h
    have hd : decide ((x.a : Int) < 256) = decide (x.a < 256) := decide_eq_decide.2 (by omega)
    ((try first | refine walk_aw env_ok (none) ?_ | refine walk_aw envR_ok (none) ?_); try simp -implicitDefEqProofs (maxSteps := 1000000) only [go_sem, ↓reduceIte, reduceCtorEq, Nat.reduceLT, Nat.reduceEqDiff, Nat.reduceBEq, Nat.reduceAdd, Nat.reduceMul, Nat.reduceSub, Nat.reduceLeDiff, Int.reduceNeg, Int.reduceLT, Int.reduceLE, Int.reduceEq, Int.reduceAdd, Int.reduceToNat, q0, q1, q9, q10, q11, b0, d0, e0, q3, q4, q7, hd])
    exact .inr h
  by_cases c3 : shp x.code = 3
  · have q3 : (shp x.code = 3) = True := eq_true (by omega)
    have q4 : ¬ shp x.code = 4 := by omega
    have q7 : ¬ shp x.code = 7 := by omega
    rw [okN_3 hb c3] at h
    have hc := shp_plain (.inl c3)
    have hsz := szo_or x.code
    ((try first | refine walk_aw env_ok (none) ?_ | refine walk_aw envR_ok (none) ?_); try simp -implicitDefEqProofs (maxSteps := 1000000) only [go_sem, ↓reduceIte, reduceCtorEq, Nat.reduceLT, Nat.reduceEqDiff, Nat.reduceBEq, Nat.reduceAdd, Nat.reduceMul, Nat.reduceSub, Nat.reduceLeDiff, Int.reduceNeg, Int.reduceLT, Int.reduceLE, Int.reduceEq, Int.reduceAdd, Int.reduceToNat, q0, q1, q9, q10, q11, b0, d0, e0, q3, q4, q7])
    refine orsize_spec hc ?_
    by_cases c8 : szo x.code = 8
    · have s8 : ¬ ((szo x.code : Nat) : Int) < 8 := by omega
      have hz : x.a / 256 ^ szo x.code = 0 := by rw [c8]; simp only [Nat.reducePow]; omega
      rw [decide_eq_true hz] at h
      ((try first | refine walk_aw env_ok (none) ?_ | refine walk_aw envR_ok (none) ?_); try simp -implicitDefEqProofs (maxSteps := 1000000) only [go_sem, ↓reduceIte, reduceCtorEq, Nat.reduceLT, Nat.reduceEqDiff, Nat.reduceBEq, Nat.reduceAdd, Nat.reduceMul, Nat.reduceSub, Nat.reduceLeDiff, Int.reduceNeg, Int.reduceLT, Int.reduceLE, Int.reduceEq, Int.reduceAdd, Int.reduceToNat, q0, q1, q9, q10, q11, b0, d0, e0, q3, q4, q7, s8])
      exact .inr h
    · have s8 : ((szo x.code : Nat) : Int) < 8 := by omega
      have w1 : IntKind.i64.wrap (8 * ((szo x.code : Nat) : Int)) = 8 * (szo x.code : Nat) := by rw [wi64]; omega
      have w2 : IntKind.u64.wrap (8 * ((szo x.code : Nat) : Int)) = 8 * (szo x.code : Nat) := by rw [wu64]; omega
      have n0 : ¬ 8 * ((szo x.code : Nat) : Int) < 0 := by omega
      have hq := shl_byte hsz c8
      have hd : decide ((x.a : Int) < (256 ^ szo x.code : Nat)) = decide (x.a / 256 ^ szo x.code = 0) := decide_eq_decide.2 (by
        have hp : 0 < 256 ^ szo x.code := Nat.pow_pos (by decide)
        rw [Nat.div_eq_zero_iff]; omega)
      ((try first | refine walk_aw env_ok (none) ?_ | refine walk_aw envR_ok (none) ?_); try simp -implicitDefEqProofs (maxSteps := 1000000) only [go_sem, ↓reduceIte, reduceCtorEq, Nat.reduceLT, Nat.reduceEqDiff, Nat.reduceBEq, Nat.reduceAdd, Nat.reduceMul, Nat.reduceSub, Nat.reduceLeDiff, Int.reduceNeg, Int.reduceLT, Int.reduceLE, Int.reduceEq, Int.reduceAdd, Int.reduceToNat, q0, q1, q9, q10, q11, b0, d0, e0, q3, q4, q7, s8])
      refine AW.chain env_ok [0, 1, 0, 4, 12, 28, 60, 124, 255, 511] [0, 1, 2, 3, 4, 5, 6, 7, 8] [(9, [], [])] mixed (by decide) ?_
      ((try first | refine walk_aw env_ok (none) ?_ | refine walk_aw envR_ok (none) ?_); try simp -implicitDefEqProofs (maxSteps := 1000000) only [go_sem, ↓reduceIte, reduceCtorEq, Nat.reduceLT, Nat.reduceEqDiff, Nat.reduceBEq, Nat.reduceAdd, Nat.reduceMul, Nat.reduceSub, Nat.reduceLeDiff, Int.reduceNeg, Int.reduceLT, Int.reduceLE, Int.reduceEq, Int.reduceAdd, Int.reduceToNat, q0, q1, q9, q10, q11, b0, d0, e0, q3, q4, q7, s8])
      refine QC.mk (orsize_spec hc ⟨rfl, rfl⟩) ?_
      ((try first | refine walk_aw env_ok (none) ?_ | refine walk_aw envR_ok (none) ?_); try simp -implicitDefEqProofs (maxSteps := 1000000) only [go_sem, ↓reduceIte, reduceCtorEq, Nat.reduceLT, Nat.reduceEqDiff, Nat.reduceBEq, Nat.reduceAdd, Nat.reduceMul, Nat.reduceSub, Nat.reduceLeDiff, Int.reduceNeg, Int.reduceLT, Int.reduceLE, Int.reduceEq, Int.reduceAdd, Int.reduceToNat, q0, q1, q9, q10, q11, b0, d0, e0, q3, q4, q7, s8, w1, w2, n0, hq, hd])
      exact .inr h
  by_cases c4 : shp x.code = 4
  · have q3 : ¬ shp x.code = 3 := by omega
    have q4 : (shp x.code = 4) = True := eq_true (by omega)
    have q7 : ¬ shp x.code = 7 := by omega
    rw [okN_4 hb c4] at h
    have hc := shp_plain (.inr c4)
    have hsz := szo_or x.code
    ((try first | refine walk_aw env_ok (none) ?_ | refine walk_aw envR_ok (none) ?_); try simp -implicitDefEqProofs (maxSteps := 1000000) only [go_sem, ↓reduceIte, reduceCtorEq, Nat.reduceLT, Nat.reduceEqDiff, Nat.reduceBEq, Nat.reduceAdd, Nat.reduceMul, Nat.reduceSub, Nat.reduceLeDiff, Int.reduceNeg, Int.reduceLT, Int.reduceLE, Int.reduceEq, Int.reduceAdd, Int.reduceToNat, q0, q1, q9, q10, q11, b0, d0, e0, q3, q4, q7])
    refine orsize_spec hc ?_
    by_cases c8 : szo x.code = 8
    · have s8 : ¬ ((szo x.code : Nat) : Int) < 8 := by omega
      have hz : ext x.a (szo x.code) = x.a := by rw [c8]; exact ext_8 xa
      rw [decide_eq_true hz] at h
      ((try first | refine walk_aw env_ok (none) ?_ | refine walk_aw envR_ok (none) ?_); try simp -implicitDefEqProofs (maxSteps := 1000000) only [go_sem, ↓reduceIte, reduceCtorEq, Nat.reduceLT, Nat.reduceEqDiff, Nat.reduceBEq, Nat.reduceAdd, Nat.reduceMul, Nat.reduceSub, Nat.reduceLeDiff, Int.reduceNeg, Int.reduceLT, Int.reduceLE, Int.reduceEq, Int.reduceAdd, Int.reduceToNat, q0, q1, q9, q10, q11, b0, d0, e0, q3, q4, q7, s8])
      exact .inr h
    · have s8 : ((szo x.code : Nat) : Int) < 8 := by omega
      have w1 : IntKind.i64.wrap (8 * ((szo x.code : Nat) : Int)) = 8 * (szo x.code : Nat) := by rw [wi64]; omega
      have w2 : IntKind.u64.wrap (8 * ((szo x.code : Nat) : Int)) = 8 * (szo x.code : Nat) := by rw [wu64]; omega
      have n0 : ¬ 8 * ((szo x.code : Nat) : Int) < 0 := by omega
      have hq := shl_byte hsz c8
      have hp : 0 < 256 ^ szo x.code := Nat.pow_pos (by decide)
      have np : ¬ ((256 ^ szo x.code : Nat) : Int) = 0 := by omega
      have tm : Int.tmod (x.a : Int) (256 ^ szo x.code : Nat) = ((x.a % 256 ^ szo x.code : Nat) : Int) := rfl
      have hm := ext_mod x.a (szo x.code)
      have hd : decide (((ext x.a (szo x.code) : Nat) : Int) = x.a) = decide (ext x.a (szo x.code) = x.a) := decide_eq_decide.2 (by omega)
      ((try first | refine walk_aw env_ok (none) ?_ | refine walk_aw envR_ok (none) ?_); try simp -implicitDefEqProofs (maxSteps := 1000000) only [go_sem, ↓reduceIte, reduceCtorEq, Nat.reduceLT, Nat.reduceEqDiff, Nat.reduceBEq, Nat.reduceAdd, Nat.reduceMul, Nat.reduceSub, Nat.reduceLeDiff, Int.reduceNeg, Int.reduceLT, Int.reduceLE, Int.reduceEq, Int.reduceAdd, Int.reduceToNat, q0, q1, q9, q10, q11, b0, d0, e0, q3, q4, q7, s8])
      refine AW.chain env_ok [0, 1, 0, 4, 12, 28, 60, 124, 255, 0, 512, 1564, 4095, 0, 8192, 32767, 65535] [0, 1, 2, 3, 4, 5, 6, 7, 8, 9, 10, 11, 12, 13, 14, 15] [(16, [], [])] mixed (by decide) ?_
      ((try first | refine walk_aw env_ok (none) ?_ | refine walk_aw envR_ok (none) ?_); try simp -implicitDefEqProofs (maxSteps := 1000000) only [go_sem, ↓reduceIte, reduceCtorEq, Nat.reduceLT, Nat.reduceEqDiff, Nat.reduceBEq, Nat.reduceAdd, Nat.reduceMul, Nat.reduceSub, Nat.reduceLeDiff, Int.reduceNeg, Int.reduceLT, Int.reduceLE, Int.reduceEq, Int.reduceAdd, Int.reduceToNat, q0, q1, q9, q10, q11, b0, d0, e0, q3, q4, q7, s8])
      refine QC.mk (orsize_spec hc ⟨rfl, rfl⟩) ?_
      ((try first | refine walk_aw env_ok (none) ?_ | refine walk_aw envR_ok (none) ?_); try simp -implicitDefEqProofs (maxSteps := 1000000) only [go_sem, ↓reduceIte, reduceCtorEq, Nat.reduceLT, Nat.reduceEqDiff, Nat.reduceBEq, Nat.reduceAdd, Nat.reduceMul, Nat.reduceSub, Nat.reduceLeDiff, Int.reduceNeg, Int.reduceLT, Int.reduceLE, Int.reduceEq, Int.reduceAdd, Int.reduceToNat, q0, q1, q9, q10, q11, b0, d0, e0, q3, q4, q7, s8, w1, w2, n0, hq, np, tm])
      refine QC.mk (orsize_spec hc ⟨rfl, rfl⟩) ?_
      ((try first | refine walk_aw env_ok (none) ?_ | refine walk_aw envR_ok (none) ?_); try simp -implicitDefEqProofs (maxSteps := 1000000) only [go_sem, ↓reduceIte, reduceCtorEq, Nat.reduceLT, Nat.reduceEqDiff, Nat.reduceBEq, Nat.reduceAdd, Nat.reduceMul, Nat.reduceSub, Nat.reduceLeDiff, Int.reduceNeg, Int.reduceLT, Int.reduceLE, Int.reduceEq, Int.reduceAdd, Int.reduceToNat, q0, q1, q9, q10, q11, b0, d0, e0, q3, q4, q7, s8, w1, w2, n0, hq, np, tm])
      refine QC.mk (sign_spec hsz (Nat.mod_lt _ hp) ⟨rfl, rfl⟩) ?_
      ((try first | refine walk_aw env_ok (none) ?_ | refine walk_aw envR_ok (none) ?_); try simp -implicitDefEqProofs (maxSteps := 1000000) only [go_sem, ↓reduceIte, reduceCtorEq, Nat.reduceLT, Nat.reduceEqDiff, Nat.reduceBEq, Nat.reduceAdd, Nat.reduceMul, Nat.reduceSub, Nat.reduceLeDiff, Int.reduceNeg, Int.reduceLT, Int.reduceLE, Int.reduceEq, Int.reduceAdd, Int.reduceToNat, q0, q1, q9, q10, q11, b0, d0, e0, q3, q4, q7, s8, hm, hd])
      exact .inr h
  have q3 : ¬ shp x.code = 3 := by omega
  have q4 : ¬ shp x.code = 4 := by omega
  have q7 : ¬ shp x.code = 7 := by omega
  rw [okN_o hb ⟨c3, c4, c7⟩] at h
  ((try first | refine walk_aw env_ok (none) ?_ | refine walk_aw envR_ok (none) ?_); try simp -implicitDefEqProofs (maxSteps := 1000000) only [go_sem, ↓reduceIte, reduceCtorEq, Nat.reduceLT, Nat.reduceEqDiff, Nat.reduceBEq, Nat.reduceAdd, Nat.reduceMul, Nat.reduceSub, Nat.reduceLeDiff, Int.reduceNeg, Int.reduceLT, Int.reduceLE, Int.reduceEq, Int.reduceAdd, Int.reduceToNat, q0, q1, q9, q10, q11, b0, d0, e0, q3, q4, q7])
  exact .inr h
end
end Go.Ab
end
